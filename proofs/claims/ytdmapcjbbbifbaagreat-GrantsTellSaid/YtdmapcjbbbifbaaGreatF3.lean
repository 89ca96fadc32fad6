/- What functions of the program come to, each by a plain one. Conditions: none. -/
import Derived.Test.YtdmapcjbbbifbaaGreatF2
import Derived.Test.YtdmapcjbbbifbaaGreatProg
set_option maxRecDepth 100000
namespace Go.Proofs.YtdmapcjbbbifbaaGreat
open Go.Gv
set_option maxHeartbeats 1000000
variable {E w : World} {I : Mem} {Os : List Mem}
noncomputable def r17_dropped (p0 : qCatalog) (p1 : qTable) (p2 : ByteArray) : Option (qTable × Int) := (forN (fun (i17 : Nat) => fun (s16 : qTable) => (idx p1.Cons (i17 : Int)).bind (fun x26 => (bif (!sEq x26.Name p2) then some (.inl s16) else (app 16 ([] : List ByteArray) x26.Cols).bind (fun x41 => ((bif (x26.Kind == 1) then (r17_keys p1 x41).bind (fun r61 => some (r61 == 1)) else some false)).bind (fun (j52 : Bool) => ((bif j52 then (must (!(x41).isEmpty)).bind (fun _ => (r17_refers_nnsl p0 p1.Name (⟨#[]⟩ : ByteArray) (⟨#[]⟩ : ByteArray) x41).bind (fun r77 => some r77)) else some false)).bind (fun (j67 : Bool) => (bif j67 then some (.inr ((34 : Int), p1)) else (r17_Copy p1).bind (fun r98 => (sub p1.Cons 0 (i17 : Int)).bind (fun x121 => (app 176 ([] : List qCons) x121).bind (fun x124 => (sub p1.Cons (w64 ((i17 : Int) + 1)) (p1.Cons.length : Int)).bind (fun x136 => (app 176 x124 x136).bind (fun x138 => some (.inr ((0 : Int), { r98 with Cols := r98.Cols, Cons := x138, Idx := r98.Idx })))))))))))))) p1.Cons.length 0 z_qTable).bind (fun (t : qTable ⊕ ((Int × qTable))) => match t with | .inl s16 => some (p1, 4) | .inr (s86, s87) => some (s87, s86))
theorem r17_dropped_ok {p0 : qCatalog} {p1 : qTable} {p2 : ByteArray} {w_p0 : W_qCatalog} {w_p1 : W_qTable} (h_p0 : ok_qCatalog I p0 w_p0) (h_p1 : ok_qTable I p1 w_p1) (hS : St E w I Os) {r : qTable × Int} (hr : r17_dropped p0 p1 p2 = some r) :
    Calls P 89 #[(.agg (cs_qCatalog p0 w_p0).toArray), (.agg (cs_qTable p1 w_p1).toArray), (.string p2)] w (fun e w' => ∃ I' w_rw0, e = .returned (.tuple #[(.agg (cs_qTable r.1 w_rw0).toArray), (Iv r.2)]) ∧ I.Le I' ∧ St E w' I' Os ∧ ok_qTable I' r.1 w_rw0) := by
 refine calls_W (fn := Tryz.f89) rfl rfl rfl ?_
 unfold r17_dropped at hr
 refine yd nL4 ?_
 refine yx hS (cs_qCatalog p0 w_p0) 29 ?_
 intro b1 w4 hS3
 refine yx hS3 (cs_qTable p1 w_p1) 89 ?_
 intro b5 w8 hS7
 refine yx hS7 (cs_qTable z_qTable zw_qTable) 89 ?_
 intro b9 w12 hS11
 refine ya 3 7 (Iv 0) (yb (ye (yd [0] ?_)))
 refine ya 0 8 (Iv 0) (yb (W.block ?_))
 obtain ⟨t13, hloop18, hr⟩ := bsm hr
 have hlt24 := (h_p1.Cons).len_lt
 refine W.wk (W.forN (m := p1.Cons.length) hloop18 (fun (i17 : Nat) => fun (s16 : qTable) fr w => ∃ I14 w_s16, fr = [(2, .string p2), (3, Pt b1 0), (4, Pt b5 0), (6, Pt b9 0), (8, Nv i17)] ∧ I.Le I14 ∧ St E w I14 ((Bx b1 (cs_qCatalog p0 w_p0) 29) :: (Bx b5 (cs_qTable p1 w_p1) 89) :: (Bx b9 (cs_qTable s16 w_s16) 89) :: Os) ∧ ok_qTable I14 s16 w_s16) ⟨I, zw_qTable, rfl, lr, hS11.front1.front2, zok_qTable⟩ ?_ ?_)
 rintro i17 s16 _ w21 hi25 ⟨I14, w_s16, rfl, hl15, hS22, h_s16⟩ x23 hr1 hext13
 refine ye (yd nL5 ?_)
 refine WO.vs 0 [(12, Nv i17), (13, Pt b5 4)] (yf (v := (Sl w_p1.Cons.a p1.Cons w_p1.Cons.c)) (hS22.rf m1) ?_)
 refine WO.vs 3 [(15, Nv p1.Cons.length), (16, .bool (decide ((i17 : Int) < (p1.Cons.length : Int))))] (yb (yag (fun hc => ?_)))
 clear hc
 refine yg (En.next (ye (W.block (yd nL7 ?_))))
 refine ya 0 19 (Pt b5 4) (yf (v := (Sl w_p1.Cons.a p1.Cons w_p1.Cons.c)) (hS22.rf m1) ?_)
 refine ya 2 21 (Nv i17) ?_
 obtain ⟨x26, hr1, h0_x26, h1_x26, hx_x26, ha_x26, _, _, ⟨w_x26, rfl, h_x26⟩, hc_x26⟩ := sl_at ((RSl.mono h_p1.Cons hl15)) hr1
 refine yq 100 12 ha_x26 h0_x26 h1_x26 ?_
 refine yai ((cs_qCons x26 w_x26)) hc_x26 0 hS22.rm ?_
 refine yx hS22 (cs_qCons z_qCons zw_qCons) 100 ?_
 intro b27 w30 hS29
 refine yw hS29 0 (cs_qCons x26 w_x26) ?_
 intro w32 hS31
 refine yb (ye (yd nL4 ?_))
 refine ya 0 24 (Pt b27 0) (yf (v := (.string x26.Name)) (hS31.rf m0) ?_)
 refine WO.vs 2 [(26, .string p2), (27, .bool (!sEq x26.Name p2))] (yb (W.cb hr1 (fun hc hr1 => ?_) (fun hc hr1 => ?_)))
 refine yy (yk (yn (En.next (yaa nL3 ?_))))
 refine ya 0 17 (Nv i17) (y0 (j := i17) rfl (by kernel_rfl) rfl (by first | omega | (dsimp only at *; omega) | (simp only [List.length_cons, List.length_nil] at *; omega)) ?_)
 exact ya 2 8 (Iv ((i17 + 1 : Nat) : Int)) (WO.nil (yo ⟨s16, (sj hr1).symm, I14, w_s16, rfl, hl15, hS31.drop, h_s16⟩))
 refine yg (En.next (yd nL5 ?_))
 refine y3 (rel := RStr) (xs := ([] : List ByteArray)) hS31 rfl (by kernel_rfl) rfl 9 1 [] (by kernel_rfl) rfl (Elr.nil) (fun _ _ _ => trivial) ?_
 intro a37 C35 w39 hS38 ho36
 refine ya 1 29 (Pt b27 2) (yf (v := (Sl w_x26.Cols.a x26.Cols w_x26.Cols.c)) (hS38.rf m1) ?_)
 obtain ⟨x41, hx_x41, hr1⟩ := bsm hr1
 obtain ⟨h0_x41, he_x41⟩ := app_some hx_x41
 refine WO.ap 9 16 [(.string (⟨#[]⟩ : ByteArray))] hS38 ho36 h_x26.Cols hS38.im h0_x41 he_x41 ?_
 intro a42 c43 w44 C45 hS46 ho47
 obtain ⟨I48, hl49, hS51, hp50⟩ := y4 ho47 hS46
 refine ya 4 10 (Sl a42 x41 c43) (yb (ye (yd nL16 ?_)))
 refine ya 0 32 (Pt b27 1) (yf (v := (Iv x26.Kind)) (hS51.rf m0) ?_)
 refine WO.vs 2 [(34, .bool (x26.Kind == 1)), (35, .bool (x26.Kind == 1))] ?_
 obtain ⟨j52, hr2, hr1⟩ := bsm hr1
 refine WO.jw (l1 := [4, 5, 6, 7, 8]) (J := (fun fr w => ∃ I54, fr = [(3, Pt b1 0), (4, Pt b5 0), (6, Pt b9 0), (8, Nv i17), (10, Sl a42 x41 c43), (40, .bool j52)] ∧ I48.Le I54 ∧ St E w I54 ((Bx b1 (cs_qCatalog p0 w_p0) 29) :: (Bx b5 (cs_qTable p1 w_p1) 89) :: (Bx b9 (cs_qTable s16 w_s16) 89) :: Os))) ?_ ?_
 refine WO.cb hr2 (fun hc hr2 => ?_) (fun hc hr2 => ?_)
 refine yj 35 hc (yu ((cs_qTable p1 w_p1)) (hS51.rf m2) ?_)
 refine ya 5 37 (Sl a42 x41 c43) ?_
 obtain ⟨r61, hx_r56, hr2⟩ := bsm hr2
 refine y6 (r17_keys_ok (h_p1.mono (hl15.trans hl49)) hp50 hS51 hx_r56) ?_
 intro I58 w57 hl59 hS60
 refine WO.vs 7 [(39, .bool (r61 == 1)), (40, .bool (r61 == 1))] ?_
 obtain rfl := sj hr2
 exact yv ⟨I58, rfl, hl59, hS60.drop⟩
 refine yj 35 hc ?_
 iterate 4 refine yt ?_
 refine ya 8 40 (.bool false) ?_
 obtain rfl := sj hr2
 exact yv ⟨I48, rfl, lr, hS51.drop⟩
 rintro _ w65 ⟨I54, rfl, hl55, hS66⟩
 refine ya 9 41 (.bool j52) ?_
 obtain ⟨j67, hr2, hr1⟩ := bsm hr1
 refine WO.jw (l1 := [10, 11, 12, 13, 14, 15]) (J := (fun fr w => ∃ I69, fr = [(4, Pt b5 0), (6, Pt b9 0), (8, Nv i17), (47, .bool j67)] ∧ I54.Le I69 ∧ St E w I69 ((Bx b5 (cs_qTable p1 w_p1) 89) :: (Bx b9 (cs_qTable s16 w_s16) 89) :: Os))) ?_ ?_
 refine WO.cb hr2 (fun hc hr2 => ?_) (fun hc hr2 => ?_)
 refine yj 41 hc (yu ((cs_qCatalog p0 w_p0)) (hS66.rf m0) ?_)
 refine ya 11 43 (Pt b5 0) (yf (v := (.string p1.Name)) (hS66.rf m1) ?_)
 refine ya 13 45 (Sl a42 x41 c43) ?_
 obtain ⟨_, hm71, hr2⟩ := bsm hr2
 have nn_hm71 := nn_of (RSl.mono hp50 hl55) (must_some hm71)
 obtain ⟨r77, hx_r72, hr2⟩ := bsm hr2
 refine y6 (r17_refers_nnsl_ok (h_p0.mono ((hl15.trans hl49).trans hl55)) (RSl.mono hp50 hl55) nn_hm71 hS66 hx_r72) ?_
 intro I74 w73 hl75 hS76
 refine ya 15 47 (.bool r77) ?_
 obtain rfl := sj hr2
 exact yv ⟨I74, rfl, hl75, hS76.drop⟩
 refine yj 41 hc ?_
 iterate 5 refine yt ?_
 refine ya 15 47 (.bool false) ?_
 obtain rfl := sj hr2
 exact yv ⟨I54, rfl, lr, hS66.drop⟩
 rintro _ w80 ⟨I69, rfl, hl70, hS81⟩
 refine yb (W.cb hr1 (fun hc hr1 => ?_) (fun hc hr1 => ?_))
 refine yd nL3 ?_
 refine yu ((cs_qTable p1 w_p1)) (hS81.rf m0) ?_
 refine yw hS81.front1 0 (cs_qTable p1 w_p1) ?_
 intro w84 hS83
 refine ya 2 7 (Iv 34) (yb (W.ret (yc (yh (yc (ym ?_))))))
 obtain rfl := hext13 _ (sj hr1).symm
 refine yh (yc ?_)
 obtain rfl := sj hr
 exact yak _ (hS83.rd m0) ⟨I69, w_p1, rfl, (((hl15.trans hl49).trans hl55).trans hl70), hS83.drop.drop, (h_p1.mono (((hl15.trans hl49).trans hl55).trans hl70))⟩
 refine yg (En.next (yd nL4 ?_))
 refine yu ((cs_qTable p1 w_p1)) (hS81.rf m0) ?_
 obtain ⟨r98, hx_r93, hr1⟩ := bsm hr1
 refine y8 (r17_Copy_ok (h_p1.mono (((hl15.trans hl49).trans hl55).trans hl70)) hS81 hx_r93) ?_
 rintro _ w94 ⟨I95, w_r98, C_r98_3, C_r98_4, C_r98_5, rfl, hl96, hS97, h_r98_3, h_r98_4, h_r98_5⟩
 refine ⟨_, rfl, trivial, ?_⟩
 refine yx hS97 (cs_qTable z_qTable zw_qTable) 89 ?_
 intro b99 w102 hS101
 obtain ⟨I104, hl105, hS107, hp106⟩ := y4 h_r98_3 hS101.front1
 obtain ⟨I109, hl110, hS112, hp111⟩ := y4 (h_r98_5.mono hl105) hS107.front2
 refine yw hS112 0 (cs_qTable ({ r98 with Cols := r98.Cols, Cons := r98.Cons, Idx := r98.Idx }) (⟨⟨w_r98.Cols.a, w_r98.Cols.c⟩, ⟨w_r98.Cons.a, w_r98.Cons.c⟩, ⟨w_r98.Idx.a, w_r98.Idx.c⟩⟩ : W_qTable)) ?_
 intro w114 hS113
 refine yz nL2 ?_
 refine ya 0 51 (Pt b99 4) (yw hS113 4 (cs_qTable ({ r98 with Cols := r98.Cols, Cons := ([] : List qCons), Idx := r98.Idx }) (⟨⟨w_r98.Cols.a, w_r98.Cols.c⟩, ⟨none, 0⟩, ⟨w_r98.Idx.a, w_r98.Idx.c⟩⟩ : W_qTable)) ?_)
 intro w116 hS115
 refine yb (ye ?_)
 have hS119 := hS115.front1.drop.drew
 refine yao nL9 6 (KR.cons (hS119.rd m0) (KR.cons (hS119.rd m1) (KR.nil hS119.im))) ?_
 generalize World.drew _ = w120 at *
 refine ya 0 52 (Pt b99 4) (yf (v := (.slice none 0 0)) (rd_c m0 (hS119.rd m0)) ?_)
 refine ya 2 54 (Pt b5 4) (yf (v := (Sl w_p1.Cons.a p1.Cons w_p1.Cons.c)) (rd_c m1 (hS119.rd m1)) ?_)
 refine ya 4 56 (Nv i17) ?_
 obtain ⟨x121, hx_x121, hr1⟩ := bsm hr1
 obtain ⟨h0_x121, h1_x121, h2_x121, he_x121⟩ := sub_some hx_x121
 have hl_x121 : ((i17 : Int) : Int) ≤ (w_p1.Cons.c : Int) := Int.le_trans h2_x121 (Int.ofNat_le.2 ((RSl.mono h_p1.Cons ((((((hl15.trans hl49).trans hl55).trans hl70).trans hl96).trans hl105).trans hl110))).le)
 refine WO.slice (e := 100) (sz := 12) rfl (by kernel_rfl) (by kernel_rfl) (by kernel_rfl) rfl (0 : Int) ((i17 : Int) : Int) h0_x121 (.inl ⟨rfl, rfl⟩) (.inr ⟨_, _, rfl, rfl⟩) h1_x121 hl_x121 ?_
 obtain ⟨a_x121, c_x121, h_x121, ev_x121⟩ := sub_ok ((RSl.mono h_p1.Cons ((((((hl15.trans hl49).trans hl55).trans hl70).trans hl96).trans hl105).trans hl110))) h0_x121 h1_x121 h2_x121 he_x121
 refine y7 57 rfl ev_x121 ?_
 refine WO.tail rfl ?_
 have hS123 := hS119.no
 obtain ⟨x124, hx_x124, hr1⟩ := bsm hr1
 obtain ⟨h0_x124, he_x124⟩ := app_some hx_x124
 refine WO.append (e' := 100) (b := 176) (zs := (cs_qCons z_qCons zw_qCons).toArray) hS123 (OwnSl.nil (T := 100) (rel := R_qCons) (I := I109)) rfl (by kernel_rfl) rfl (by kernel_rfl) (by kernel_rfl) (by kernel_rfl) rfl rfl rfl rfl h_x121 hS123.im h0_x124 he_x124 (fun _ _ _ => trivial) ?_
 intro a125 c126 w127 C128 hS129 ho130
 refine ya 7 59 (Pt b99 4) (yw hS129.front1 4 (cs_qTable ({ r98 with Cols := r98.Cols, Cons := x124, Idx := r98.Idx }) (⟨⟨w_r98.Cols.a, w_r98.Cols.c⟩, ⟨a125, c126⟩, ⟨w_r98.Idx.a, w_r98.Idx.c⟩⟩ : W_qTable)) ?_)
 intro w133 hS132
 refine yb (ye ?_)
 have hS134 := hS132.drew
 refine yao nL10 7 (KR.cons (hS134.rd m0) (KR.cons (hS134.rd m2) (KR.nil hS134.im))) ?_
 generalize World.drew _ = w135 at *
 refine ya 0 60 (Pt b99 4) (yf (v := (Sl a125 x124 c126)) (rd_c m0 (hS134.rd m0)) ?_)
 refine ya 2 62 (Pt b5 4) (yf (v := (Sl w_p1.Cons.a p1.Cons w_p1.Cons.c)) (rd_c m1 (hS134.rd m2)) ?_)
 refine WO.vs 4 [(64, Nv i17), (65, Iv (w64 ((i17 : Int) + 1)))] ?_
 obtain ⟨x136, hx_x136, hr1⟩ := bsm hr1
 obtain ⟨h0_x136, h1_x136, h2_x136, he_x136⟩ := sub_some hx_x136
 have hl_x136 : ((p1.Cons.length : Int) : Int) ≤ (w_p1.Cons.c : Int) := Int.le_trans h2_x136 (Int.ofNat_le.2 ((RSl.mono h_p1.Cons ((((((hl15.trans hl49).trans hl55).trans hl70).trans hl96).trans hl105).trans hl110))).le)
 refine WO.slice (e := 100) (sz := 12) rfl (by kernel_rfl) (by kernel_rfl) (by kernel_rfl) rfl ((w64 ((i17 : Int) + 1)) : Int) ((p1.Cons.length : Int) : Int) h0_x136 (.inr ⟨_, _, rfl, rfl⟩) (.inl ⟨rfl, rfl⟩) h1_x136 hl_x136 ?_
 obtain ⟨a_x136, c_x136, h_x136, ev_x136⟩ := sub_ok ((RSl.mono h_p1.Cons ((((((hl15.trans hl49).trans hl55).trans hl70).trans hl96).trans hl105).trans hl110))) h0_x136 h1_x136 h2_x136 he_x136
 refine y7 66 rfl ev_x136 ?_
 refine WO.tail rfl ?_
 have hS137 := hS134.front1
 obtain ⟨x138, hx_x138, hr1⟩ := bsm hr1
 obtain ⟨h0_x138, he_x138⟩ := app_some hx_x138
 refine WO.ap 100 176 (cs_qCons z_qCons zw_qCons) hS137 ho130 h_x136 hS137.im h0_x138 he_x138 ?_
 intro a139 c140 w141 C142 hS143 ho144
 refine ya 8 68 (Pt b99 4) (yw hS143.front1 4 (cs_qTable ({ r98 with Cols := r98.Cols, Cons := x138, Idx := r98.Idx }) (⟨⟨w_r98.Cols.a, w_r98.Cols.c⟩, ⟨a139, c140⟩, ⟨w_r98.Idx.a, w_r98.Idx.c⟩⟩ : W_qTable)) ?_)
 intro w147 hS146
 refine yz nL3 ?_
 refine yu ((cs_qTable ({ r98 with Cols := r98.Cols, Cons := x138, Idx := r98.Idx }) (⟨⟨w_r98.Cols.a, w_r98.Cols.c⟩, ⟨a139, c140⟩, ⟨w_r98.Idx.a, w_r98.Idx.c⟩⟩ : W_qTable))) (hS146.rf m0) ?_
 obtain ⟨I149, hl150, hS152, hp151⟩ := y4 ho144 hS146.front1
 refine yw hS152.front2 0 (cs_qTable ({ r98 with Cols := r98.Cols, Cons := x138, Idx := r98.Idx }) (⟨⟨w_r98.Cols.a, w_r98.Cols.c⟩, ⟨a139, c140⟩, ⟨w_r98.Idx.a, w_r98.Idx.c⟩⟩ : W_qTable)) ?_
 intro w155 hS154
 refine ya 2 7 (Iv 0) (yb (W.ret (yh (yc (ym ?_)))))
 have hk156 : ok_qTable I149 ({ r98 with Cols := r98.Cols, Cons := x138, Idx := r98.Idx }) (⟨⟨w_r98.Cols.a, w_r98.Cols.c⟩, ⟨a139, c140⟩, ⟨w_r98.Idx.a, w_r98.Idx.c⟩⟩ : W_qTable) := ⟨(RSl.mono hp106 (hl110.trans hl150)), hp151, (RSl.mono hp111 hl150)⟩
 obtain rfl := hext13 _ (sj hr1).symm
 refine yh (yc ?_)
 have hk160 : ok_qTable I149 ({ r98 with Cols := r98.Cols, Cons := x138, Idx := r98.Idx }) (⟨⟨w_r98.Cols.a, w_r98.Cols.c⟩, ⟨a139, c140⟩, ⟨w_r98.Idx.a, w_r98.Idx.c⟩⟩ : W_qTable) := ⟨(RSl.mono hp106 (hl110.trans hl150)), hp151, (RSl.mono hp111 hl150)⟩
 obtain rfl := sj hr
 exact yak _ (hS154.rd m0) ⟨I149, (⟨⟨w_r98.Cols.a, w_r98.Cols.c⟩, ⟨a139, c140⟩, ⟨w_r98.Idx.a, w_r98.Idx.c⟩⟩ : W_qTable), rfl, (((((((hl15.trans hl49).trans hl55).trans hl70).trans hl96).trans hl105).trans hl110).trans hl150), hS154.drop.drop.drop, hk160⟩
 rintro s16 _ w161 ⟨I14, w_s16, rfl, hl15, hS162, h_s16⟩ he
 cases he
 refine ye (yd nL5 ?_)
 refine WO.vs 0 [(12, Nv p1.Cons.length), (13, Pt b5 4)] (yf (v := (Sl w_p1.Cons.a p1.Cons w_p1.Cons.c)) (hS162.rf m1) ?_)
 refine WO.vs 3 [(15, Nv p1.Cons.length), (16, .bool (decide ((p1.Cons.length : Int) < (p1.Cons.length : Int))))] (yb (yah (fun hc => ?_)))
 clear hc
 refine yy (yk (yl (yn (En.next (yd nL3 ?_)))))
 refine yu ((cs_qTable p1 w_p1)) (hS162.rf m1) ?_
 refine yw hS162.front2 0 (cs_qTable p1 w_p1) ?_
 intro w165 hS164
 refine ya 2 7 (Iv 4) (yb (W.ret ?_))
 obtain rfl := sj hr
 exact yak _ (hS164.rd m0) ⟨I14, w_p1, rfl, hl15, hS164.drop.drop.drop, (h_p1.mono hl15)⟩
noncomputable def r17_refers_nilsl (p0 : qCatalog) (p1 : ByteArray) (p2 : ByteArray) (p3 : ByteArray) : Option Bool := (forN (fun (i8 : Nat) => fun (_s : Unit) => (idx p0.Tables (i8 : Int)).bind (fun x15 => (loopO (fun (s25 : Int) => (some ((decide (s25 < (x15.Cons.length : Int))) && (!sEq x15.Name p2))).bind (fun (q31 : Bool) => (bif q31 then ((idx x15.Cons s25).bind (fun x38 => (bif ((x38.Kind != 3) || (!sEq x38.Table p1)) then some (.inl ()) else ((bif (sEq p3 (⟨#[]⟩ : ByteArray)) then some true else (r14_Has x38.Refs p3).bind (fun r59 => some r59))).bind (fun (j48 : Bool) => ((bif j48 then some true else some false)).bind (fun (j64 : Bool) => (bif j64 then some (.inr true) else some (.inl ()))))))).bind (fun (t : Unit ⊕ Bool) => match t with | (.inl ()) => some (.inl (w64 (s25 + 1))) | (.inr s75) => some (.inr (.inl s75))) else some (.inr (.inr ()))))) 0).bind (fun (t : Bool ⊕ Unit) => match t with | (.inl s77) => some (.inr s77) | (.inr ()) => some (.inl ())))) p0.Tables.length 0 ()).bind (fun (t : Unit ⊕ (Bool)) => match t with | .inl _ => some false | .inr s79 => some s79)
theorem r17_refers_nilsl_ok {p0 : qCatalog} {p1 : ByteArray} {p2 : ByteArray} {p3 : ByteArray} {w_p0 : W_qCatalog} (h_p0 : ok_qCatalog I p0 w_p0) (hS : St E w I Os) {r : Bool} (hr : r17_refers_nilsl p0 p1 p2 p3 = some r) :
    Calls P 51 #[(.agg (cs_qCatalog p0 w_p0).toArray), (.string p1), (.string p2), (.string p3), (.slice none 0 0)] w (fun e w' => ∃ I', e = .returned (.bool r) ∧ I.Le I' ∧ St E w' I' Os) := by
 refine calls_W (fn := Tryz.f51) rfl rfl rfl ?_
 unfold r17_refers_nilsl at hr
 refine yd nL2 ?_
 refine yx hS (cs_qCatalog p0 w_p0) 29 ?_
 intro b1 w4 hS3
 refine ya 1 10 (.bool false) (yb (ye (yd [0] ?_)))
 refine ya 0 11 (Iv 0) (yb (W.block ?_))
 obtain ⟨t5, hloop9, hr⟩ := bsm hr
 have hlt13 := (h_p0.Tables).len_lt
 refine W.wk (W.forN (m := p0.Tables.length) hloop9 (fun (i8 : Nat) => fun (_s : Unit) fr w => ∃ I6, fr = [(1, .string p1), (2, .string p2), (3, .string p3), (4, .slice none 0 0), (5, Pt b1 0), (11, Nv i8)] ∧ I.Le I6 ∧ St E w I6 ((Bx b1 (cs_qCatalog p0 w_p0) 29) :: Os)) ⟨I, rfl, lr, hS3⟩ ?_ ?_)
 rintro i8 _ _ w10 hi14 ⟨I6, rfl, hl7, hS11⟩ x12 hr1 hext5
 refine ye (yd nL5 ?_)
 refine WO.vs 0 [(15, Nv i8), (16, Pt b1 1)] (yf (v := (Sl w_p0.Tables.a p0.Tables w_p0.Tables.c)) (hS11.rf m0) ?_)
 refine WO.vs 3 [(18, Nv p0.Tables.length), (19, .bool (decide ((i8 : Int) < (p0.Tables.length : Int))))] (yb (yag (fun hc => ?_)))
 clear hc
 refine yg (En.next (ye (W.block (yd nL7 ?_))))
 refine ya 0 22 (Pt b1 1) (yf (v := (Sl w_p0.Tables.a p0.Tables w_p0.Tables.c)) (hS11.rf m0) ?_)
 refine ya 2 24 (Nv i8) ?_
 obtain ⟨x15, hr1, h0_x15, h1_x15, hx_x15, ha_x15, _, _, ⟨w_x15, rfl, h_x15⟩, hc_x15⟩ := sl_at ((RSl.mono h_p0.Tables hl7)) hr1
 refine yq 89 6 ha_x15 h0_x15 h1_x15 ?_
 refine yai ((cs_qTable x15 w_x15)) hc_x15 0 hS11.rm ?_
 refine yx hS11 (cs_qTable z_qTable zw_qTable) 89 ?_
 intro b16 w19 hS18
 refine yw hS18 0 (cs_qTable x15 w_x15) ?_
 intro w21 hS20
 refine yz [0] ?_
 refine ya 0 13 (Iv 0) (yb (W.block ?_))
 obtain ⟨t22, hloop26, hr1⟩ := bsm hr1
 refine W.wk (yap hloop26 (fun (s25 : Int) fr w => ∃ I23, fr = [(1, .string p1), (2, .string p2), (3, .string p3), (4, .slice none 0 0), (5, Pt b1 0), (11, Nv i8), (12, Pt b16 0), (13, Iv s25)] ∧ I6.Le I23 ∧ St E w I23 ((Bx b1 (cs_qCatalog p0 w_p0) 29) :: (Bx b16 (cs_qTable x15 w_x15) 89) :: Os)) ⟨I6, rfl, lr, hS20.front1⟩ ?_)
 rintro s25 _ w28 ⟨I23, rfl, hl24, hS29⟩ x30 hr2 hext22
 refine ye (yd nL11 ?_)
 refine WO.vs 0 [(27, Iv s25), (28, Pt b16 4)] (yf (v := (Sl w_x15.Cons.a x15.Cons w_x15.Cons.c)) (hS29.rf m1) ?_)
 refine WO.vs 3 [(30, Nv x15.Cons.length), (31, .bool (decide (s25 < (x15.Cons.length : Int)))), (32, .bool (decide (s25 < (x15.Cons.length : Int))))] ?_
 obtain ⟨q31, hx_q31, hr2⟩ := bsm hr2
 replace hx_q31 := sj hx_q31
 refine yac (l1 := [6, 7, 8, 9, 10]) 37 q31 ?_ ?_
 refine yp (decide (s25 < (x15.Cons.length : Int))) (fun hc => ?_) (fun hc => ?_)
 refine yj 32 hc (ya 6 33 (Pt b16 0) (yf (v := (.string x15.Name)) (hS29.rf m1) ?_))
 exact WO.vs 8 [(35, .string p2), (36, .bool (!sEq x15.Name p2)), (37, .bool (!sEq x15.Name p2))] (WO.mk 32 hc (by rw [← hx_q31, hc]; rfl))
 refine yj 32 hc ?_
 iterate 4 refine yt ?_
 exact ya 10 37 (.bool false) (WO.mk 32 hc (by rw [← hx_q31, hc]; rfl))
 refine yb (W.cb hr2 (fun hc hr2 => ?_) (fun hc hr2 => ?_))
 refine yg (En.next (ye ?_))
 obtain ⟨j34, hr3, hr2⟩ := bsm hr2
 refine W.jw (J := (fun fr w => ∃ I36, (.inl ()) = j34 ∧ fr = [(1, .string p1), (2, .string p2), (3, .string p3), (4, .slice none 0 0), (5, Pt b1 0), (11, Nv i8), (12, Pt b16 0), (13, Iv s25)] ∧ I23.Le I36 ∧ St E w I36 ((Bx b1 (cs_qCatalog p0 w_p0) 29) :: (Bx b16 (cs_qTable x15 w_x15) 89) :: Os))) ?_ ?_
 refine W.block (yd nL7 ?_)
 refine ya 0 40 (Pt b16 4) (yf (v := (Sl w_x15.Cons.a x15.Cons w_x15.Cons.c)) (hS29.rf m1) ?_)
 refine ya 2 42 (Iv s25) ?_
 obtain ⟨x38, hr3, h0_x38, h1_x38, hx_x38, ha_x38, _, _, ⟨w_x38, rfl, h_x38⟩, hc_x38⟩ := sl_at ((RSl.mono h_x15.Cons hl24)) hr3
 refine yq 100 12 ha_x38 h0_x38 h1_x38 ?_
 refine yai ((cs_qCons x38 w_x38)) hc_x38 0 hS29.rm ?_
 refine yx hS29 (cs_qCons z_qCons zw_qCons) 100 ?_
 intro b39 w42 hS41
 refine yw hS41 0 (cs_qCons x38 w_x38) ?_
 intro w44 hS43
 refine yb (ye (yd nL9 ?_))
 refine ya 0 45 (Pt b39 1) (yf (v := (Iv x38.Kind)) (hS43.rf m0) ?_)
 refine WO.vs 2 [(47, .bool (x38.Kind != 3)), (48, .bool (x38.Kind != 3))] (yac (l1 := [4, 5, 6, 7, 8]) 53 ((x38.Kind != 3) || (!sEq x38.Table p1)) ?_ ?_)
 refine yp (x38.Kind != 3) (fun hc => ?_) (fun hc => ?_)
 refine yj 48 hc ?_
 iterate 4 refine yt ?_
 exact ya 8 53 (.bool true) (WO.mk 48 hc (by rw [hc]; rfl))
 refine yj 48 hc (ya 4 49 (Pt b39 10) (yf (v := (.string x38.Table)) (hS43.rf m0) ?_))
 exact WO.vs 6 [(51, .string p1), (52, .bool (!sEq x38.Table p1)), (53, .bool (!sEq x38.Table p1))] (WO.mk 48 hc (by rw [hc]; rfl))
 refine yb (W.cb hr3 (fun hc hr3 => ?_) (fun hc hr3 => ?_))
 exact yy (yk (yn (yo ⟨I23, sj hr3, rfl, lr, hS43.drop⟩)))
 refine yg (En.next (yd nL22 ?_))
 refine ya 0 54 (.slice none 0 0) (yav (e := 9) rfl (by kernel_rfl) (by kernel_rfl) rfl rfl ?_)
 refine y7 55 rfl (v := .bool true) rfl ?_
 refine WO.vs 2 [(56, .bool true), (57, .string p3), (58, .bool (sEq p3 (⟨#[]⟩ : ByteArray))), (59, .bool (sEq p3 (⟨#[]⟩ : ByteArray)))] ?_
 obtain ⟨j48, hr4, hr3⟩ := bsm hr3
 refine WO.jw (l1 := [6, 7, 8, 9, 10]) (J := (fun fr w => ∃ I50, fr = [(1, .string p1), (2, .string p2), (3, .string p3), (4, .slice none 0 0), (5, Pt b1 0), (11, Nv i8), (12, Pt b16 0), (13, Iv s25), (14, Pt b39 0), (56, .bool true), (64, .bool j48)] ∧ I23.Le I50 ∧ St E w I50 ((Bx b1 (cs_qCatalog p0 w_p0) 29) :: (Bx b16 (cs_qTable x15 w_x15) 89) :: (Bx b39 (cs_qCons x38 w_x38) 100) :: Os))) ?_ ?_
 refine WO.cb hr4 (fun hc hr4 => ?_) (fun hc hr4 => ?_)
 refine yj 59 hc ?_
 iterate 4 refine yt ?_
 refine ya 10 64 (.bool true) ?_
 obtain rfl := sj hr4
 exact yv ⟨I23, rfl, lr, hS43.front2.front2⟩
 refine yj 59 hc (ya 6 60 (Pt b39 11) (yf (v := (Sl w_x38.Refs.a x38.Refs w_x38.Refs.c)) (hS43.rf m0) ?_))
 refine ya 8 62 (.string p3) ?_
 obtain ⟨r59, hx_r54, hr4⟩ := bsm hr4
 refine y6 (r14_Has_ok h_x38.Refs hS43 hx_r54) ?_
 intro I56 w55 hl57 hS58
 refine ya 10 64 (.bool r59) ?_
 obtain rfl := sj hr4
 exact yv ⟨I56, rfl, hl57, hS58.front2.front2⟩
 rintro _ w62 ⟨I50, rfl, hl51, hS63⟩
 refine WO.vs 11 [(65, .bool j48), (66, .bool j48)] ?_
 obtain ⟨j64, hr4, hr3⟩ := bsm hr3
 refine WO.jw (l1 := [13, 14, 15, 16, 17, 18, 19, 20, 21]) (J := (fun fr w => ∃ I66, fr = [(1, .string p1), (2, .string p2), (3, .string p3), (4, .slice none 0 0), (5, Pt b1 0), (11, Nv i8), (12, Pt b16 0), (13, Iv s25), (75, .bool j64)] ∧ I50.Le I66 ∧ St E w I66 ((Bx b1 (cs_qCatalog p0 w_p0) 29) :: (Bx b16 (cs_qTable x15 w_x15) 89) :: Os))) ?_ ?_
 refine WO.cb hr4 (fun hc hr4 => ?_) (fun hc hr4 => ?_)
 refine yj 66 hc ?_
 iterate 8 refine yt ?_
 refine ya 21 75 (.bool true) ?_
 obtain rfl := sj hr4
 exact yv ⟨I50, rfl, lr, hS63.front2.drop⟩
 refine yj 66 hc (ya 13 67 (.slice none 0 0) (WO.neNil (e := 9) rfl (by kernel_rfl) (by kernel_rfl) rfl rfl ?_))
 refine y7 68 rfl (v := .bool false) rfl ?_
 refine ya 15 69 (.bool false) ?_
 iterate 4 refine yt ?_
 refine WO.vs 20 [(74, .bool false), (75, .bool false)] ?_
 obtain rfl := sj hr4
 exact yv ⟨I50, rfl, lr, hS63.front2.drop⟩
 rintro _ w72 ⟨I66, rfl, hl67, hS73⟩
 refine yb (W.cb hr3 (fun hc hr3 => ?_) (fun hc hr3 => ?_))
 refine yd [0] ?_
 refine ya 0 10 (.bool true) (yb (W.ret (yh (ym ?_))))
 obtain rfl := sj hr3
 refine yc (ym ?_)
 obtain rfl := hext22 _ (sj hr2).symm
 refine yh (yh (yc (ym ?_)))
 obtain rfl := hext5 _ (sj hr1).symm
 refine yh (yc ?_)
 obtain rfl := sj hr
 exact yr ⟨I66, rfl, (((hl7.trans hl24).trans hl51).trans hl67), hS73.drop.drop⟩
 exact yg (yi (yo ⟨I66, sj hr3, rfl, (hl51.trans hl67), hS73⟩))
 rintro _ w87 ⟨I36, rfl, rfl, hl37, hS88⟩
 refine En.next (yaa nL3 ?_)
 exact WO.vs 0 [(38, Iv s25), (39, Iv (w64 (s25 + 1))), (13, Iv (w64 (s25 + 1)))] (WO.nil (yo ⟨(w64 (s25 + 1)), (sj hr2).symm, I36, rfl, (hl24.trans hl37), hS88⟩))
 refine yy (yk (yl ?_))
 obtain rfl := hext22 _ (sj hr2).symm
 refine yn (yi (En.next (yaa nL3 ?_)))
 refine ya 0 20 (Nv i8) (y0 (j := i8) rfl (by kernel_rfl) rfl (by first | omega | (dsimp only at *; omega) | (simp only [List.length_cons, List.length_nil] at *; omega)) ?_)
 exact ya 2 11 (Iv ((i8 + 1 : Nat) : Int)) (WO.nil (yo ⟨(), (sj hr1).symm, I23, rfl, (hl7.trans hl24), hS29.front1.drop⟩))
 rintro _ _ w93 ⟨I6, rfl, hl7, hS94⟩ he
 cases he
 refine ye (yd nL5 ?_)
 refine WO.vs 0 [(15, Nv p0.Tables.length), (16, Pt b1 1)] (yf (v := (Sl w_p0.Tables.a p0.Tables w_p0.Tables.c)) (hS94.rf m0) ?_)
 refine WO.vs 3 [(18, Nv p0.Tables.length), (19, .bool (decide ((p0.Tables.length : Int) < (p0.Tables.length : Int))))] (yb (yah (fun hc => ?_)))
 clear hc
 refine yy (yk (yl (yn (En.next (yd [0] ?_)))))
 refine ya 0 10 (.bool false) (yb (W.ret ?_))
 obtain rfl := sj hr
 exact yr ⟨I6, rfl, hl7, hS94.drop⟩
noncomputable def r17_turned (p0 : qCatalog) (p1 : qTable) (p2 : qStmt) : Option (qTable × Int) := (r17_Copy p1).bind (fun r22 => (r14_Names p1).bind (fun (r34, r35) => ((bif (p2.Kind == 3) then (bif ((p2.Cols.length : Int) != 1) then some (.inl (2, p1)) else (idx p2.Cols 0).bind (fun x64 => (r14_Col p1 x64.Name).bind (fun r70 => (bif (decide (r70 ≥ 0)) then some (.inl (19, p1)) else (idx p2.Cols 0).bind (fun x84 => (app 32 r22.Cols ([x84] : List qColumn)).bind (fun x93 => some (.inr (z_qTable, x93, r22.Cons, r22.Idx)))))))) else ((bif (p2.Kind == 4) then (r14_Col p1 p2.Name).bind (fun r129 => (bif (decide (r129 < 0)) then some (.inl (4, p1)) else ((bif ((p1.Cols.length : Int) == 1) then some true else (r14_Used p1).bind (fun r171 => (r14_Has r171 p2.Name).bind (fun r177 => some r177)))).bind (fun (j154 : Bool) => ((bif j154 then some true else ((bif (!sEq p2.Name (⟨#[]⟩ : ByteArray)) then (r17_refers_nilsl p0 p1.Name (⟨#[]⟩ : ByteArray) p2.Name).bind (fun r201 => some r201) else some false)).bind (fun (j192 : Bool) => some j192))).bind (fun (j188 : Bool) => (bif j188 then some (.inl (34, p1)) else (sub p1.Cols 0 r129).bind (fun x224 => (app 32 ([] : List qColumn) x224).bind (fun x227 => (sub p1.Cols (w64 (r129 + 1)) (p1.Cols.length : Int)).bind (fun x239 => (app 32 x227 x239).bind (fun x241 => some (.inr (z_qTable, x241, r22.Cons, r22.Idx))))))))))) else ((bif (p2.Kind == 6) then (bif ((p2.Cons.length : Int) != 1) then some (.inl (2, p1)) else (idx p2.Cons 0).bind (fun x292 => (r14_Has r35 x292.Name).bind (fun r298 => (bif r298 then some (.inl (19, p1)) else (bif (decide ((p1.Cons.length : Int) ≥ 6)) then some (.inl (5, p1)) else (idx p2.Cons 0).bind (fun x323 => (app 176 r22.Cons ([x323] : List qCons)).bind (fun x332 => some (.inr (z_qTable, x332, r22.Idx))))))))) else ((bif (p2.Kind == 8) then (r14_Has r35 p2.Name).bind (fun r367 => (bif r367 then some (.inl (19, p1)) else (bif (decide ((p1.Idx.length : Int) ≥ 3)) then some (.inl (5, p1)) else (app 40 r22.Idx ([(⟨p2.Name, p2.Names⟩ : qIndex)] : List qIndex)).bind (fun x410 => some (.inr (z_qTable, x410)))))) else (bif (p2.Kind == 7) then (r17_dropped p0 p1 p2.Name).bind (fun (r440, r441) => some (.inl (r441, r440))) else (bif (p2.Kind == 9) then (forN (fun (i458 : Nat) => fun (s : qTable × (List qIndex)) => match s with | (s456, s457) => (idx p1.Idx (i458 : Int)).bind (fun x476 => (bif (sEq x476.Name p2.Name) then (sub p1.Idx 0 (i458 : Int)).bind (fun x484 => (app 40 ([] : List qIndex) x484).bind (fun x487 => (sub p1.Idx (w64 ((i458 : Int) + 1)) (p1.Idx.length : Int)).bind (fun x499 => (app 40 x487 x499).bind (fun x501 => some (.inr ((0 : Int), { r22 with Cols := r22.Cols, Cons := r22.Cons, Idx := x501 })))))) else some (.inl (s456, s457))))) p1.Idx.length 0 (z_qTable, r22.Idx)).bind (fun (t : (qTable × (List qIndex)) ⊕ ((Int × qTable))) => match t with | .inl (s456, s457) => some (.inl (4, p1)) | .inr (s530, s531) => some (.inl (s530, s531))) else some (.inr (z_qTable, r22.Idx)))))).bind (fun (t : (Int × qTable) ⊕ (qTable × (List qIndex))) => match t with | (.inl (s372, s373)) => some (.inl (s372, s373)) | (.inr (s422, s423)) => some (.inr (s422, r22.Cons, s423))))).bind (fun (t : (Int × qTable) ⊕ (qTable × (List qCons) × (List qIndex))) => match t with | (.inl (s274, s275)) => some (.inl (s274, s275)) | (.inr (s344, s345, s346)) => some (.inr (s344, r22.Cols, s345, s346))))).bind (fun (t : (Int × qTable) ⊕ (qTable × (List qColumn) × (List qCons) × (List qIndex))) => match t with | (.inl (s134, s135)) => some (.inl (s134, s135)) | (.inr (s251, s252, s253, s254)) => some (.inr (s251, s252, s253, s254))))).bind (fun (t : (Int × qTable) ⊕ (qTable × (List qColumn) × (List qCons) × (List qIndex))) => match t with | (.inl (s44, s45)) => some (s45, s44) | (.inr (s105, s106, s107, s108)) => some ({ r22 with Cols := s106, Cons := s107, Idx := s108 }, 0))))
theorem r17_turned_ok {p0 : qCatalog} {p1 : qTable} {p2 : qStmt} {w_p0 : W_qCatalog} {w_p1 : W_qTable} {w_p2 : W_qStmt} (h_p0 : ok_qCatalog I p0 w_p0) (h_p1 : ok_qTable I p1 w_p1) (h_p2 : ok_qStmt I p2 w_p2) (hS : St E w I Os) {r : qTable × Int} (hr : r17_turned p0 p1 p2 = some r) :
    Calls P 53 #[(.agg (cs_qCatalog p0 w_p0).toArray), (.agg (cs_qTable p1 w_p1).toArray), (.agg (cs_qStmt p2 w_p2).toArray)] w (fun e w' => ∃ I' w_rw0, e = .returned (.tuple #[(.agg (cs_qTable r.1 w_rw0).toArray), (Iv r.2)]) ∧ I.Le I' ∧ St E w' I' Os ∧ ok_qTable I' r.1 w_rw0) := by
 refine calls_W (fn := Tryz.f53) rfl rfl rfl ?_
 unfold r17_turned at hr
 refine yd nL5 ?_
 refine yx hS (cs_qCatalog p0 w_p0) 29 ?_
 intro b1 w4 hS3
 refine yx hS3 (cs_qTable p1 w_p1) 89 ?_
 intro b5 w8 hS7
 refine yx hS7 (cs_qStmt p2 w_p2) 44 ?_
 intro b9 w12 hS11
 refine yx hS11 (cs_qTable z_qTable zw_qTable) 89 ?_
 intro b13 w16 hS15
 refine ya 4 7 (Iv 0) (yz nL4 ?_)
 refine yu ((cs_qTable p1 w_p1)) (hS15.rf m2) ?_
 obtain ⟨r22, hx_r17, hr⟩ := bsm hr
 refine y8 (r17_Copy_ok h_p1 hS15 hx_r17) ?_
 rintro _ w18 ⟨I19, w_r22, C_r22_3, C_r22_4, C_r22_5, rfl, hl20, hS21, h_r22_3, h_r22_4, h_r22_5⟩
 refine ⟨_, rfl, trivial, ?_⟩
 refine yx hS21 (cs_qTable z_qTable zw_qTable) 89 ?_
 intro b23 w26 hS25
 refine yw hS25 0 (cs_qTable ({ r22 with Cols := r22.Cols, Cons := r22.Cons, Idx := r22.Idx }) (⟨⟨w_r22.Cols.a, w_r22.Cols.c⟩, ⟨w_r22.Cons.a, w_r22.Cons.c⟩, ⟨w_r22.Idx.a, w_r22.Idx.c⟩⟩ : W_qTable)) ?_
 intro w28 hS27
 refine yz nL7 ?_
 refine yu ((cs_qTable p1 w_p1)) (hS27.rf m6) ?_
 obtain ⟨⟨r34, r35⟩, hx_r29, hr⟩ := bsm hr
 refine y8 (r14_Names_ok (h_p1.mono hl20) hS27 hx_r29) ?_
 rintro _ w30 ⟨I31, a_r34, c_r34, a_r35, c_r35, rfl, hl32, hS33, h_r34, h_r35⟩
 refine ⟨_, rfl, trivial, ?_⟩
 refine WO.vs 2 [(15, .tuple #[(Sl a_r34 r34 c_r34), (Sl a_r35 r35 c_r35)]), (18, Sl a_r34 r34 c_r34), (19, Sl a_r35 r35 c_r35), (9, Sl a_r34 r34 c_r34), (10, Sl a_r35 r35 c_r35)] (yb (ye (yd nL2 ?_)))
 refine ya 0 20 (Pt b9 0) (yf (v := (Iv p2.Kind)) (hS33.rf m5) ?_)
 refine yb (W.block (yd nL2 ?_))
 refine WO.vs 0 [(23, .bool (p2.Kind == 3)), (22, .bool (p2.Kind == 3))] (yb ?_)
 obtain ⟨j36, hr1, hr⟩ := bsm hr
 refine W.jw (J := (fun fr w => ∃ (s105 : qTable) (s106 : List qColumn) (s107 : List qCons) (s108 : List qIndex), ∃ I38 w_s105 a_s106 c_s106 C_s106 a_s107 c_s107 C_s107 a_s108 c_s108 C_s108, (.inr (s105, s106, s107, s108)) = j36 ∧ fr = [(6, Pt b13 0), (8, Pt b23 0)] ∧ I31.Le I38 ∧ St E w I38 ((Bx b13 (cs_qTable s105 w_s105) 89) :: (Bx b23 (cs_qTable ({ r22 with Cols := s106, Cons := s107, Idx := s108 }) (⟨⟨a_s106, c_s106⟩, ⟨a_s107, c_s107⟩, ⟨a_s108, c_s108⟩⟩ : W_qTable)) 89) :: (C_s106) :: (C_s107) :: (C_s108) :: Os) ∧ ok_qTable I38 s105 w_s105 ∧ OwnSl 73 3 R_qColumn I38 C_s106 a_s106 c_s106 s106 ∧ OwnSl 100 12 R_qCons I38 C_s107 a_s107 c_s107 s107 ∧ OwnSl 124 2 R_qIndex I38 C_s108 a_s108 c_s108 s108)) ?_ ?_
 refine W.cb hr1 (fun hc hr1 => ?_) (fun hc hr1 => ?_)
 refine ye (yd nL4 ?_)
 refine ya 0 24 (Pt b9 4) (yf (v := (Sl w_p2.Cols.a p2.Cols w_p2.Cols.c)) (hS33.rf m5) ?_)
 refine WO.vs 2 [(26, Nv p2.Cols.length), (27, .bool ((p2.Cols.length : Int) != 1))] (yb (W.cb hr1 (fun hc hr1 => ?_) (fun hc hr1 => ?_)))
 refine yd nL3 ?_
 refine yu ((cs_qTable p1 w_p1)) (hS33.rf m6) ?_
 refine yw hS33.front4 0 (cs_qTable p1 w_p1) ?_
 intro w42 hS41
 refine ya 2 7 (Iv 2) (yb (W.ret (yc (ym ?_))))
 obtain rfl := sj hr1
 refine yh (yc ?_)
 obtain rfl := sj hr
 exact yak _ (hS41.rd m0) ⟨I31, w_p1, rfl, (hl20.trans hl32), hS41.drop.drop.drop.drop.drop.drop.drop.drop, (h_p1.mono (hl20.trans hl32))⟩
 refine yg (En.next (ye (ye ?_)))
 have hS62 := hS33.drew
 refine yao nL8 6 (KR.cons (hS62.rd m5) (KR.cons (hS62.rd m6) (KR.nil hS62.im))) ?_
 generalize World.drew _ = w63 at *
 refine yu ((cs_qTable p1 w_p1)) (rd_c m1 (hS62.rd m6)) ?_
 refine ya 1 30 (Pt b9 4) (yf (v := (Sl w_p2.Cols.a p2.Cols w_p2.Cols.c)) (rd_c m0 (hS62.rd m5)) ?_)
 obtain ⟨x64, hr1, h0_x64, h1_x64, hx_x64, ha_x64, _, _, rfl, hc_x64⟩ := sl_at ((RSl.mono h_p2.Cols (hl20.trans hl32))) hr1
 refine yq 73 3 ha_x64 h0_x64 h1_x64 ?_
 refine ya 4 33 (.pointer (some ⟨bl w_p2.Cols.a, of w_p2.Cols.a + (0 : Int).toNat * 3, none⟩)) (yae (v := (.string x64.Name)) hc_x64 (rd_i hS62.im) ?_)
 refine WO.tail rfl ?_
 obtain ⟨r70, hx_r65, hr1⟩ := bsm hr1
 refine y6 (r14_Col_ok (h_p1.mono (hl20.trans hl32)) hS62 hx_r65) ?_
 intro I67 w66 hl68 hS69
 refine ya 7 36 (.bool (decide (r70 ≥ 0))) (yb (W.cb hr1 (fun hc hr1 => ?_) (fun hc hr1 => ?_)))
 refine yd nL3 ?_
 refine yu ((cs_qTable p1 w_p1)) (hS69.rf m6) ?_
 refine yw hS69.front4 0 (cs_qTable p1 w_p1) ?_
 intro w73 hS72
 refine ya 2 7 (Iv 19) (yb (W.ret (yc (ym ?_))))
 obtain rfl := sj hr1
 refine yh (yc ?_)
 obtain rfl := sj hr
 exact yak _ (hS72.rd m0) ⟨I67, w_p1, rfl, ((hl20.trans hl32).trans hl68), hS72.drop.drop.drop.drop.drop.drop.drop.drop, (h_p1.mono ((hl20.trans hl32).trans hl68))⟩
 refine yg (En.next ?_)
 have hS82 := hS69.drew
 refine yao nL10 7 (KR.cons (hS82.rd m0) (KR.cons (hS82.rd m5) (KR.nil hS82.im))) ?_
 generalize World.drew _ = w83 at *
 refine ya 0 38 (Pt b23 3) (yf (v := (Sl w_r22.Cols.a r22.Cols w_r22.Cols.c)) (rd_c m0 (hS82.rd m0)) ?_)
 refine ya 2 40 (Pt b9 4) (yf (v := (Sl w_p2.Cols.a p2.Cols w_p2.Cols.c)) (rd_c m1 (hS82.rd m5)) ?_)
 obtain ⟨x84, hr1, h0_x84, h1_x84, hx_x84, ha_x84, _, _, rfl, hc_x84⟩ := sl_at ((RSl.mono h_p2.Cols ((hl20.trans hl32).trans hl68))) hr1
 refine yq 73 3 ha_x84 h0_x84 h1_x84 ?_
 refine yai ((cs_qColumn x84)) hc_x84 0 (rd_i hS82.im) ?_
 refine y3 (rel := R_qColumn) (xs := ([x84] : List qColumn)) hS82 rfl (by kernel_rfl) rfl 73 3 [(cs_qColumn x84)] (by kernel_rfl) rfl ((Elr.cons rfl Elr.nil)) (fun C86 w90 hS89 => (KR.cons (hS89.rd m1) (KR.cons (hS89.rd m6) (KR.nil hS89.im)))) ?_
 intro a88 C86 w90 hS89 ho87
 refine WO.tail rfl ?_
 have hS92 := hS89.front2
 obtain ⟨x93, hx_x93, hr1⟩ := bsm hr1
 obtain ⟨h0_x93, he_x93⟩ := app_some hx_x93
 refine WO.ap 73 32 (cs_qColumn z_qColumn) hS92 (OwnSl.mono h_r22_3 (hl32.trans hl68)) ho87.sl (hS92.rd m1) h0_x93 he_x93 ?_
 intro a94 c95 w96 C97 hS98 ho99
 refine ya 8 46 (Pt b23 3) (yw hS98.front1.drop.front1 3 (cs_qTable ({ r22 with Cols := x93, Cons := r22.Cons, Idx := r22.Idx }) (⟨⟨a94, c95⟩, ⟨w_r22.Cons.a, w_r22.Cons.c⟩, ⟨w_r22.Idx.a, w_r22.Idx.c⟩⟩ : W_qTable)) ?_)
 intro w104 hS103
 exact WO.nil (yo ⟨z_qTable, x93, r22.Cons, r22.Idx, I67, zw_qTable, a94, c95, C97, w_r22.Cons.a, w_r22.Cons.c, C_r22_4, w_r22.Idx.a, w_r22.Idx.c, C_r22_5, sj hr1, rfl, hl68, hS103.front5.drop.front5.drop.front5.drop.front3.front3.front3.front3.front4, zok_qTable, ho99, (OwnSl.mono h_r22_4 (hl32.trans hl68)), (OwnSl.mono h_r22_5 (hl32.trans hl68))⟩)
 refine yd nL2 ?_
 refine WO.vs 0 [(48, .bool (p2.Kind == 4)), (47, .bool (p2.Kind == 4))] (yb ?_)
 obtain ⟨j120, hr2, hr1⟩ := bsm hr1
 refine W.jw (J := (fun fr w => ∃ (s251 : qTable) (s252 : List qColumn) (s253 : List qCons) (s254 : List qIndex), ∃ I122 w_s251 a_s252 c_s252 C_s252 a_s253 c_s253 C_s253 a_s254 c_s254 C_s254, (.inr (s251, s252, s253, s254)) = j120 ∧ fr = [(6, Pt b13 0), (8, Pt b23 0)] ∧ I31.Le I122 ∧ St E w I122 ((Bx b13 (cs_qTable s251 w_s251) 89) :: (Bx b23 (cs_qTable ({ r22 with Cols := s252, Cons := s253, Idx := s254 }) (⟨⟨a_s252, c_s252⟩, ⟨a_s253, c_s253⟩, ⟨a_s254, c_s254⟩⟩ : W_qTable)) 89) :: (C_s252) :: (C_s253) :: (C_s254) :: Os) ∧ ok_qTable I122 s251 w_s251 ∧ OwnSl 73 3 R_qColumn I122 C_s252 a_s252 c_s252 s252 ∧ OwnSl 100 12 R_qCons I122 C_s253 a_s253 c_s253 s253 ∧ OwnSl 124 2 R_qIndex I122 C_s254 a_s254 c_s254 s254)) ?_ ?_
 refine W.cb hr2 (fun hc hr2 => ?_) (fun hc hr2 => ?_)
 refine yd nL5 ?_
 refine yu ((cs_qTable p1 w_p1)) (hS33.rf m6) ?_
 refine ya 1 50 (Pt b9 2) (yf (v := (.string p2.Name)) (hS33.rf m5) ?_)
 obtain ⟨r129, hx_r124, hr2⟩ := bsm hr2
 refine y6 (r14_Col_ok (h_p1.mono (hl20.trans hl32)) hS33 hx_r124) ?_
 intro I126 w125 hl127 hS128
 refine ya 4 11 (Iv r129) (yb (ye (yd nL2 ?_)))
 refine WO.vs 0 [(53, Iv r129), (54, .bool (decide (r129 < 0)))] (yb (W.cb hr2 (fun hc hr2 => ?_) (fun hc hr2 => ?_)))
 refine yd nL3 ?_
 refine yu ((cs_qTable p1 w_p1)) (hS128.rf m6) ?_
 refine yw hS128.front4 0 (cs_qTable p1 w_p1) ?_
 intro w132 hS131
 refine ya 2 7 (Iv 4) (yb (W.ret (yc (ym ?_))))
 obtain rfl := sj hr2
 refine ym ?_
 obtain rfl := sj hr1
 refine yh (yc ?_)
 obtain rfl := sj hr
 exact yak _ (hS131.rd m0) ⟨I126, w_p1, rfl, ((hl20.trans hl32).trans hl127), hS131.drop.drop.drop.drop.drop.drop.drop.drop, (h_p1.mono ((hl20.trans hl32).trans hl127))⟩
 refine yg (En.next (ye (ye ?_)))
 have hS152 := hS128.drew
 refine yao nL24 24 (KR.cons (hS152.rd m5) (KR.cons (hS152.rd m6) (KR.cons (hS152.rd m7) (KR.nil hS152.im)))) ?_
 generalize World.drew _ = w153 at *
 refine ya 0 56 (Pt b5 3) (yf (v := (Sl w_p1.Cols.a p1.Cols w_p1.Cols.c)) (rd_c m1 (hS152.rd m6)) ?_)
 refine WO.vs 2 [(58, Nv p1.Cols.length), (59, .bool ((p1.Cols.length : Int) == 1)), (60, .bool ((p1.Cols.length : Int) == 1))] ?_
 obtain ⟨j154, hr3, hr2⟩ := bsm hr2
 refine WO.jw (l1 := [5, 6, 7, 8, 9, 10]) (J := (fun fr w => ∃ I156, fr = [(3, Pt b1 0), (4, Pt b5 0), (5, Pt b9 0), (6, Pt b13 0), (8, Pt b23 0), (11, Iv r129), (66, .bool j154)] ∧ I126.Le I156 ∧ St E w I156 ((Bx b1 (cs_qCatalog p0 w_p0) 29) :: (Bx b5 (cs_qTable p1 w_p1) 89) :: (Bx b9 (cs_qStmt p2 w_p2) 44) :: (Bx b13 (cs_qTable z_qTable zw_qTable) 89) :: (Bx b23 (cs_qTable ({ r22 with Cols := r22.Cols, Cons := r22.Cons, Idx := r22.Idx }) (⟨⟨w_r22.Cols.a, w_r22.Cols.c⟩, ⟨w_r22.Cons.a, w_r22.Cons.c⟩, ⟨w_r22.Idx.a, w_r22.Idx.c⟩⟩ : W_qTable)) 89) :: (C_r22_3) :: (C_r22_4) :: (C_r22_5) :: Os))) ?_ ?_
 refine WO.cb hr3 (fun hc hr3 => ?_) (fun hc hr3 => ?_)
 refine yj 60 hc ?_
 iterate 5 refine yt ?_
 refine ya 10 66 (.bool true) ?_
 obtain rfl := sj hr3
 exact yv ⟨I126, rfl, lr, hS152.front3.front3.front3.front3.front4.front5.front6.front7⟩
 refine yj 60 hc (yu ((cs_qTable p1 w_p1)) (rd_c m1 (hS152.rd m6)) ?_)
 obtain ⟨r171, hx_r166, hr3⟩ := bsm hr3
 refine y8 (r14_Used_ok (h_p1.mono ((hl20.trans hl32).trans hl127)) hS152 hx_r166) ?_
 rintro _ w167 ⟨I168, a_r171, c_r171, rfl, hl169, hS170, h_r171⟩
 refine ⟨_, rfl, (KR.cons (hS170.rd m5) (KR.cons (hS170.rd m6) (KR.cons (hS170.rd m7) (KR.nil (hS170.im.of_le hl169))))), ?_⟩
 refine ya 7 63 (Pt b9 2) (yf (v := (.string p2.Name)) (rd_c m0 (hS170.rd m5)) ?_)
 obtain ⟨r177, hx_r172, hr3⟩ := bsm hr3
 refine y8 (r14_Has_ok h_r171 hS170 hx_r172) ?_
 rintro _ w173 ⟨I174, rfl, hl175, hS176⟩
 refine ⟨_, rfl, (KR.cons (hS176.rd m5) (KR.cons (hS176.rd m6) (KR.cons (hS176.rd m7) (KR.nil (hS176.im.of_le (hl169.trans hl175)))))), ?_⟩
 refine ya 10 66 (.bool r177) ?_
 obtain rfl := sj hr3
 exact yv ⟨I174, rfl, (hl169.trans hl175), hS176.front3.front3.front3.front3.front4.front5.front6.front7⟩
 rintro _ w186 ⟨I156, rfl, hl157, hS187⟩
 refine ya 11 67 (.bool j154) ?_
 obtain ⟨j188, hr3, hr2⟩ := bsm hr2
 refine WO.jw (l1 := [12, 13, 14, 15, 16, 17, 18, 19, 20, 21, 22, 23]) (J := (fun fr w => ∃ I190, fr = [(4, Pt b5 0), (6, Pt b13 0), (8, Pt b23 0), (11, Iv r129), (79, .bool j188)] ∧ I156.Le I190 ∧ St E w I190 ((Bx b1 (cs_qCatalog p0 w_p0) 29) :: (Bx b5 (cs_qTable p1 w_p1) 89) :: (Bx b9 (cs_qStmt p2 w_p2) 44) :: (Bx b13 (cs_qTable z_qTable zw_qTable) 89) :: (Bx b23 (cs_qTable ({ r22 with Cols := r22.Cols, Cons := r22.Cons, Idx := r22.Idx }) (⟨⟨w_r22.Cols.a, w_r22.Cols.c⟩, ⟨w_r22.Cons.a, w_r22.Cons.c⟩, ⟨w_r22.Idx.a, w_r22.Idx.c⟩⟩ : W_qTable)) 89) :: (C_r22_3) :: (C_r22_4) :: (C_r22_5) :: Os))) ?_ ?_
 refine WO.cb hr3 (fun hc hr3 => ?_) (fun hc hr3 => ?_)
 refine yj 67 hc ?_
 iterate 11 refine yt ?_
 refine ya 23 79 (.bool true) ?_
 obtain rfl := sj hr3
 exact yv ⟨I156, rfl, lr, hS187⟩
 refine yj 67 hc (ya 12 68 (Pt b9 2) (yf (v := (.string p2.Name)) (rd_c m0 (hS187.rd m2)) ?_))
 refine WO.vs 14 [(70, .bool (!sEq p2.Name (⟨#[]⟩ : ByteArray))), (71, .bool (!sEq p2.Name (⟨#[]⟩ : ByteArray)))] ?_
 obtain ⟨j192, hr4, hr3⟩ := bsm hr3
 refine WO.jw (l1 := [16, 17, 18, 19, 20, 21, 22]) (J := (fun fr w => ∃ I194, fr = [(4, Pt b5 0), (6, Pt b13 0), (8, Pt b23 0), (11, Iv r129), (67, .bool false), (78, .bool j192)] ∧ I156.Le I194 ∧ St E w I194 ((Bx b1 (cs_qCatalog p0 w_p0) 29) :: (Bx b5 (cs_qTable p1 w_p1) 89) :: (Bx b9 (cs_qStmt p2 w_p2) 44) :: (Bx b13 (cs_qTable z_qTable zw_qTable) 89) :: (Bx b23 (cs_qTable ({ r22 with Cols := r22.Cols, Cons := r22.Cons, Idx := r22.Idx }) (⟨⟨w_r22.Cols.a, w_r22.Cols.c⟩, ⟨w_r22.Cons.a, w_r22.Cons.c⟩, ⟨w_r22.Idx.a, w_r22.Idx.c⟩⟩ : W_qTable)) 89) :: (C_r22_3) :: (C_r22_4) :: (C_r22_5) :: Os))) ?_ ?_
 refine WO.cb hr4 (fun hc hr4 => ?_) (fun hc hr4 => ?_)
 refine yj 71 hc (yu ((cs_qCatalog p0 w_p0)) (rd_c m2 (hS187.rd m0)) ?_)
 refine ya 17 73 (Pt b5 0) (yf (v := (.string p1.Name)) (rd_c m1 (hS187.rd m1)) ?_)
 refine ya 19 75 (Pt b9 2) (yf (v := (.string p2.Name)) (rd_c m0 (hS187.rd m2)) ?_)
 obtain ⟨r201, hx_r196, hr4⟩ := bsm hr4
 refine y8 (r17_refers_nilsl_ok (h_p0.mono (((hl20.trans hl32).trans hl127).trans hl157)) hS187 hx_r196) ?_
 rintro _ w197 ⟨I198, rfl, hl199, hS200⟩
 refine ⟨_, rfl, (KR.cons (hS200.rd m2) (KR.cons (hS200.rd m1) (KR.cons (hS200.rd m0) (KR.nil (hS200.im.of_le (hl157.trans hl199)))))), ?_⟩
 refine ya 22 78 (.bool r201) ?_
 obtain rfl := sj hr4
 exact yv ⟨I198, rfl, hl199, hS200⟩
 refine yj 71 hc ?_
 iterate 6 refine yt ?_
 refine ya 22 78 (.bool false) ?_
 obtain rfl := sj hr4
 exact yv ⟨I156, rfl, lr, hS187⟩
 rintro _ w202 ⟨I194, rfl, hl195, hS203⟩
 refine ya 23 79 (.bool j192) ?_
 obtain rfl := sj hr3
 exact yv ⟨I194, rfl, hl195, hS203⟩
 rintro _ w204 ⟨I190, rfl, hl191, hS205⟩
 refine yb (W.cb hr2 (fun hc hr2 => ?_) (fun hc hr2 => ?_))
 refine yd nL3 ?_
 refine yu ((cs_qTable p1 w_p1)) (hS205.rf m1) ?_
 refine yw hS205.front3 0 (cs_qTable p1 w_p1) ?_
 intro w208 hS207
 refine ya 2 7 (Iv 34) (yb (W.ret (yc (ym ?_))))
 obtain rfl := sj hr2
 refine ym ?_
 obtain rfl := sj hr1
 refine yh (yc ?_)
 obtain rfl := sj hr
 exact yak _ (hS207.rd m0) ⟨I190, w_p1, rfl, ((((hl20.trans hl32).trans hl127).trans hl157).trans hl191), hS207.drop.drop.drop.drop.drop.drop.drop.drop, (h_p1.mono ((((hl20.trans hl32).trans hl127).trans hl157).trans hl191))⟩
 refine yg (En.next (yd nL2 ?_))
 refine ya 0 81 (Pt b23 3) (yw hS205.front4 3 (cs_qTable ({ r22 with Cols := ([] : List qColumn), Cons := r22.Cons, Idx := r22.Idx }) (⟨⟨none, 0⟩, ⟨w_r22.Cons.a, w_r22.Cons.c⟩, ⟨w_r22.Idx.a, w_r22.Idx.c⟩⟩ : W_qTable)) ?_)
 intro w219 hS218
 refine yb (ye ?_)
 have hS222 := hS218.front5.drop.drew
 refine yao nL9 6 (KR.cons (hS222.rd m0) (KR.cons (hS222.rd m2) (KR.nil hS222.im))) ?_
 generalize World.drew _ = w223 at *
 refine ya 0 82 (Pt b23 3) (yf (v := (.slice none 0 0)) (rd_c m0 (hS222.rd m0)) ?_)
 refine ya 2 84 (Pt b5 3) (yf (v := (Sl w_p1.Cols.a p1.Cols w_p1.Cols.c)) (rd_c m1 (hS222.rd m2)) ?_)
 refine ya 4 86 (Iv r129) ?_
 obtain ⟨x224, hx_x224, hr2⟩ := bsm hr2
 obtain ⟨h0_x224, h1_x224, h2_x224, he_x224⟩ := sub_some hx_x224
 have hl_x224 : (r129 : Int) ≤ (w_p1.Cols.c : Int) := Int.le_trans h2_x224 (Int.ofNat_le.2 ((RSl.mono h_p1.Cols ((((hl20.trans hl32).trans hl127).trans hl157).trans hl191))).le)
 refine WO.slice (e := 73) (sz := 3) rfl (by kernel_rfl) (by kernel_rfl) (by kernel_rfl) rfl (0 : Int) (r129 : Int) h0_x224 (.inl ⟨rfl, rfl⟩) (.inr ⟨_, _, rfl, rfl⟩) h1_x224 hl_x224 ?_
 obtain ⟨a_x224, c_x224, h_x224, ev_x224⟩ := sub_ok ((RSl.mono h_p1.Cols ((((hl20.trans hl32).trans hl127).trans hl157).trans hl191))) h0_x224 h1_x224 h2_x224 he_x224
 refine y7 87 rfl ev_x224 ?_
 refine WO.tail rfl ?_
 have hS226 := hS222.no
 obtain ⟨x227, hx_x227, hr2⟩ := bsm hr2
 obtain ⟨h0_x227, he_x227⟩ := app_some hx_x227
 refine WO.append (e' := 73) (b := 32) (zs := (cs_qColumn z_qColumn).toArray) hS226 (OwnSl.nil (T := 73) (rel := R_qColumn) (I := I190)) rfl (by kernel_rfl) rfl (by kernel_rfl) (by kernel_rfl) (by kernel_rfl) rfl rfl rfl rfl h_x224 hS226.im h0_x227 he_x227 (fun _ _ _ => trivial) ?_
 intro a228 c229 w230 C231 hS232 ho233
 refine ya 7 89 (Pt b23 3) (yw hS232.front1 3 (cs_qTable ({ r22 with Cols := x227, Cons := r22.Cons, Idx := r22.Idx }) (⟨⟨a228, c229⟩, ⟨w_r22.Cons.a, w_r22.Cons.c⟩, ⟨w_r22.Idx.a, w_r22.Idx.c⟩⟩ : W_qTable)) ?_)
 intro w236 hS235
 refine yb ?_
 have hS237 := hS235.drew
 refine yao nL10 7 (KR.cons (hS237.rd m0) (KR.cons (hS237.rd m3) (KR.nil hS237.im))) ?_
 generalize World.drew _ = w238 at *
 refine ya 0 90 (Pt b23 3) (yf (v := (Sl a228 x227 c229)) (rd_c m0 (hS237.rd m0)) ?_)
 refine ya 2 92 (Pt b5 3) (yf (v := (Sl w_p1.Cols.a p1.Cols w_p1.Cols.c)) (rd_c m1 (hS237.rd m3)) ?_)
 refine WO.vs 4 [(94, Iv r129), (95, Iv (w64 (r129 + 1)))] ?_
 obtain ⟨x239, hx_x239, hr2⟩ := bsm hr2
 obtain ⟨h0_x239, h1_x239, h2_x239, he_x239⟩ := sub_some hx_x239
 have hl_x239 : ((p1.Cols.length : Int) : Int) ≤ (w_p1.Cols.c : Int) := Int.le_trans h2_x239 (Int.ofNat_le.2 ((RSl.mono h_p1.Cols ((((hl20.trans hl32).trans hl127).trans hl157).trans hl191))).le)
 refine WO.slice (e := 73) (sz := 3) rfl (by kernel_rfl) (by kernel_rfl) (by kernel_rfl) rfl ((w64 (r129 + 1)) : Int) ((p1.Cols.length : Int) : Int) h0_x239 (.inr ⟨_, _, rfl, rfl⟩) (.inl ⟨rfl, rfl⟩) h1_x239 hl_x239 ?_
 obtain ⟨a_x239, c_x239, h_x239, ev_x239⟩ := sub_ok ((RSl.mono h_p1.Cols ((((hl20.trans hl32).trans hl127).trans hl157).trans hl191))) h0_x239 h1_x239 h2_x239 he_x239
 refine y7 96 rfl ev_x239 ?_
 refine WO.tail rfl ?_
 have hS240 := hS237.front1
 obtain ⟨x241, hx_x241, hr2⟩ := bsm hr2
 obtain ⟨h0_x241, he_x241⟩ := app_some hx_x241
 refine WO.ap 73 32 (cs_qColumn z_qColumn) hS240 ho233 h_x239 hS240.im h0_x241 he_x241 ?_
 intro a242 c243 w244 C245 hS246 ho247
 refine ya 8 98 (Pt b23 3) (yw hS246.front1 3 (cs_qTable ({ r22 with Cols := x241, Cons := r22.Cons, Idx := r22.Idx }) (⟨⟨a242, c243⟩, ⟨w_r22.Cons.a, w_r22.Cons.c⟩, ⟨w_r22.Idx.a, w_r22.Idx.c⟩⟩ : W_qTable)) ?_)
 intro w250 hS249
 exact WO.nil (yo ⟨z_qTable, x241, r22.Cons, r22.Idx, I190, zw_qTable, a242, c243, C245, w_r22.Cons.a, w_r22.Cons.c, C_r22_4, w_r22.Idx.a, w_r22.Idx.c, C_r22_5, sj hr2, rfl, ((hl127.trans hl157).trans hl191), hS249.front2.drop.front2.drop.front2.drop.front4.front4.front3.front3.front4, zok_qTable, ho247, (OwnSl.mono h_r22_4 (((hl32.trans hl127).trans hl157).trans hl191)), (OwnSl.mono h_r22_5 (((hl32.trans hl127).trans hl157).trans hl191))⟩)
 refine yd nL2 ?_
 refine WO.vs 0 [(100, .bool (p2.Kind == 6)), (99, .bool (p2.Kind == 6))] (yb ?_)
 obtain ⟨j266, hr3, hr2⟩ := bsm hr2
 refine W.jw (J := (fun fr w => ∃ (s344 : qTable) (s345 : List qCons) (s346 : List qIndex), ∃ I268 w_s344 a_s345 c_s345 C_s345 a_s346 c_s346 C_s346, (.inr (s344, s345, s346)) = j266 ∧ fr = [(6, Pt b13 0), (8, Pt b23 0)] ∧ I31.Le I268 ∧ St E w I268 ((Bx b13 (cs_qTable s344 w_s344) 89) :: (Bx b23 (cs_qTable ({ r22 with Cols := r22.Cols, Cons := s345, Idx := s346 }) (⟨⟨w_r22.Cols.a, w_r22.Cols.c⟩, ⟨a_s345, c_s345⟩, ⟨a_s346, c_s346⟩⟩ : W_qTable)) 89) :: (C_r22_3) :: (C_s345) :: (C_s346) :: Os) ∧ ok_qTable I268 s344 w_s344 ∧ OwnSl 100 12 R_qCons I268 C_s345 a_s345 c_s345 s345 ∧ OwnSl 124 2 R_qIndex I268 C_s346 a_s346 c_s346 s346)) ?_ ?_
 refine W.cb hr3 (fun hc hr3 => ?_) (fun hc hr3 => ?_)
 refine ye (yd nL4 ?_)
 refine ya 0 101 (Pt b9 5) (yf (v := (Sl w_p2.Cons.a p2.Cons w_p2.Cons.c)) (hS33.rf m5) ?_)
 refine WO.vs 2 [(103, Nv p2.Cons.length), (104, .bool ((p2.Cons.length : Int) != 1))] (yb (W.cb hr3 (fun hc hr3 => ?_) (fun hc hr3 => ?_)))
 refine yd nL3 ?_
 refine yu ((cs_qTable p1 w_p1)) (hS33.rf m6) ?_
 refine yw hS33.front4 0 (cs_qTable p1 w_p1) ?_
 intro w272 hS271
 refine ya 2 7 (Iv 2) (yb (W.ret (yc (ym ?_))))
 obtain rfl := sj hr3
 refine ym ?_
 obtain rfl := sj hr2
 refine ym ?_
 obtain rfl := sj hr1
 refine yh (yc ?_)
 obtain rfl := sj hr
 exact yak _ (hS271.rd m0) ⟨I31, w_p1, rfl, (hl20.trans hl32), hS271.drop.drop.drop.drop.drop.drop.drop.drop, (h_p1.mono (hl20.trans hl32))⟩
 refine yg (En.next (ye (yd nL7 ?_)))
 refine WO.vs 0 [(106, Sl a_r35 r35 c_r35), (107, Pt b9 5)] (yf (v := (Sl w_p2.Cons.a p2.Cons w_p2.Cons.c)) (hS33.rf m5) ?_)
 obtain ⟨x292, hr3, h0_x292, h1_x292, hx_x292, ha_x292, _, _, ⟨w_x292, rfl, h_x292⟩, hc_x292⟩ := sl_at ((RSl.mono h_p2.Cons (hl20.trans hl32))) hr3
 refine yq 100 12 ha_x292 h0_x292 h1_x292 ?_
 refine ya 4 110 (.pointer (some ⟨bl w_p2.Cons.a, of w_p2.Cons.a + (0 : Int).toNat * 12, none⟩)) (yae (v := (.string x292.Name)) hc_x292 hS33.rm ?_)
 obtain ⟨r298, hx_r293, hr3⟩ := bsm hr3
 refine y6 (r14_Has_ok h_r35 hS33 hx_r293) ?_
 intro I295 w294 hl296 hS297
 refine yb (W.cb hr3 (fun hc hr3 => ?_) (fun hc hr3 => ?_))
 refine yd nL3 ?_
 refine yu ((cs_qTable p1 w_p1)) (hS297.rf m6) ?_
 refine yw hS297.front4 0 (cs_qTable p1 w_p1) ?_
 intro w301 hS300
 refine ya 2 7 (Iv 19) (yb (W.ret (yc (ym ?_))))
 obtain rfl := sj hr3
 refine ym ?_
 obtain rfl := sj hr2
 refine ym ?_
 obtain rfl := sj hr1
 refine yh (yc ?_)
 obtain rfl := sj hr
 exact yak _ (hS300.rd m0) ⟨I295, w_p1, rfl, ((hl20.trans hl32).trans hl296), hS300.drop.drop.drop.drop.drop.drop.drop.drop, (h_p1.mono ((hl20.trans hl32).trans hl296))⟩
 refine yg (En.next (ye (yd nL4 ?_)))
 refine ya 0 114 (Pt b5 4) (yf (v := (Sl w_p1.Cons.a p1.Cons w_p1.Cons.c)) (hS297.rf m6) ?_)
 refine WO.vs 2 [(116, Nv p1.Cons.length), (117, .bool (decide ((p1.Cons.length : Int) ≥ 6)))] (yb (W.cb hr3 (fun hc hr3 => ?_) (fun hc hr3 => ?_)))
 refine yd nL3 ?_
 refine yu ((cs_qTable p1 w_p1)) (hS297.rf m6) ?_
 refine yw hS297.front4 0 (cs_qTable p1 w_p1) ?_
 intro w312 hS311
 refine ya 2 7 (Iv 5) (yb (W.ret (yc (ym ?_))))
 obtain rfl := sj hr3
 refine ym ?_
 obtain rfl := sj hr2
 refine ym ?_
 obtain rfl := sj hr1
 refine yh (yc ?_)
 obtain rfl := sj hr
 exact yak _ (hS311.rd m0) ⟨I295, w_p1, rfl, ((hl20.trans hl32).trans hl296), hS311.drop.drop.drop.drop.drop.drop.drop.drop, (h_p1.mono ((hl20.trans hl32).trans hl296))⟩
 refine yg (En.next ?_)
 have hS321 := hS297.drew
 refine yao nL10 7 (KR.cons (hS321.rd m0) (KR.cons (hS321.rd m5) (KR.nil hS321.im))) ?_
 generalize World.drew _ = w322 at *
 refine ya 0 119 (Pt b23 4) (yf (v := (Sl w_r22.Cons.a r22.Cons w_r22.Cons.c)) (rd_c m0 (hS321.rd m0)) ?_)
 refine ya 2 121 (Pt b9 5) (yf (v := (Sl w_p2.Cons.a p2.Cons w_p2.Cons.c)) (rd_c m1 (hS321.rd m5)) ?_)
 obtain ⟨x323, hr3, h0_x323, h1_x323, hx_x323, ha_x323, _, _, ⟨w_x323, rfl, h_x323⟩, hc_x323⟩ := sl_at ((RSl.mono h_p2.Cons ((hl20.trans hl32).trans hl296))) hr3
 refine yq 100 12 ha_x323 h0_x323 h1_x323 ?_
 refine yai ((cs_qCons x323 w_x323)) hc_x323 0 (rd_i hS321.im) ?_
 refine y3 (rel := R_qCons) (xs := ([x323] : List qCons)) hS321 rfl (by kernel_rfl) rfl 100 12 [(cs_qCons x323 w_x323)] (by kernel_rfl) rfl ((Elr.cons ⟨w_x323, rfl, h_x323⟩ Elr.nil)) (fun C325 w329 hS328 => (KR.cons (hS328.rd m1) (KR.cons (hS328.rd m6) (KR.nil hS328.im)))) ?_
 intro a327 C325 w329 hS328 ho326
 refine WO.tail rfl ?_
 have hS331 := hS328.front3
 obtain ⟨x332, hx_x332, hr3⟩ := bsm hr3
 obtain ⟨h0_x332, he_x332⟩ := app_some hx_x332
 refine WO.ap 100 176 (cs_qCons z_qCons zw_qCons) hS331 (OwnSl.mono h_r22_4 (hl32.trans hl296)) ho326.sl (hS331.rd m1) h0_x332 he_x332 ?_
 intro a333 c334 w335 C336 hS337 ho338
 refine ya 8 127 (Pt b23 4) (yw hS337.front1.drop.front1 4 (cs_qTable ({ r22 with Cols := r22.Cols, Cons := x332, Idx := r22.Idx }) (⟨⟨w_r22.Cols.a, w_r22.Cols.c⟩, ⟨a333, c334⟩, ⟨w_r22.Idx.a, w_r22.Idx.c⟩⟩ : W_qTable)) ?_)
 intro w343 hS342
 exact WO.nil (yo ⟨z_qTable, x332, r22.Idx, I295, zw_qTable, a333, c334, C336, w_r22.Idx.a, w_r22.Idx.c, C_r22_5, sj hr3, rfl, hl296, hS342.front5.drop.front5.drop.front5.drop.front3.front2.front3.front3.front4, zok_qTable, ho338, (OwnSl.mono h_r22_5 (hl32.trans hl296))⟩)
 refine yd nL2 ?_
 refine WO.vs 0 [(129, .bool (p2.Kind == 8)), (128, .bool (p2.Kind == 8))] (yb ?_)
 obtain ⟨j358, hr4, hr3⟩ := bsm hr3
 refine W.jw (J := (fun fr w => ∃ (s422 : qTable) (s423 : List qIndex), ∃ I360 w_s422 a_s423 c_s423 C_s423, (.inr (s422, s423)) = j358 ∧ fr = [(6, Pt b13 0), (8, Pt b23 0)] ∧ I31.Le I360 ∧ St E w I360 ((Bx b13 (cs_qTable s422 w_s422) 89) :: (Bx b23 (cs_qTable ({ r22 with Cols := r22.Cols, Cons := r22.Cons, Idx := s423 }) (⟨⟨w_r22.Cols.a, w_r22.Cols.c⟩, ⟨w_r22.Cons.a, w_r22.Cons.c⟩, ⟨a_s423, c_s423⟩⟩ : W_qTable)) 89) :: (C_r22_3) :: (C_r22_4) :: (C_s423) :: Os) ∧ ok_qTable I360 s422 w_s422 ∧ OwnSl 124 2 R_qIndex I360 C_s423 a_s423 c_s423 s423)) ?_ ?_
 refine W.cb hr4 (fun hc hr4 => ?_) (fun hc hr4 => ?_)
 refine ye (yd nL4 ?_)
 refine WO.vs 0 [(130, Sl a_r35 r35 c_r35), (131, Pt b9 2)] (yf (v := (.string p2.Name)) (hS33.rf m5) ?_)
 obtain ⟨r367, hx_r362, hr4⟩ := bsm hr4
 refine y6 (r14_Has_ok h_r35 hS33 hx_r362) ?_
 intro I364 w363 hl365 hS366
 refine yb (W.cb hr4 (fun hc hr4 => ?_) (fun hc hr4 => ?_))
 refine yd nL3 ?_
 refine yu ((cs_qTable p1 w_p1)) (hS366.rf m6) ?_
 refine yw hS366.front4 0 (cs_qTable p1 w_p1) ?_
 intro w370 hS369
 refine ya 2 7 (Iv 19) (yb (W.ret (yc (ym ?_))))
 obtain rfl := sj hr4
 refine ym ?_
 obtain rfl := sj hr3
 refine ym ?_
 obtain rfl := sj hr2
 refine ym ?_
 obtain rfl := sj hr1
 refine yh (yc ?_)
 obtain rfl := sj hr
 exact yak _ (hS369.rd m0) ⟨I364, w_p1, rfl, ((hl20.trans hl32).trans hl365), hS369.drop.drop.drop.drop.drop.drop.drop.drop, (h_p1.mono ((hl20.trans hl32).trans hl365))⟩
 refine yg (En.next (ye (yd nL4 ?_)))
 refine ya 0 135 (Pt b5 5) (yf (v := (Sl w_p1.Idx.a p1.Idx w_p1.Idx.c)) (hS366.rf m6) ?_)
 refine WO.vs 2 [(137, Nv p1.Idx.length), (138, .bool (decide ((p1.Idx.length : Int) ≥ 3)))] (yb (W.cb hr4 (fun hc hr4 => ?_) (fun hc hr4 => ?_)))
 refine yd nL3 ?_
 refine yu ((cs_qTable p1 w_p1)) (hS366.rf m6) ?_
 refine yw hS366.front4 0 (cs_qTable p1 w_p1) ?_
 intro w392 hS391
 refine ya 2 7 (Iv 5) (yb (W.ret (yc (ym ?_))))
 obtain rfl := sj hr4
 refine ym ?_
 obtain rfl := sj hr3
 refine ym ?_
 obtain rfl := sj hr2
 refine ym ?_
 obtain rfl := sj hr1
 refine yh (yc ?_)
 obtain rfl := sj hr
 exact yak _ (hS391.rd m0) ⟨I364, w_p1, rfl, ((hl20.trans hl32).trans hl365), hS391.drop.drop.drop.drop.drop.drop.drop.drop, (h_p1.mono ((hl20.trans hl32).trans hl365))⟩
 refine yg (En.next (yaa nL11 ?_))
 refine ya 0 140 (Pt b23 5) (yf (v := (Sl w_r22.Idx.a r22.Idx w_r22.Idx.c)) (hS366.rf m0) ?_)
 refine ya 2 142 (Pt b9 2) (yf (v := (.string p2.Name)) (hS366.rf m5) ?_)
 refine ya 4 144 (Pt b9 6) (yf (v := (Sl w_p2.Names.a p2.Names w_p2.Names.c)) (hS366.rf m5) ?_)
 refine ya 6 146 (.agg (cs_qIndex (⟨p2.Name, p2.Names⟩ : qIndex) (⟨⟨w_p2.Names.a, w_p2.Names.c⟩⟩ : W_qIndex)).toArray) ?_
 have hk408 : ok_qIndex I364 (⟨p2.Name, p2.Names⟩ : qIndex) (⟨⟨w_p2.Names.a, w_p2.Names.c⟩⟩ : W_qIndex) := ⟨(RSl.mono h_p2.Names ((hl20.trans hl32).trans hl365))⟩
 refine y3 (rel := R_qIndex) (xs := ([(⟨p2.Name, p2.Names⟩ : qIndex)] : List qIndex)) hS366 rfl (by kernel_rfl) rfl 124 2 [(cs_qIndex (⟨p2.Name, p2.Names⟩ : qIndex) (⟨⟨w_p2.Names.a, w_p2.Names.c⟩⟩ : W_qIndex))] (by kernel_rfl) rfl ((Elr.cons ⟨(⟨⟨w_p2.Names.a, w_p2.Names.c⟩⟩ : W_qIndex), rfl, hk408⟩ Elr.nil)) (fun _ _ _ => trivial) ?_
 intro a404 C402 w406 hS405 ho403
 have hS409 := hS405.front4
 obtain ⟨x410, hx_x410, hr4⟩ := bsm hr4
 obtain ⟨h0_x410, he_x410⟩ := app_some hx_x410
 refine WO.ap 124 40 (cs_qIndex z_qIndex zw_qIndex) hS409 (OwnSl.mono h_r22_5 (hl32.trans hl365)) ho403.sl (hS409.rd m1) h0_x410 he_x410 ?_
 intro a411 c412 w413 C414 hS415 ho416
 refine ya 9 149 (Pt b23 5) (yw hS415.front1.drop.front1 5 (cs_qTable ({ r22 with Cols := r22.Cols, Cons := r22.Cons, Idx := x410 }) (⟨⟨w_r22.Cols.a, w_r22.Cols.c⟩, ⟨w_r22.Cons.a, w_r22.Cons.c⟩, ⟨a411, c412⟩⟩ : W_qTable)) ?_)
 intro w421 hS420
 exact WO.nil (yo ⟨z_qTable, x410, I364, zw_qTable, a411, c412, C414, sj hr4, rfl, hl365, hS420.front5.drop.front5.drop.front5.drop.front1.front3.front3.front3.front4, zok_qTable, ho416⟩)
 refine yd nL2 ?_
 refine WO.vs 0 [(151, .bool (p2.Kind == 7)), (150, .bool (p2.Kind == 7))] (yb (W.cb hr4 (fun hc hr4 => ?_) (fun hc hr4 => ?_)))
 refine yd nL9 ?_
 refine yu ((cs_qCatalog p0 w_p0)) (hS33.rf m7) ?_
 refine yu ((cs_qTable p1 w_p1)) (hS33.rf m6) ?_
 refine ya 2 154 (Pt b9 2) (yf (v := (.string p2.Name)) (hS33.rf m5) ?_)
 obtain ⟨⟨r440, r441⟩, hx_r435, hr4⟩ := bsm hr4
 refine y8 (r17_dropped_ok (h_p0.mono (hl20.trans hl32)) (h_p1.mono (hl20.trans hl32)) hS33 hx_r435) ?_
 rintro _ w436 ⟨I437, w_r440, rfl, hl438, hS439, h_r440⟩
 refine ⟨_, rfl, trivial, ?_⟩
 refine WO.vs 5 [(157, .agg (cs_qTable r440 w_r440).toArray), (158, Iv r441)] (yw hS439.front4 0 (cs_qTable r440 w_r440) ?_)
 intro w444 hS443
 refine ya 8 7 (Iv r441) (yb (W.ret (ym ?_)))
 obtain rfl := sj hr4
 refine ym ?_
 obtain rfl := sj hr3
 refine ym ?_
 obtain rfl := sj hr2
 refine ym ?_
 obtain rfl := sj hr1
 refine yh (yc ?_)
 obtain rfl := sj hr
 exact yak _ (hS443.rd m0) ⟨I437, w_r440, rfl, ((hl20.trans hl32).trans hl438), hS443.drop.drop.drop.drop.drop.drop.drop.drop, h_r440⟩
 refine yd nL2 ?_
 refine WO.vs 0 [(160, .bool (p2.Kind == 9)), (159, .bool (p2.Kind == 9))] (yb (W.cb hr4 (fun hc hr4 => ?_) (fun hc hr4 => ?_)))
 refine ye (yd [0] ?_)
 refine ya 0 12 (Iv 0) (yb (W.block ?_))
 obtain ⟨t453, hloop459, hr4⟩ := bsm hr4
 have hlt472 := ((RSl.mono h_p1.Idx (hl20.trans hl32))).len_lt
 refine W.wk (W.forN (m := p1.Idx.length) hloop459 (fun (i458 : Nat) => fun (s : qTable × (List qIndex)) fr w => match s with | (s456, s457) => ∃ I454 w_s456 a_s457 c_s457 C_s457, fr = [(4, Pt b5 0), (5, Pt b9 0), (6, Pt b13 0), (8, Pt b23 0), (12, Nv i458)] ∧ I31.Le I454 ∧ St E w I454 ((Bx b5 (cs_qTable p1 w_p1) 89) :: (Bx b9 (cs_qStmt p2 w_p2) 44) :: (Bx b13 (cs_qTable s456 w_s456) 89) :: (Bx b23 (cs_qTable ({ r22 with Cols := r22.Cols, Cons := r22.Cons, Idx := s457 }) (⟨⟨w_r22.Cols.a, w_r22.Cols.c⟩, ⟨w_r22.Cons.a, w_r22.Cons.c⟩, ⟨a_s457, c_s457⟩⟩ : W_qTable)) 89) :: (C_r22_3) :: (C_r22_4) :: (C_s457) :: Os) ∧ ok_qTable I454 s456 w_s456 ∧ OwnSl 124 2 R_qIndex I454 C_s457 a_s457 c_s457 s457) ⟨I31, zw_qTable, w_r22.Idx.a, w_r22.Idx.c, C_r22_5, rfl, lr, hS33.front7.drop.front3.front3.front3.front3.front4.front5.front6, zok_qTable, (OwnSl.mono h_r22_5 hl32)⟩ ?_ ?_)
 rintro i458 ⟨s456, s457⟩ _ w469 hi473 ⟨I454, w_s456, a_s457, c_s457, C_s457, rfl, hl455, hS470, h_s456, h_s457⟩ x471 hr5 hext453
 refine ye (yd nL5 ?_)
 refine WO.vs 0 [(161, Nv i458), (162, Pt b5 5)] (yf (v := (Sl w_p1.Idx.a p1.Idx w_p1.Idx.c)) (hS470.rf m0) ?_)
 refine WO.vs 3 [(164, Nv p1.Idx.length), (165, .bool (decide ((i458 : Int) < (p1.Idx.length : Int))))] (yb (yag (fun hc => ?_)))
 clear hc
 refine yg (En.next (ye (W.block (ye ?_))))
 have hS474 := hS470.drew
 refine yao nL9 8 (KR.cons (hS474.rd m0) (KR.cons (hS474.rd m1) (KR.nil hS474.im))) ?_
 generalize World.drew _ = w475 at *
 refine ya 0 168 (Pt b5 5) (yf (v := (Sl w_p1.Idx.a p1.Idx w_p1.Idx.c)) (rd_c m0 (hS474.rd m0)) ?_)
 refine ya 2 170 (Nv i458) ?_
 obtain ⟨x476, hr5, h0_x476, h1_x476, hx_x476, ha_x476, _, _, ⟨w_x476, rfl, h_x476⟩, hc_x476⟩ := sl_at ((RSl.mono h_p1.Idx ((hl20.trans hl32).trans hl455))) hr5
 refine yq 124 2 ha_x476 h0_x476 h1_x476 ?_
 refine ya 4 172 (.pointer (some ⟨bl w_p1.Idx.a, of w_p1.Idx.a + ((i458 : Int)).toNat * 2, none⟩)) (yae (v := (.string x476.Name)) hc_x476 (rd_i hS474.im) ?_)
 refine ya 6 174 (Pt b9 2) (yf (v := (.string p2.Name)) (rd_c m1 (hS474.rd m1)) ?_)
 refine WO.tail rfl ?_
 refine ya 8 176 (.bool (sEq x476.Name p2.Name)) (yb (W.cb hr5 (fun hc hr5 => ?_) (fun hc hr5 => ?_)))
 refine yd nL2 ?_
 refine ya 0 177 (Pt b23 5) (yw hS474.front3 5 (cs_qTable ({ r22 with Cols := r22.Cols, Cons := r22.Cons, Idx := ([] : List qIndex) }) (⟨⟨w_r22.Cols.a, w_r22.Cols.c⟩, ⟨w_r22.Cons.a, w_r22.Cons.c⟩, ⟨none, 0⟩⟩ : W_qTable)) ?_)
 intro w479 hS478
 refine yb (ye ?_)
 have hS482 := hS478.front6.drop.drew
 refine yao nL9 6 (KR.cons (hS482.rd m0) (KR.cons (hS482.rd m1) (KR.nil hS482.im))) ?_
 generalize World.drew _ = w483 at *
 refine ya 0 178 (Pt b23 5) (yf (v := (.slice none 0 0)) (rd_c m0 (hS482.rd m0)) ?_)
 refine ya 2 180 (Pt b5 5) (yf (v := (Sl w_p1.Idx.a p1.Idx w_p1.Idx.c)) (rd_c m1 (hS482.rd m1)) ?_)
 refine ya 4 182 (Nv i458) ?_
 obtain ⟨x484, hx_x484, hr5⟩ := bsm hr5
 obtain ⟨h0_x484, h1_x484, h2_x484, he_x484⟩ := sub_some hx_x484
 have hl_x484 : ((i458 : Int) : Int) ≤ (w_p1.Idx.c : Int) := Int.le_trans h2_x484 (Int.ofNat_le.2 ((RSl.mono h_p1.Idx ((hl20.trans hl32).trans hl455))).le)
 refine WO.slice (e := 124) (sz := 2) rfl (by kernel_rfl) (by kernel_rfl) (by kernel_rfl) rfl (0 : Int) ((i458 : Int) : Int) h0_x484 (.inl ⟨rfl, rfl⟩) (.inr ⟨_, _, rfl, rfl⟩) h1_x484 hl_x484 ?_
 obtain ⟨a_x484, c_x484, h_x484, ev_x484⟩ := sub_ok ((RSl.mono h_p1.Idx ((hl20.trans hl32).trans hl455))) h0_x484 h1_x484 h2_x484 he_x484
 refine y7 183 rfl ev_x484 ?_
 refine WO.tail rfl ?_
 have hS486 := hS482.no
 obtain ⟨x487, hx_x487, hr5⟩ := bsm hr5
 obtain ⟨h0_x487, he_x487⟩ := app_some hx_x487
 refine WO.append (e' := 124) (b := 40) (zs := (cs_qIndex z_qIndex zw_qIndex).toArray) hS486 (OwnSl.nil (T := 124) (rel := R_qIndex) (I := I454)) rfl (by kernel_rfl) rfl (by kernel_rfl) (by kernel_rfl) (by kernel_rfl) rfl rfl rfl rfl h_x484 hS486.im h0_x487 he_x487 (fun _ _ _ => trivial) ?_
 intro a488 c489 w490 C491 hS492 ho493
 refine ya 7 185 (Pt b23 5) (yw hS492.front1 5 (cs_qTable ({ r22 with Cols := r22.Cols, Cons := r22.Cons, Idx := x487 }) (⟨⟨w_r22.Cols.a, w_r22.Cols.c⟩, ⟨w_r22.Cons.a, w_r22.Cons.c⟩, ⟨a488, c489⟩⟩ : W_qTable)) ?_)
 intro w496 hS495
 refine yb (ye ?_)
 have hS497 := hS495.drew
 refine yao nL10 7 (KR.cons (hS497.rd m0) (KR.cons (hS497.rd m2) (KR.nil hS497.im))) ?_
 generalize World.drew _ = w498 at *
 refine ya 0 186 (Pt b23 5) (yf (v := (Sl a488 x487 c489)) (rd_c m0 (hS497.rd m0)) ?_)
 refine ya 2 188 (Pt b5 5) (yf (v := (Sl w_p1.Idx.a p1.Idx w_p1.Idx.c)) (rd_c m1 (hS497.rd m2)) ?_)
 refine WO.vs 4 [(190, Nv i458), (191, Iv (w64 ((i458 : Int) + 1)))] ?_
 obtain ⟨x499, hx_x499, hr5⟩ := bsm hr5
 obtain ⟨h0_x499, h1_x499, h2_x499, he_x499⟩ := sub_some hx_x499
 have hl_x499 : ((p1.Idx.length : Int) : Int) ≤ (w_p1.Idx.c : Int) := Int.le_trans h2_x499 (Int.ofNat_le.2 ((RSl.mono h_p1.Idx ((hl20.trans hl32).trans hl455))).le)
 refine WO.slice (e := 124) (sz := 2) rfl (by kernel_rfl) (by kernel_rfl) (by kernel_rfl) rfl ((w64 ((i458 : Int) + 1)) : Int) ((p1.Idx.length : Int) : Int) h0_x499 (.inr ⟨_, _, rfl, rfl⟩) (.inl ⟨rfl, rfl⟩) h1_x499 hl_x499 ?_
 obtain ⟨a_x499, c_x499, h_x499, ev_x499⟩ := sub_ok ((RSl.mono h_p1.Idx ((hl20.trans hl32).trans hl455))) h0_x499 h1_x499 h2_x499 he_x499
 refine y7 192 rfl ev_x499 ?_
 refine WO.tail rfl ?_
 have hS500 := hS497.front1
 obtain ⟨x501, hx_x501, hr5⟩ := bsm hr5
 obtain ⟨h0_x501, he_x501⟩ := app_some hx_x501
 refine WO.ap 124 40 (cs_qIndex z_qIndex zw_qIndex) hS500 ho493 h_x499 hS500.im h0_x501 he_x501 ?_
 intro a502 c503 w504 C505 hS506 ho507
 refine ya 8 194 (Pt b23 5) (yw hS506.front1 5 (cs_qTable ({ r22 with Cols := r22.Cols, Cons := r22.Cons, Idx := x501 }) (⟨⟨w_r22.Cols.a, w_r22.Cols.c⟩, ⟨w_r22.Cons.a, w_r22.Cons.c⟩, ⟨a502, c503⟩⟩ : W_qTable)) ?_)
 intro w510 hS509
 refine yz nL3 ?_
 refine yu ((cs_qTable ({ r22 with Cols := r22.Cols, Cons := r22.Cons, Idx := x501 }) (⟨⟨w_r22.Cols.a, w_r22.Cols.c⟩, ⟨w_r22.Cons.a, w_r22.Cons.c⟩, ⟨a502, c503⟩⟩ : W_qTable))) (hS509.rf m0) ?_
 obtain ⟨I512, hl513, hS515, hp514⟩ := y4 (h_r22_3.mono (hl32.trans hl455)) hS509.front5
 obtain ⟨I517, hl518, hS520, hp519⟩ := y4 (h_r22_4.mono ((hl32.trans hl455).trans hl513)) hS515.front5
 obtain ⟨I522, hl523, hS525, hp524⟩ := y4 (ho507.mono (hl513.trans hl518)) hS520.front1
 refine yw hS525.front3 0 (cs_qTable ({ r22 with Cols := r22.Cols, Cons := r22.Cons, Idx := x501 }) (⟨⟨w_r22.Cols.a, w_r22.Cols.c⟩, ⟨w_r22.Cons.a, w_r22.Cons.c⟩, ⟨a502, c503⟩⟩ : W_qTable)) ?_
 intro w528 hS527
 refine ya 2 7 (Iv 0) (yb (W.ret (yh (yc (ym ?_)))))
 have hk540 : ok_qTable I522 ({ r22 with Cols := r22.Cols, Cons := r22.Cons, Idx := x501 }) (⟨⟨w_r22.Cols.a, w_r22.Cols.c⟩, ⟨w_r22.Cons.a, w_r22.Cons.c⟩, ⟨a502, c503⟩⟩ : W_qTable) := ⟨(RSl.mono hp514 (hl518.trans hl523)), (RSl.mono hp519 hl523), hp524⟩
 obtain rfl := hext453 _ (sj hr5).symm
 refine yh (yc (ym ?_))
 have hk541 : ok_qTable I522 ({ r22 with Cols := r22.Cols, Cons := r22.Cons, Idx := x501 }) (⟨⟨w_r22.Cols.a, w_r22.Cols.c⟩, ⟨w_r22.Cons.a, w_r22.Cons.c⟩, ⟨a502, c503⟩⟩ : W_qTable) := ⟨(RSl.mono hp514 (hl518.trans hl523)), (RSl.mono hp519 hl523), hp524⟩
 obtain rfl := sj hr4
 refine ym ?_
 have hk542 : ok_qTable I522 ({ r22 with Cols := r22.Cols, Cons := r22.Cons, Idx := x501 }) (⟨⟨w_r22.Cols.a, w_r22.Cols.c⟩, ⟨w_r22.Cons.a, w_r22.Cons.c⟩, ⟨a502, c503⟩⟩ : W_qTable) := ⟨(RSl.mono hp514 (hl518.trans hl523)), (RSl.mono hp519 hl523), hp524⟩
 obtain rfl := sj hr3
 refine ym ?_
 have hk543 : ok_qTable I522 ({ r22 with Cols := r22.Cols, Cons := r22.Cons, Idx := x501 }) (⟨⟨w_r22.Cols.a, w_r22.Cols.c⟩, ⟨w_r22.Cons.a, w_r22.Cons.c⟩, ⟨a502, c503⟩⟩ : W_qTable) := ⟨(RSl.mono hp514 (hl518.trans hl523)), (RSl.mono hp519 hl523), hp524⟩
 obtain rfl := sj hr2
 refine ym ?_
 have hk544 : ok_qTable I522 ({ r22 with Cols := r22.Cols, Cons := r22.Cons, Idx := x501 }) (⟨⟨w_r22.Cols.a, w_r22.Cols.c⟩, ⟨w_r22.Cons.a, w_r22.Cons.c⟩, ⟨a502, c503⟩⟩ : W_qTable) := ⟨(RSl.mono hp514 (hl518.trans hl523)), (RSl.mono hp519 hl523), hp524⟩
 obtain rfl := sj hr1
 refine yh (yc ?_)
 have hk549 : ok_qTable I522 ({ r22 with Cols := r22.Cols, Cons := r22.Cons, Idx := x501 }) (⟨⟨w_r22.Cols.a, w_r22.Cols.c⟩, ⟨w_r22.Cons.a, w_r22.Cons.c⟩, ⟨a502, c503⟩⟩ : W_qTable) := ⟨(RSl.mono hp514 (hl518.trans hl523)), (RSl.mono hp519 hl523), hp524⟩
 obtain rfl := sj hr
 exact yak _ (hS527.rd m0) ⟨I522, (⟨⟨w_r22.Cols.a, w_r22.Cols.c⟩, ⟨w_r22.Cons.a, w_r22.Cons.c⟩, ⟨a502, c503⟩⟩ : W_qTable), rfl, (((((hl20.trans hl32).trans hl455).trans hl513).trans hl518).trans hl523), hS527.drop.drop.drop.drop, hk549⟩
 refine yg (yi (En.next (yaa nL3 ?_)))
 refine ya 0 166 (Nv i458) (y0 (j := i458) rfl (by kernel_rfl) rfl (by first | omega | (dsimp only at *; omega) | (simp only [List.length_cons, List.length_nil] at *; omega)) ?_)
 exact ya 2 12 (Iv ((i458 + 1 : Nat) : Int)) (WO.nil (yo ⟨(s456, s457), (sj hr5).symm, I454, w_s456, a_s457, c_s457, C_s457, rfl, hl455, hS474, h_s456, h_s457⟩))
 rintro ⟨s456, s457⟩ _ w550 ⟨I454, w_s456, a_s457, c_s457, C_s457, rfl, hl455, hS551, h_s456, h_s457⟩ he
 cases he
 refine ye (yd nL5 ?_)
 refine WO.vs 0 [(161, Nv p1.Idx.length), (162, Pt b5 5)] (yf (v := (Sl w_p1.Idx.a p1.Idx w_p1.Idx.c)) (hS551.rf m0) ?_)
 refine WO.vs 3 [(164, Nv p1.Idx.length), (165, .bool (decide ((p1.Idx.length : Int) < (p1.Idx.length : Int))))] (yb (yah (fun hc => ?_)))
 clear hc
 refine yy (yk (yl (yn (En.next (yd nL3 ?_)))))
 refine yu ((cs_qTable p1 w_p1)) (hS551.rf m0) ?_
 refine yw hS551.front2 0 (cs_qTable p1 w_p1) ?_
 intro w554 hS553
 refine ya 2 7 (Iv 4) (yb (W.ret (ym ?_)))
 obtain rfl := sj hr4
 refine ym ?_
 obtain rfl := sj hr3
 refine ym ?_
 obtain rfl := sj hr2
 refine ym ?_
 obtain rfl := sj hr1
 refine yh (yc ?_)
 obtain rfl := sj hr
 exact yak _ (hS553.rd m0) ⟨I454, w_p1, rfl, ((hl20.trans hl32).trans hl455), hS553.drop.drop.drop.drop.drop.drop.drop, (h_p1.mono ((hl20.trans hl32).trans hl455))⟩
 exact yg (yo ⟨z_qTable, r22.Idx, I31, zw_qTable, w_r22.Idx.a, w_r22.Idx.c, C_r22_5, sj hr4, rfl, lr, hS33.front5.drop.front5.drop.front5.drop.front3.front3.front3.front3.front4, zok_qTable, (OwnSl.mono h_r22_5 hl32)⟩)
 rintro _ w573 ⟨s422, s423, I360, w_s422, a_s423, c_s423, C_s423, rfl, rfl, hl361, hS574, h_s422, h_s423⟩
 exact yo ⟨s422, r22.Cons, s423, I360, w_s422, w_r22.Cons.a, w_r22.Cons.c, C_r22_4, a_s423, c_s423, C_s423, sj hr3, rfl, hl361, hS574, h_s422, (OwnSl.mono h_r22_4 (hl32.trans hl361)), h_s423⟩
 rintro _ w575 ⟨s344, s345, s346, I268, w_s344, a_s345, c_s345, C_s345, a_s346, c_s346, C_s346, rfl, rfl, hl269, hS576, h_s344, h_s345, h_s346⟩
 exact yo ⟨s344, r22.Cols, s345, s346, I268, w_s344, w_r22.Cols.a, w_r22.Cols.c, C_r22_3, a_s345, c_s345, C_s345, a_s346, c_s346, C_s346, sj hr2, rfl, hl269, hS576, h_s344, (OwnSl.mono h_r22_3 (hl32.trans hl269)), h_s345, h_s346⟩
 rintro _ w577 ⟨s251, s252, s253, s254, I122, w_s251, a_s252, c_s252, C_s252, a_s253, c_s253, C_s253, a_s254, c_s254, C_s254, rfl, rfl, hl123, hS578, h_s251, h_s252, h_s253, h_s254⟩
 exact yo ⟨s251, s252, s253, s254, I122, w_s251, a_s252, c_s252, C_s252, a_s253, c_s253, C_s253, a_s254, c_s254, C_s254, sj hr1, rfl, hl123, hS578, h_s251, h_s252, h_s253, h_s254⟩
 rintro _ w579 ⟨s105, s106, s107, s108, I38, w_s105, a_s106, c_s106, C_s106, a_s107, c_s107, C_s107, a_s108, c_s108, C_s108, rfl, rfl, hl39, hS580, h_s105, h_s106, h_s107, h_s108⟩
 refine yi (En.next (yd nL3 ?_))
 refine yu ((cs_qTable ({ r22 with Cols := s106, Cons := s107, Idx := s108 }) (⟨⟨a_s106, c_s106⟩, ⟨a_s107, c_s107⟩, ⟨a_s108, c_s108⟩⟩ : W_qTable))) (hS580.rf m1) ?_
 obtain ⟨I582, hl583, hS585, hp584⟩ := y4 h_s106 hS580.front2
 obtain ⟨I587, hl588, hS590, hp589⟩ := y4 (h_s107.mono hl583) hS585.front2
 obtain ⟨I592, hl593, hS595, hp594⟩ := y4 (h_s108.mono (hl583.trans hl588)) hS590.front2
 refine yw hS595 0 (cs_qTable ({ r22 with Cols := s106, Cons := s107, Idx := s108 }) (⟨⟨a_s106, c_s106⟩, ⟨a_s107, c_s107⟩, ⟨a_s108, c_s108⟩⟩ : W_qTable)) ?_
 intro w597 hS596
 refine ya 2 7 (Iv 0) (yb (W.ret ?_))
 have hk600 : ok_qTable I592 ({ r22 with Cols := s106, Cons := s107, Idx := s108 }) (⟨⟨a_s106, c_s106⟩, ⟨a_s107, c_s107⟩, ⟨a_s108, c_s108⟩⟩ : W_qTable) := ⟨(RSl.mono hp584 (hl588.trans hl593)), (RSl.mono hp589 hl593), hp594⟩
 obtain rfl := sj hr
 exact yak _ (hS596.rd m0) ⟨I592, (⟨⟨a_s106, c_s106⟩, ⟨a_s107, c_s107⟩, ⟨a_s108, c_s108⟩⟩ : W_qTable), rfl, (((((hl20.trans hl32).trans hl39).trans hl583).trans hl588).trans hl593), hS596.drop.drop, hk600⟩
def r14_twice (p0 : List ByteArray) : Option Bool := (forN (fun (i4 : Nat) => fun (_s : Unit) => (sub p0 0 (i4 : Int)).bind (fun x13 => (idx p0 (i4 : Int)).bind (fun x14 => (r14_Has x13 x14).bind (fun r20 => (bif r20 then some (.inr true) else some (.inl ())))))) p0.length 0 ()).bind (fun (t : Unit ⊕ (Bool)) => match t with | .inl _ => some false | .inr s22 => some s22)
theorem r14_twice_ok {p0 : List ByteArray} {a_p0 : Option Addr} {c_p0 : Nat} (h_p0 : RSl 1 RStr I a_p0 c_p0 p0) (hS : St E w I Os) {r : Bool} (hr : r14_twice p0 = some r) :
    Calls P 153 #[(Sl a_p0 p0 c_p0)] w (fun e w' => ∃ I', e = .returned (.bool r) ∧ I.Le I' ∧ St E w' I' Os) := by
 refine calls_W (fn := Tryz.f153) rfl rfl rfl ?_
 unfold r14_twice at hr
 refine yd [0] ?_
 refine ya 0 2 (.bool false) (yb (ye (yd [0] ?_)))
 refine ya 0 3 (Iv 0) (yb (W.block ?_))
 obtain ⟨t1, hloop5, hr⟩ := bsm hr
 have hlt9 := (h_p0).len_lt
 refine W.wk (W.forN (m := p0.length) hloop5 (fun (i4 : Nat) => fun (_s : Unit) fr w => ∃ I2, fr = [(0, Sl a_p0 p0 c_p0), (3, Nv i4)] ∧ I.Le I2 ∧ St E w I2 Os) ⟨I, rfl, lr, hS⟩ ?_ ?_)
 rintro i4 _ _ w6 hi10 ⟨I2, rfl, hl3, hS7⟩ x8 hr1 hext1
 refine ye (yd nL4 ?_)
 refine WO.vs 0 [(4, Nv i4), (5, Sl a_p0 p0 c_p0), (6, Nv p0.length), (7, .bool (decide ((i4 : Int) < (p0.length : Int))))] (yb (yag (fun hc => ?_)))
 clear hc
 refine yg (En.next (ye (W.block (ye ?_))))
 have hS11 := hS7.drew
 refine yao nL8 7 (KR.nil hS11.im) ?_
 generalize World.drew _ = w12 at *
 refine WO.vs 0 [(10, Sl a_p0 p0 c_p0), (11, Nv i4)] ?_
 obtain ⟨x13, hx_x13, hr1⟩ := bsm hr1
 obtain ⟨h0_x13, h1_x13, h2_x13, he_x13⟩ := sub_some hx_x13
 have hl_x13 : ((i4 : Int) : Int) ≤ (c_p0 : Int) := Int.le_trans h2_x13 (Int.ofNat_le.2 ((RSl.mono h_p0 hl3)).le)
 refine WO.slice (e := 9) (sz := 1) rfl (by kernel_rfl) (by kernel_rfl) (by kernel_rfl) rfl (0 : Int) ((i4 : Int) : Int) h0_x13 (.inl ⟨rfl, rfl⟩) (.inr ⟨_, _, rfl, rfl⟩) h1_x13 hl_x13 ?_
 obtain ⟨a_x13, c_x13, h_x13, ev_x13⟩ := sub_ok ((RSl.mono h_p0 hl3)) h0_x13 h1_x13 h2_x13 he_x13
 refine y7 12 rfl ev_x13 ?_
 refine WO.vs 3 [(13, Sl a_p0 p0 c_p0), (14, Nv i4)] ?_
 obtain ⟨x14, hr1, h0_x14, h1_x14, hx_x14, ha_x14, _, _, rfl, hc_x14⟩ := sl_at ((RSl.mono h_p0 hl3)) hr1
 refine yq 9 1 ha_x14 h0_x14 h1_x14 ?_
 refine yae (v := (.string x14)) hc_x14 (rd_i hS11.im) ?_
 refine WO.tail rfl ?_
 obtain ⟨r20, hx_r15, hr1⟩ := bsm hr1
 refine y6 (r14_Has_ok h_x13 hS11 hx_r15) ?_
 intro I17 w16 hl18 hS19
 refine yb (W.cb hr1 (fun hc hr1 => ?_) (fun hc hr1 => ?_))
 refine yd [0] ?_
 refine ya 0 2 (.bool true) (yb (W.ret (yh (yc (ym ?_)))))
 obtain rfl := hext1 _ (sj hr1).symm
 refine yh (yc ?_)
 obtain rfl := sj hr
 exact yr ⟨I17, rfl, (hl3.trans hl18), hS19⟩
 refine yg (yi (En.next (yaa nL3 ?_)))
 refine ya 0 8 (Nv i4) (y0 (j := i4) rfl (by kernel_rfl) rfl (by first | omega | (dsimp only at *; omega) | (simp only [List.length_cons, List.length_nil] at *; omega)) ?_)
 exact ya 2 3 (Iv ((i4 + 1 : Nat) : Int)) (WO.nil (yo ⟨(), (sj hr1).symm, I17, rfl, (hl3.trans hl18), hS19⟩))
 rintro _ _ w23 ⟨I2, rfl, hl3, hS24⟩ he
 cases he
 refine ye (yd nL4 ?_)
 refine WO.vs 0 [(4, Nv p0.length), (5, Sl a_p0 p0 c_p0), (6, Nv p0.length), (7, .bool (decide ((p0.length : Int) < (p0.length : Int))))] (yb (yah (fun hc => ?_)))
 clear hc
 refine yy (yk (yl (yn (En.next (yd [0] ?_)))))
 refine ya 0 2 (.bool false) (yb (W.ret ?_))
 obtain rfl := sj hr
 exact yr ⟨I2, rfl, hl3, hS24⟩
noncomputable def r14_wrong (p0 : qTable) : Option Int := (r14_Names p0).bind (fun (r10, r11) => (app 16 ([p0.Name, p0.Owner] : List ByteArray) r10).bind (fun x19 => (app 16 x19 r11).bind (fun x26 => (forN (fun (i40 : Nat) => fun (_s : Unit) => (idx x26 (i40 : Int)).bind (fun x47 => (r09_IsName x47).bind (fun r53 => (bif (!r53) then some (.inr (18 : Int)) else some (.inl ()))))) x26.length 0 ()).bind (fun (t : Unit ⊕ (Int)) => match t with | .inl _ => (bif (decide (p0.Version < 0)) then some 2 else (forN (fun (i64 : Nat) => fun (_s : Unit) => (idx p0.Cols (i64 : Int)).bind (fun x71 => ((bif (decide (x71.Type_ < 1)) then some true else (idx p0.Cols (i64 : Int)).bind (fun x76 => some (decide (x76.Type_ > 3))))).bind (fun (j72 : Bool) => (bif j72 then some (.inr (2 : Int)) else some (.inl ()))))) p0.Cols.length 0 ()).bind (fun (t : Unit ⊕ (Int)) => match t with | .inl _ => (forN (fun (i88 : Nat) => fun (_s : Unit) => (idx p0.Cons (i88 : Int)).bind (fun x95 => ((bif (decide (x95.Kind < 1)) then some true else (idx p0.Cons (i88 : Int)).bind (fun x100 => some (decide (x100.Kind > 3))))).bind (fun (j96 : Bool) => (bif j96 then some (.inr (2 : Int)) else some (.inl ()))))) p0.Cons.length 0 ()).bind (fun (t : Unit ⊕ (Int)) => match t with | .inl _ => (some ((decide ((p0.Cols.length : Int) < 1)) || (decide ((p0.Cols.length : Int) > 6)))).bind (fun (q109 : Bool) => (some ((q109 || (decide ((p0.Cons.length : Int) > 6))) || (decide ((p0.Idx.length : Int) > 3)))).bind (fun (q114 : Bool) => (bif q114 then some 3 else (r14_lists p0).bind (fun r123 => (forN (fun (i127 : Nat) => fun (_s : Unit) => ((bif (decide ((i127 : Int) < (p0.Cons.length : Int))) then (idx p0.Cons (i127 : Int)).bind (fun x138 => some (x138.Kind == 2)) else some false)).bind (fun (j134 : Bool) => ((bif (!j134) then (idx r123 (i127 : Int)).bind (fun x145 => ((bif (decide ((x145.length : Int) < 1)) then some true else (idx r123 (i127 : Int)).bind (fun x150 => some (decide ((x150.length : Int) > 3))))).bind (fun (j146 : Bool) => some j146)) else some false)).bind (fun (j141 : Bool) => (bif j141 then some (.inr (3 : Int)) else ((bif (decide ((i127 : Int) < (p0.Cons.length : Int))) then (idx p0.Cons (i127 : Int)).bind (fun x163 => some (x163.Kind == 3)) else some false)).bind (fun (j159 : Bool) => ((bif j159 then (idx p0.Cons (i127 : Int)).bind (fun x170 => ((bif (decide ((x170.Refs.length : Int) < 1)) then some true else (idx p0.Cons (i127 : Int)).bind (fun x175 => some (decide ((x175.Refs.length : Int) > 3))))).bind (fun (j171 : Bool) => some j171)) else some false)).bind (fun (j166 : Bool) => (bif j166 then some (.inr (3 : Int)) else some (.inl ())))))))) r123.length 0 ()).bind (fun (t : Unit ⊕ (Int)) => match t with | .inl _ => (r14_twice r10).bind (fun r188 => ((bif r188 then some true else (r14_twice r11).bind (fun r198 => some r198))).bind (fun (j189 : Bool) => (bif j189 then some 19 else (forN (fun (i205 : Nat) => fun (_s : Unit) => (idx r123 (i205 : Int)).bind (fun x212 => (r14_twice x212).bind (fun r218 => ((bif r218 then some true else ((bif (decide ((i205 : Int) < (p0.Cons.length : Int))) then (idx p0.Cons (i205 : Int)).bind (fun x227 => (r14_twice x227.Refs).bind (fun r233 => some r233)) else some false)).bind (fun (j223 : Bool) => some j223))).bind (fun (j219 : Bool) => (bif j219 then some (.inr (19 : Int)) else some (.inl ())))))) r123.length 0 ()).bind (fun (t : Unit ⊕ (Int)) => match t with | .inl _ => some 0 | .inr s239 => some s239)))) | .inr s156 => some s156))))) | .inr s104 => some s104) | .inr s80 => some s80)) | .inr s55 => some s55))))
theorem r14_wrong_ok {p0 : qTable} {w_p0 : W_qTable} (h_p0 : ok_qTable I p0 w_p0) (hS : St E w I Os) {r : Int} (hr : r14_wrong p0 = some r) :
    Calls P 125 #[(.agg (cs_qTable p0 w_p0).toArray)] w (fun e w' => ∃ I', e = .returned (Iv r) ∧ I.Le I' ∧ St E w' I' Os) := by
 refine calls_W (fn := Tryz.f125) rfl rfl rfl ?_
 unfold r14_wrong at hr
 refine yd nL2 ?_
 refine yx hS (cs_qTable p0 w_p0) 89 ?_
 intro b1 w4 hS3
 refine ya 1 2 (Iv 0) (yz nL7 ?_)
 refine yu ((cs_qTable p0 w_p0)) (hS3.rf m0) ?_
 obtain ⟨⟨r10, r11⟩, hx_r5, hr⟩ := bsm hr
 refine y8 (r14_Names_ok h_p0 hS3 hx_r5) ?_
 rintro _ w6 ⟨I7, a_r10, c_r10, a_r11, c_r11, rfl, hl8, hS9, h_r10, h_r11⟩
 refine ⟨_, rfl, trivial, ?_⟩
 refine WO.vs 2 [(13, .tuple #[(Sl a_r10 r10 c_r10), (Sl a_r11 r11 c_r11)]), (16, Sl a_r10 r10 c_r10), (17, Sl a_r11 r11 c_r11), (3, Sl a_r10 r10 c_r10), (4, Sl a_r11 r11 c_r11)] (yz nL10 ?_)
 refine ya 0 18 (Pt b1 0) (yf (v := (.string p0.Name)) (hS9.rf m0) ?_)
 refine ya 2 20 (Pt b1 1) (yf (v := (.string p0.Owner)) (hS9.rf m0) ?_)
 refine y3 (rel := RStr) (xs := ([p0.Name, p0.Owner] : List ByteArray)) hS9 rfl (by kernel_rfl) rfl 9 1 [[(.string p0.Name)], [(.string p0.Owner)]] (by kernel_rfl) rfl ((Elr.cons rfl (Elr.cons rfl Elr.nil))) (fun _ _ _ => trivial) ?_
 intro a15 C13 w17 hS16 ho14
 refine ya 5 23 (Sl a_r10 r10 c_r10) ?_
 obtain ⟨x19, hx_x19, hr⟩ := bsm hr
 obtain ⟨h0_x19, he_x19⟩ := app_some hx_x19
 refine WO.ap 9 16 [(.string (⟨#[]⟩ : ByteArray))] hS16 ho14 h_r10 hS16.im h0_x19 he_x19 ?_
 intro a20 c21 w22 C23 hS24 ho25
 refine ya 7 25 (Sl a_r11 r11 c_r11) ?_
 obtain ⟨x26, hx_x26, hr⟩ := bsm hr
 obtain ⟨h0_x26, he_x26⟩ := app_some hx_x26
 refine WO.ap 9 16 [(.string (⟨#[]⟩ : ByteArray))] hS24 ho25 h_r11 hS24.im h0_x26 he_x26 ?_
 intro a27 c28 w29 C30 hS31 ho32
 obtain ⟨I33, hl34, hS36, hp35⟩ := y4 ho32 hS31
 refine ya 9 5 (Sl a27 x26 c28) (yb (ye (yd [0] ?_)))
 refine ya 0 6 (Iv 0) (yb (W.block ?_))
 obtain ⟨t37, hloop41, hr⟩ := bsm hr
 have hlt45 := (hp35).len_lt
 refine W.wk (W.forN (m := x26.length) hloop41 (fun (i40 : Nat) => fun (_s : Unit) fr w => ∃ I38, fr = [(1, Pt b1 0), (3, Sl a_r10 r10 c_r10), (4, Sl a_r11 r11 c_r11), (5, Sl a27 x26 c28), (6, Nv i40)] ∧ I33.Le I38 ∧ St E w I38 ((Bx b1 (cs_qTable p0 w_p0) 89) :: Os)) ⟨I33, rfl, lr, hS36⟩ ?_ ?_)
 rintro i40 _ _ w42 hi46 ⟨I38, rfl, hl39, hS43⟩ x44 hr1 hext37
 refine ye (yd nL4 ?_)
 refine WO.vs 0 [(27, Nv i40), (28, Sl a27 x26 c28), (29, Nv x26.length), (30, .bool (decide ((i40 : Int) < (x26.length : Int))))] (yb (yag (fun hc => ?_)))
 clear hc
 refine yg (En.next (ye (W.block (yd nL6 ?_))))
 refine WO.vs 0 [(33, Sl a27 x26 c28), (34, Nv i40)] ?_
 obtain ⟨x47, hr1, h0_x47, h1_x47, hx_x47, ha_x47, _, _, rfl, hc_x47⟩ := sl_at ((RSl.mono hp35 hl39)) hr1
 refine yq 9 1 ha_x47 h0_x47 h1_x47 ?_
 refine yae (v := (.string x47)) hc_x47 hS43.rm ?_
 obtain ⟨r53, hx_r48, hr1⟩ := bsm hr1
 refine y6 (r09_IsName_ok  hS43 hx_r48) ?_
 intro I50 w49 hl51 hS52
 refine ya 5 38 (.bool (!r53)) (yb (W.cb hr1 (fun hc hr1 => ?_) (fun hc hr1 => ?_)))
 refine yd [0] ?_
 refine ya 0 2 (Iv 18) (yb (W.ret (yh (yc (ym ?_)))))
 obtain rfl := hext37 _ (sj hr1).symm
 refine yh (yc ?_)
 obtain rfl := sj hr
 exact yr ⟨I50, rfl, (((hl8.trans hl34).trans hl39).trans hl51), hS52.drop⟩
 refine yg (yi (En.next (yaa nL3 ?_)))
 refine ya 0 31 (Nv i40) (y0 (j := i40) rfl (by kernel_rfl) rfl (by first | omega | (dsimp only at *; omega) | (simp only [List.length_cons, List.length_nil] at *; omega)) ?_)
 exact ya 2 6 (Iv ((i40 + 1 : Nat) : Int)) (WO.nil (yo ⟨(), (sj hr1).symm, I50, rfl, (hl39.trans hl51), hS52⟩))
 rintro _ _ w58 ⟨I38, rfl, hl39, hS59⟩ he
 cases he
 refine ye (yd nL4 ?_)
 refine WO.vs 0 [(27, Nv x26.length), (28, Sl a27 x26 c28), (29, Nv x26.length), (30, .bool (decide ((x26.length : Int) < (x26.length : Int))))] (yb (yah (fun hc => ?_)))
 clear hc
 refine yy (yk (yl (yn (En.next (ye (yd nL3 ?_))))))
 refine ya 0 39 (Pt b1 2) (yf (v := (Iv p0.Version)) (hS59.rf m0) ?_)
 refine ya 2 41 (.bool (decide (p0.Version < 0))) (yb (W.cb hr (fun hc hr => ?_) (fun hc hr => ?_)))
 refine yd [0] ?_
 refine ya 0 2 (Iv 2) (yb (W.ret (yc ?_)))
 obtain rfl := sj hr
 exact yr ⟨I38, rfl, ((hl8.trans hl34).trans hl39), hS59.drop⟩
 refine yg (En.next (ye (yd [0] ?_)))
 refine ya 0 7 (Iv 0) (yb (W.block ?_))
 obtain ⟨t61, hloop65, hr⟩ := bsm hr
 have hlt69 := ((RSl.mono h_p0.Cols ((hl8.trans hl34).trans hl39))).len_lt
 refine W.wk (W.forN (m := p0.Cols.length) hloop65 (fun (i64 : Nat) => fun (_s : Unit) fr w => ∃ I62, fr = [(1, Pt b1 0), (3, Sl a_r10 r10 c_r10), (4, Sl a_r11 r11 c_r11), (7, Nv i64)] ∧ I38.Le I62 ∧ St E w I62 ((Bx b1 (cs_qTable p0 w_p0) 89) :: Os)) ⟨I38, rfl, lr, hS59⟩ ?_ ?_)
 rintro i64 _ _ w66 hi70 ⟨I62, rfl, hl63, hS67⟩ x68 hr1 hext61
 refine ye (yd nL5 ?_)
 refine WO.vs 0 [(42, Nv i64), (43, Pt b1 3)] (yf (v := (Sl w_p0.Cols.a p0.Cols w_p0.Cols.c)) (hS67.rf m0) ?_)
 refine WO.vs 3 [(45, Nv p0.Cols.length), (46, .bool (decide ((i64 : Int) < (p0.Cols.length : Int))))] (yb (yag (fun hc => ?_)))
 clear hc
 refine yg (En.next (ye (W.block (yd nL16 ?_))))
 refine ya 0 49 (Pt b1 3) (yf (v := (Sl w_p0.Cols.a p0.Cols w_p0.Cols.c)) (hS67.rf m0) ?_)
 refine ya 2 51 (Nv i64) ?_
 obtain ⟨x71, hr1, h0_x71, h1_x71, hx_x71, ha_x71, _, _, rfl, hc_x71⟩ := sl_at ((RSl.mono h_p0.Cols (((hl8.trans hl34).trans hl39).trans hl63))) hr1
 refine yq 73 3 ha_x71 h0_x71 h1_x71 ?_
 refine ya 4 53 (.pointer (some ⟨bl w_p0.Cols.a, of w_p0.Cols.a + ((i64 : Int)).toNat * 3 + 1, none⟩)) (WO.le (v := (Iv x71.Type_)) hc_x71 1 hS67.rm ?_)
 refine WO.vs 6 [(55, .bool (decide (x71.Type_ < 1))), (56, .bool (decide (x71.Type_ < 1)))] ?_
 obtain ⟨j72, hr2, hr1⟩ := bsm hr1
 refine WO.jw (l1 := [8, 9, 10, 11, 12, 13, 14, 15]) (J := (fun fr w => ∃ I74, fr = [(1, Pt b1 0), (3, Sl a_r10 r10 c_r10), (4, Sl a_r11 r11 c_r11), (7, Nv i64), (64, .bool j72)] ∧ I62.Le I74 ∧ St E w I74 ((Bx b1 (cs_qTable p0 w_p0) 89) :: Os))) ?_ ?_
 refine WO.cb hr2 (fun hc hr2 => ?_) (fun hc hr2 => ?_)
 refine yj 56 hc ?_
 iterate 7 refine yt ?_
 refine ya 15 64 (.bool true) ?_
 obtain rfl := sj hr2
 exact yv ⟨I62, rfl, lr, hS67⟩
 refine yj 56 hc (ya 8 57 (Pt b1 3) (yf (v := (Sl w_p0.Cols.a p0.Cols w_p0.Cols.c)) (hS67.rf m0) ?_))
 refine ya 10 59 (Nv i64) ?_
 obtain ⟨x76, hr2, h0_x76, h1_x76, hx_x76, ha_x76, _, _, rfl, hc_x76⟩ := sl_at ((RSl.mono h_p0.Cols (((hl8.trans hl34).trans hl39).trans hl63))) hr2
 refine yq 73 3 ha_x76 h0_x76 h1_x76 ?_
 refine ya 12 61 (.pointer (some ⟨bl w_p0.Cols.a, of w_p0.Cols.a + ((i64 : Int)).toNat * 3 + 1, none⟩)) (WO.le (v := (Iv x76.Type_)) hc_x76 1 hS67.rm ?_)
 refine WO.vs 14 [(63, .bool (decide (x76.Type_ > 3))), (64, .bool (decide (x76.Type_ > 3)))] ?_
 obtain rfl := sj hr2
 exact yv ⟨I62, rfl, lr, hS67⟩
 rintro _ w77 ⟨I74, rfl, hl75, hS78⟩
 refine yb (W.cb hr1 (fun hc hr1 => ?_) (fun hc hr1 => ?_))
 refine yd [0] ?_
 refine ya 0 2 (Iv 2) (yb (W.ret (yh (yc (ym ?_)))))
 obtain rfl := hext61 _ (sj hr1).symm
 refine yh (yc ?_)
 obtain rfl := sj hr
 exact yr ⟨I74, rfl, ((((hl8.trans hl34).trans hl39).trans hl63).trans hl75), hS78.drop⟩
 refine yg (yi (En.next (yaa nL3 ?_)))
 refine ya 0 47 (Nv i64) (y0 (j := i64) rfl (by kernel_rfl) rfl (by first | omega | (dsimp only at *; omega) | (simp only [List.length_cons, List.length_nil] at *; omega)) ?_)
 exact ya 2 7 (Iv ((i64 + 1 : Nat) : Int)) (WO.nil (yo ⟨(), (sj hr1).symm, I74, rfl, (hl63.trans hl75), hS78⟩))
 rintro _ _ w83 ⟨I62, rfl, hl63, hS84⟩ he
 cases he
 refine ye (yd nL5 ?_)
 refine WO.vs 0 [(42, Nv p0.Cols.length), (43, Pt b1 3)] (yf (v := (Sl w_p0.Cols.a p0.Cols w_p0.Cols.c)) (hS84.rf m0) ?_)
 refine WO.vs 3 [(45, Nv p0.Cols.length), (46, .bool (decide ((p0.Cols.length : Int) < (p0.Cols.length : Int))))] (yb (yah (fun hc => ?_)))
 clear hc
 refine yy (yk (yl (yn (En.next (ye (yd [0] ?_))))))
 refine ya 0 8 (Iv 0) (yb (W.block ?_))
 obtain ⟨t85, hloop89, hr⟩ := bsm hr
 have hlt93 := ((RSl.mono h_p0.Cons (((hl8.trans hl34).trans hl39).trans hl63))).len_lt
 refine W.wk (W.forN (m := p0.Cons.length) hloop89 (fun (i88 : Nat) => fun (_s : Unit) fr w => ∃ I86, fr = [(1, Pt b1 0), (3, Sl a_r10 r10 c_r10), (4, Sl a_r11 r11 c_r11), (8, Nv i88)] ∧ I62.Le I86 ∧ St E w I86 ((Bx b1 (cs_qTable p0 w_p0) 89) :: Os)) ⟨I62, rfl, lr, hS84⟩ ?_ ?_)
 rintro i88 _ _ w90 hi94 ⟨I86, rfl, hl87, hS91⟩ x92 hr1 hext85
 refine ye (yd nL5 ?_)
 refine WO.vs 0 [(65, Nv i88), (66, Pt b1 4)] (yf (v := (Sl w_p0.Cons.a p0.Cons w_p0.Cons.c)) (hS91.rf m0) ?_)
 refine WO.vs 3 [(68, Nv p0.Cons.length), (69, .bool (decide ((i88 : Int) < (p0.Cons.length : Int))))] (yb (yag (fun hc => ?_)))
 clear hc
 refine yg (En.next (ye (W.block (yd nL16 ?_))))
 refine ya 0 72 (Pt b1 4) (yf (v := (Sl w_p0.Cons.a p0.Cons w_p0.Cons.c)) (hS91.rf m0) ?_)
 refine ya 2 74 (Nv i88) ?_
 obtain ⟨x95, hr1, h0_x95, h1_x95, hx_x95, ha_x95, _, _, ⟨w_x95, rfl, h_x95⟩, hc_x95⟩ := sl_at ((RSl.mono h_p0.Cons ((((hl8.trans hl34).trans hl39).trans hl63).trans hl87))) hr1
 refine yq 100 12 ha_x95 h0_x95 h1_x95 ?_
 refine ya 4 76 (.pointer (some ⟨bl w_p0.Cons.a, of w_p0.Cons.a + ((i88 : Int)).toNat * 12 + 1, none⟩)) (WO.le (v := (Iv x95.Kind)) hc_x95 1 hS91.rm ?_)
 refine WO.vs 6 [(78, .bool (decide (x95.Kind < 1))), (79, .bool (decide (x95.Kind < 1)))] ?_
 obtain ⟨j96, hr2, hr1⟩ := bsm hr1
 refine WO.jw (l1 := [8, 9, 10, 11, 12, 13, 14, 15]) (J := (fun fr w => ∃ I98, fr = [(1, Pt b1 0), (3, Sl a_r10 r10 c_r10), (4, Sl a_r11 r11 c_r11), (8, Nv i88), (87, .bool j96)] ∧ I86.Le I98 ∧ St E w I98 ((Bx b1 (cs_qTable p0 w_p0) 89) :: Os))) ?_ ?_
 refine WO.cb hr2 (fun hc hr2 => ?_) (fun hc hr2 => ?_)
 refine yj 79 hc ?_
 iterate 7 refine yt ?_
 refine ya 15 87 (.bool true) ?_
 obtain rfl := sj hr2
 exact yv ⟨I86, rfl, lr, hS91⟩
 refine yj 79 hc (ya 8 80 (Pt b1 4) (yf (v := (Sl w_p0.Cons.a p0.Cons w_p0.Cons.c)) (hS91.rf m0) ?_))
 refine ya 10 82 (Nv i88) ?_
 obtain ⟨x100, hr2, h0_x100, h1_x100, hx_x100, ha_x100, _, _, ⟨w_x100, rfl, h_x100⟩, hc_x100⟩ := sl_at ((RSl.mono h_p0.Cons ((((hl8.trans hl34).trans hl39).trans hl63).trans hl87))) hr2
 refine yq 100 12 ha_x100 h0_x100 h1_x100 ?_
 refine ya 12 84 (.pointer (some ⟨bl w_p0.Cons.a, of w_p0.Cons.a + ((i88 : Int)).toNat * 12 + 1, none⟩)) (WO.le (v := (Iv x100.Kind)) hc_x100 1 hS91.rm ?_)
 refine WO.vs 14 [(86, .bool (decide (x100.Kind > 3))), (87, .bool (decide (x100.Kind > 3)))] ?_
 obtain rfl := sj hr2
 exact yv ⟨I86, rfl, lr, hS91⟩
 rintro _ w101 ⟨I98, rfl, hl99, hS102⟩
 refine yb (W.cb hr1 (fun hc hr1 => ?_) (fun hc hr1 => ?_))
 refine yd [0] ?_
 refine ya 0 2 (Iv 2) (yb (W.ret (yh (yc (ym ?_)))))
 obtain rfl := hext85 _ (sj hr1).symm
 refine yh (yc ?_)
 obtain rfl := sj hr
 exact yr ⟨I98, rfl, (((((hl8.trans hl34).trans hl39).trans hl63).trans hl87).trans hl99), hS102.drop⟩
 refine yg (yi (En.next (yaa nL3 ?_)))
 refine ya 0 70 (Nv i88) (y0 (j := i88) rfl (by kernel_rfl) rfl (by first | omega | (dsimp only at *; omega) | (simp only [List.length_cons, List.length_nil] at *; omega)) ?_)
 exact ya 2 8 (Iv ((i88 + 1 : Nat) : Int)) (WO.nil (yo ⟨(), (sj hr1).symm, I98, rfl, (hl87.trans hl99), hS102⟩))
 rintro _ _ w107 ⟨I86, rfl, hl87, hS108⟩ he
 cases he
 refine ye (yd nL5 ?_)
 refine WO.vs 0 [(65, Nv p0.Cons.length), (66, Pt b1 4)] (yf (v := (Sl w_p0.Cons.a p0.Cons w_p0.Cons.c)) (hS108.rf m0) ?_)
 refine WO.vs 3 [(68, Nv p0.Cons.length), (69, .bool (decide ((p0.Cons.length : Int) < (p0.Cons.length : Int))))] (yb (yah (fun hc => ?_)))
 clear hc
 refine yy (yk (yl (yn (En.next (ye (yd nL22 ?_))))))
 refine ya 0 88 (Pt b1 3) (yf (v := (Sl w_p0.Cols.a p0.Cols w_p0.Cols.c)) (hS108.rf m0) ?_)
 refine WO.vs 2 [(90, Nv p0.Cols.length), (91, .bool (decide ((p0.Cols.length : Int) < 1))), (92, .bool (decide ((p0.Cols.length : Int) < 1)))] ?_
 obtain ⟨q109, hx_q109, hr⟩ := bsm hr
 replace hx_q109 := sj hx_q109
 refine yac (l1 := [5, 6, 7, 8, 9]) 97 q109 ?_ ?_
 refine yp (decide ((p0.Cols.length : Int) < 1)) (fun hc => ?_) (fun hc => ?_)
 refine yj 92 hc ?_
 iterate 4 refine yt ?_
 exact ya 9 97 (.bool true) (WO.mk 92 hc (by rw [← hx_q109, hc]; rfl))
 refine yj 92 hc (ya 5 93 (Pt b1 3) (yf (v := (Sl w_p0.Cols.a p0.Cols w_p0.Cols.c)) (hS108.rf m0) ?_))
 exact WO.vs 7 [(95, Nv p0.Cols.length), (96, .bool (decide ((p0.Cols.length : Int) > 6))), (97, .bool (decide ((p0.Cols.length : Int) > 6)))] (WO.mk 92 hc (by rw [← hx_q109, hc]; rfl))
 refine ya 10 98 (.bool q109) (yac (l1 := [11, 12, 13, 14, 15]) 103 (q109 || (decide ((p0.Cons.length : Int) > 6))) ?_ ?_)
 refine yp q109 (fun hc => ?_) (fun hc => ?_)
 refine yj 98 hc ?_
 iterate 4 refine yt ?_
 exact ya 15 103 (.bool true) (WO.mk 98 hc (by rw [hc]; rfl))
 refine yj 98 hc (ya 11 99 (Pt b1 4) (yf (v := (Sl w_p0.Cons.a p0.Cons w_p0.Cons.c)) (hS108.rf m0) ?_))
 exact WO.vs 13 [(101, Nv p0.Cons.length), (102, .bool (decide ((p0.Cons.length : Int) > 6))), (103, .bool (decide ((p0.Cons.length : Int) > 6)))] (WO.mk 98 hc (by rw [hc]; rfl))
 refine ya 16 104 (.bool (q109 || (decide ((p0.Cons.length : Int) > 6)))) ?_
 obtain ⟨q114, hx_q114, hr⟩ := bsm hr
 replace hx_q114 := sj hx_q114
 refine yac (l1 := [17, 18, 19, 20, 21]) 109 q114 ?_ ?_
 refine yp (q109 || (decide ((p0.Cons.length : Int) > 6))) (fun hc => ?_) (fun hc => ?_)
 refine yj 104 hc ?_
 iterate 4 refine yt ?_
 exact ya 21 109 (.bool true) (WO.mk 104 hc (by rw [← hx_q114, hc]; rfl))
 refine yj 104 hc (ya 17 105 (Pt b1 5) (yf (v := (Sl w_p0.Idx.a p0.Idx w_p0.Idx.c)) (hS108.rf m0) ?_))
 exact WO.vs 19 [(107, Nv p0.Idx.length), (108, .bool (decide ((p0.Idx.length : Int) > 3))), (109, .bool (decide ((p0.Idx.length : Int) > 3)))] (WO.mk 104 hc (by rw [← hx_q114, hc]; rfl))
 refine yb (W.cb hr (fun hc hr => ?_) (fun hc hr => ?_))
 refine yd [0] ?_
 refine ya 0 2 (Iv 3) (yb (W.ret (yc ?_)))
 obtain rfl := sj hr
 exact yr ⟨I86, rfl, ((((hl8.trans hl34).trans hl39).trans hl63).trans hl87), hS108.drop⟩
 refine yg (En.next (yd nL3 ?_))
 refine yu ((cs_qTable p0 w_p0)) (hS108.rf m0) ?_
 obtain ⟨r123, hx_r118, hr⟩ := bsm hr
 refine y8 (r14_lists_ok (h_p0.mono ((((hl8.trans hl34).trans hl39).trans hl63).trans hl87)) hS108 hx_r118) ?_
 rintro _ w119 ⟨I120, a_r123, c_r123, rfl, hl121, hS122, h_r123⟩
 refine ⟨_, rfl, trivial, ?_⟩
 refine ya 2 9 (Sl a_r123 r123 c_r123) (yb (ye (yd [0] ?_)))
 refine ya 0 10 (Iv 0) (yb (W.block ?_))
 obtain ⟨t124, hloop128, hr⟩ := bsm hr
 have hlt132 := (h_r123).len_lt
 refine W.wk (W.forN (m := r123.length) hloop128 (fun (i127 : Nat) => fun (_s : Unit) fr w => ∃ I125, fr = [(1, Pt b1 0), (3, Sl a_r10 r10 c_r10), (4, Sl a_r11 r11 c_r11), (9, Sl a_r123 r123 c_r123), (10, Nv i127)] ∧ I120.Le I125 ∧ St E w I125 ((Bx b1 (cs_qTable p0 w_p0) 89) :: Os)) ⟨I120, rfl, lr, hS122⟩ ?_ ?_)
 rintro i127 _ _ w129 hi133 ⟨I125, rfl, hl126, hS130⟩ x131 hr1 hext124
 refine ye (yd nL4 ?_)
 refine WO.vs 0 [(112, Nv i127), (113, Sl a_r123 r123 c_r123), (114, Nv r123.length), (115, .bool (decide ((i127 : Int) < (r123.length : Int))))] (yb (yag (fun hc => ?_)))
 clear hc
 refine yg (En.next (ye (W.block (yd nL15 ?_))))
 refine WO.vs 0 [(118, Nv i127), (119, Pt b1 4)] (yf (v := (Sl w_p0.Cons.a p0.Cons w_p0.Cons.c)) (hS130.rf m0) ?_)
 refine WO.vs 3 [(121, Nv p0.Cons.length), (122, .bool (decide ((i127 : Int) < (p0.Cons.length : Int)))), (123, .bool (decide ((i127 : Int) < (p0.Cons.length : Int))))] ?_
 obtain ⟨j134, hr2, hr1⟩ := bsm hr1
 refine WO.jw (l1 := [6, 7, 8, 9, 10, 11, 12, 13]) (J := (fun fr w => ∃ I136, fr = [(1, Pt b1 0), (3, Sl a_r10 r10 c_r10), (4, Sl a_r11 r11 c_r11), (9, Sl a_r123 r123 c_r123), (10, Nv i127), (131, .bool j134)] ∧ I125.Le I136 ∧ St E w I136 ((Bx b1 (cs_qTable p0 w_p0) 89) :: Os))) ?_ ?_
 refine WO.cb hr2 (fun hc hr2 => ?_) (fun hc hr2 => ?_)
 refine yj 123 hc (ya 6 124 (Pt b1 4) (yf (v := (Sl w_p0.Cons.a p0.Cons w_p0.Cons.c)) (hS130.rf m0) ?_))
 refine ya 8 126 (Nv i127) ?_
 obtain ⟨x138, hr2, h0_x138, h1_x138, hx_x138, ha_x138, _, _, ⟨w_x138, rfl, h_x138⟩, hc_x138⟩ := sl_at ((RSl.mono h_p0.Cons ((((((hl8.trans hl34).trans hl39).trans hl63).trans hl87).trans hl121).trans hl126))) hr2
 refine yq 100 12 ha_x138 h0_x138 h1_x138 ?_
 refine ya 10 128 (.pointer (some ⟨bl w_p0.Cons.a, of w_p0.Cons.a + ((i127 : Int)).toNat * 12 + 1, none⟩)) (WO.le (v := (Iv x138.Kind)) hc_x138 1 hS130.rm ?_)
 refine WO.vs 12 [(130, .bool (x138.Kind == 2)), (131, .bool (x138.Kind == 2))] ?_
 obtain rfl := sj hr2
 exact yv ⟨I125, rfl, lr, hS130⟩
 refine yj 123 hc ?_
 iterate 7 refine yt ?_
 refine ya 13 131 (.bool false) ?_
 obtain rfl := sj hr2
 exact yv ⟨I125, rfl, lr, hS130⟩
 rintro _ w139 ⟨I136, rfl, hl137, hS140⟩
 refine ya 14 11 (.bool j134) (yb (ye (yd nL18 ?_)))
 refine WO.vs 0 [(132, .bool j134), (133, .bool (!j134)), (134, .bool (!j134))] ?_
 obtain ⟨j141, hr2, hr1⟩ := bsm hr1
 refine WO.jw (l1 := [3, 4, 5, 6, 7, 8, 9, 10, 11, 12, 13, 14, 15, 16, 17]) (J := (fun fr w => ∃ I143, fr = [(1, Pt b1 0), (3, Sl a_r10 r10 c_r10), (4, Sl a_r11 r11 c_r11), (9, Sl a_r123 r123 c_r123), (10, Nv i127), (149, .bool j141)] ∧ I136.Le I143 ∧ St E w I143 ((Bx b1 (cs_qTable p0 w_p0) 89) :: Os))) ?_ ?_
 refine WO.cb hr2 (fun hc hr2 => ?_) (fun hc hr2 => ?_)
 refine yj 134 hc (WO.vs 3 [(135, Sl a_r123 r123 c_r123), (136, Nv i127)] ?_)
 obtain ⟨x145, hx_x145, hr2⟩ := bsm hr2
 obtain ⟨h0_x145, h1_x145, hx_x145⟩ := idx_some hx_x145
 obtain ⟨ha_x145, cs_x145, hn_x145, hr_x145, hc_x145⟩ := ((RSl.mono h_r123 (hl126.trans hl137))).el _ _ hx_x145
 obtain ⟨a_x145, c_x145, rfl, h_x145⟩ := hr_x145
 refine yq 33 1 ha_x145 h0_x145 h1_x145 ?_
 refine yae (v := (Sl a_x145 x145 c_x145)) hc_x145 hS140.rm ?_
 refine WO.vs 7 [(139, Nv x145.length), (140, .bool (decide ((x145.length : Int) < 1))), (141, .bool (decide ((x145.length : Int) < 1)))] ?_
 obtain ⟨j146, hr3, hr2⟩ := bsm hr2
 refine WO.jw (l1 := [10, 11, 12, 13, 14, 15, 16]) (J := (fun fr w => ∃ I148, fr = [(1, Pt b1 0), (3, Sl a_r10 r10 c_r10), (4, Sl a_r11 r11 c_r11), (9, Sl a_r123 r123 c_r123), (10, Nv i127), (134, .bool true), (148, .bool j146)] ∧ I136.Le I148 ∧ St E w I148 ((Bx b1 (cs_qTable p0 w_p0) 89) :: Os))) ?_ ?_
 refine WO.cb hr3 (fun hc hr3 => ?_) (fun hc hr3 => ?_)
 refine yj 141 hc ?_
 iterate 6 refine yt ?_
 refine ya 16 148 (.bool true) ?_
 obtain rfl := sj hr3
 exact yv ⟨I136, rfl, lr, hS140⟩
 refine yj 141 hc (WO.vs 10 [(142, Sl a_r123 r123 c_r123), (143, Nv i127)] ?_)
 obtain ⟨x150, hx_x150, hr3⟩ := bsm hr3
 obtain ⟨h0_x150, h1_x150, hx_x150⟩ := idx_some hx_x150
 obtain ⟨ha_x150, cs_x150, hn_x150, hr_x150, hc_x150⟩ := ((RSl.mono h_r123 (hl126.trans hl137))).el _ _ hx_x150
 obtain ⟨a_x150, c_x150, rfl, h_x150⟩ := hr_x150
 refine yq 33 1 ha_x150 h0_x150 h1_x150 ?_
 refine yae (v := (Sl a_x150 x150 c_x150)) hc_x150 hS140.rm ?_
 refine WO.vs 14 [(146, Nv x150.length), (147, .bool (decide ((x150.length : Int) > 3))), (148, .bool (decide ((x150.length : Int) > 3)))] ?_
 obtain rfl := sj hr3
 exact yv ⟨I136, rfl, lr, hS140⟩
 rintro _ w151 ⟨I148, rfl, hl149, hS152⟩
 refine ya 17 149 (.bool j146) ?_
 obtain rfl := sj hr2
 exact yv ⟨I148, rfl, hl149, hS152⟩
 refine yj 134 hc ?_
 iterate 14 refine yt ?_
 refine ya 17 149 (.bool false) ?_
 obtain rfl := sj hr2
 exact yv ⟨I136, rfl, lr, hS140⟩
 rintro _ w153 ⟨I143, rfl, hl144, hS154⟩
 refine yb (W.cb hr1 (fun hc hr1 => ?_) (fun hc hr1 => ?_))
 refine yd [0] ?_
 refine ya 0 2 (Iv 3) (yb (W.ret (yc (yh (yc (ym ?_))))))
 obtain rfl := hext124 _ (sj hr1).symm
 refine yh (yc ?_)
 obtain rfl := sj hr
 exact yr ⟨I143, rfl, ((((((((hl8.trans hl34).trans hl39).trans hl63).trans hl87).trans hl121).trans hl126).trans hl137).trans hl144), hS154.drop⟩
 refine yg (En.next (yd nL34 ?_))
 refine WO.vs 0 [(150, Nv i127), (151, Pt b1 4)] (yf (v := (Sl w_p0.Cons.a p0.Cons w_p0.Cons.c)) (hS154.rf m0) ?_)
 refine WO.vs 3 [(153, Nv p0.Cons.length), (154, .bool (decide ((i127 : Int) < (p0.Cons.length : Int)))), (155, .bool (decide ((i127 : Int) < (p0.Cons.length : Int))))] ?_
 obtain ⟨j159, hr2, hr1⟩ := bsm hr1
 refine WO.jw (l1 := [6, 7, 8, 9, 10, 11, 12, 13]) (J := (fun fr w => ∃ I161, fr = [(1, Pt b1 0), (3, Sl a_r10 r10 c_r10), (4, Sl a_r11 r11 c_r11), (9, Sl a_r123 r123 c_r123), (10, Nv i127), (163, .bool j159)] ∧ I143.Le I161 ∧ St E w I161 ((Bx b1 (cs_qTable p0 w_p0) 89) :: Os))) ?_ ?_
 refine WO.cb hr2 (fun hc hr2 => ?_) (fun hc hr2 => ?_)
 refine yj 155 hc (ya 6 156 (Pt b1 4) (yf (v := (Sl w_p0.Cons.a p0.Cons w_p0.Cons.c)) (hS154.rf m0) ?_))
 refine ya 8 158 (Nv i127) ?_
 obtain ⟨x163, hr2, h0_x163, h1_x163, hx_x163, ha_x163, _, _, ⟨w_x163, rfl, h_x163⟩, hc_x163⟩ := sl_at ((RSl.mono h_p0.Cons ((((((((hl8.trans hl34).trans hl39).trans hl63).trans hl87).trans hl121).trans hl126).trans hl137).trans hl144))) hr2
 refine yq 100 12 ha_x163 h0_x163 h1_x163 ?_
 refine ya 10 160 (.pointer (some ⟨bl w_p0.Cons.a, of w_p0.Cons.a + ((i127 : Int)).toNat * 12 + 1, none⟩)) (WO.le (v := (Iv x163.Kind)) hc_x163 1 hS154.rm ?_)
 refine WO.vs 12 [(162, .bool (x163.Kind == 3)), (163, .bool (x163.Kind == 3))] ?_
 obtain rfl := sj hr2
 exact yv ⟨I143, rfl, lr, hS154⟩
 refine yj 155 hc ?_
 iterate 7 refine yt ?_
 refine ya 13 163 (.bool false) ?_
 obtain rfl := sj hr2
 exact yv ⟨I143, rfl, lr, hS154⟩
 rintro _ w164 ⟨I161, rfl, hl162, hS165⟩
 refine ya 14 164 (.bool j159) ?_
 obtain ⟨j166, hr2, hr1⟩ := bsm hr1
 refine WO.jw (l1 := [15, 16, 17, 18, 19, 20, 21, 22, 23, 24, 25, 26, 27, 28, 29, 30, 31, 32, 33]) (J := (fun fr w => ∃ I168, fr = [(1, Pt b1 0), (3, Sl a_r10 r10 c_r10), (4, Sl a_r11 r11 c_r11), (9, Sl a_r123 r123 c_r123), (10, Nv i127), (183, .bool j166)] ∧ I161.Le I168 ∧ St E w I168 ((Bx b1 (cs_qTable p0 w_p0) 89) :: Os))) ?_ ?_
 refine WO.cb hr2 (fun hc hr2 => ?_) (fun hc hr2 => ?_)
 refine yj 164 hc (ya 15 165 (Pt b1 4) (yf (v := (Sl w_p0.Cons.a p0.Cons w_p0.Cons.c)) (hS165.rf m0) ?_))
 refine ya 17 167 (Nv i127) ?_
 obtain ⟨x170, hr2, h0_x170, h1_x170, hx_x170, ha_x170, _, _, ⟨w_x170, rfl, h_x170⟩, hc_x170⟩ := sl_at ((RSl.mono h_p0.Cons (((((((((hl8.trans hl34).trans hl39).trans hl63).trans hl87).trans hl121).trans hl126).trans hl137).trans hl144).trans hl162))) hr2
 refine yq 100 12 ha_x170 h0_x170 h1_x170 ?_
 refine ya 19 169 (.pointer (some ⟨bl w_p0.Cons.a, of w_p0.Cons.a + ((i127 : Int)).toNat * 12 + 11, none⟩)) (WO.le (v := (Sl w_x170.Refs.a x170.Refs w_x170.Refs.c)) hc_x170 11 hS165.rm ?_)
 refine WO.vs 21 [(171, Nv x170.Refs.length), (172, .bool (decide ((x170.Refs.length : Int) < 1))), (173, .bool (decide ((x170.Refs.length : Int) < 1)))] ?_
 obtain ⟨j171, hr3, hr2⟩ := bsm hr2
 refine WO.jw (l1 := [24, 25, 26, 27, 28, 29, 30, 31, 32]) (J := (fun fr w => ∃ I173, fr = [(1, Pt b1 0), (3, Sl a_r10 r10 c_r10), (4, Sl a_r11 r11 c_r11), (9, Sl a_r123 r123 c_r123), (10, Nv i127), (164, .bool true), (182, .bool j171)] ∧ I161.Le I173 ∧ St E w I173 ((Bx b1 (cs_qTable p0 w_p0) 89) :: Os))) ?_ ?_
 refine WO.cb hr3 (fun hc hr3 => ?_) (fun hc hr3 => ?_)
 refine yj 173 hc ?_
 iterate 8 refine yt ?_
 refine ya 32 182 (.bool true) ?_
 obtain rfl := sj hr3
 exact yv ⟨I161, rfl, lr, hS165⟩
 refine yj 173 hc (ya 24 174 (Pt b1 4) (yf (v := (Sl w_p0.Cons.a p0.Cons w_p0.Cons.c)) (hS165.rf m0) ?_))
 refine ya 26 176 (Nv i127) ?_
 obtain ⟨x175, hr3, h0_x175, h1_x175, hx_x175, ha_x175, _, _, ⟨w_x175, rfl, h_x175⟩, hc_x175⟩ := sl_at ((RSl.mono h_p0.Cons (((((((((hl8.trans hl34).trans hl39).trans hl63).trans hl87).trans hl121).trans hl126).trans hl137).trans hl144).trans hl162))) hr3
 refine yq 100 12 ha_x175 h0_x175 h1_x175 ?_
 refine ya 28 178 (.pointer (some ⟨bl w_p0.Cons.a, of w_p0.Cons.a + ((i127 : Int)).toNat * 12 + 11, none⟩)) (WO.le (v := (Sl w_x175.Refs.a x175.Refs w_x175.Refs.c)) hc_x175 11 hS165.rm ?_)
 refine WO.vs 30 [(180, Nv x175.Refs.length), (181, .bool (decide ((x175.Refs.length : Int) > 3))), (182, .bool (decide ((x175.Refs.length : Int) > 3)))] ?_
 obtain rfl := sj hr3
 exact yv ⟨I161, rfl, lr, hS165⟩
 rintro _ w176 ⟨I173, rfl, hl174, hS177⟩
 refine ya 33 183 (.bool j171) ?_
 obtain rfl := sj hr2
 exact yv ⟨I173, rfl, hl174, hS177⟩
 refine yj 164 hc ?_
 iterate 18 refine yt ?_
 refine ya 33 183 (.bool false) ?_
 obtain rfl := sj hr2
 exact yv ⟨I161, rfl, lr, hS165⟩
 rintro _ w178 ⟨I168, rfl, hl169, hS179⟩
 refine yb (W.cb hr1 (fun hc hr1 => ?_) (fun hc hr1 => ?_))
 refine yd [0] ?_
 refine ya 0 2 (Iv 3) (yb (W.ret (yh (yc (ym ?_)))))
 obtain rfl := hext124 _ (sj hr1).symm
 refine yh (yc ?_)
 obtain rfl := sj hr
 exact yr ⟨I168, rfl, ((((((((((hl8.trans hl34).trans hl39).trans hl63).trans hl87).trans hl121).trans hl126).trans hl137).trans hl144).trans hl162).trans hl169), hS179.drop⟩
 refine yg (yi (En.next (yaa nL3 ?_)))
 refine ya 0 116 (Nv i127) (y0 (j := i127) rfl (by kernel_rfl) rfl (by first | omega | (dsimp only at *; omega) | (simp only [List.length_cons, List.length_nil] at *; omega)) ?_)
 exact ya 2 10 (Iv ((i127 + 1 : Nat) : Int)) (WO.nil (yo ⟨(), (sj hr1).symm, I168, rfl, ((((hl126.trans hl137).trans hl144).trans hl162).trans hl169), hS179⟩))
 rintro _ _ w181 ⟨I125, rfl, hl126, hS182⟩ he
 cases he
 refine ye (yd nL4 ?_)
 refine WO.vs 0 [(112, Nv r123.length), (113, Sl a_r123 r123 c_r123), (114, Nv r123.length), (115, .bool (decide ((r123.length : Int) < (r123.length : Int))))] (yb (yah (fun hc => ?_)))
 clear hc
 refine yy (yk (yl (yn (En.next (ye (yd nL6 ?_))))))
 refine ya 0 184 (Sl a_r10 r10 c_r10) ?_
 obtain ⟨r188, hx_r183, hr⟩ := bsm hr
 refine y6 (r14_twice_ok (RSl.mono h_r10 (((((hl34.trans hl39).trans hl63).trans hl87).trans hl121).trans hl126)) hS182 hx_r183) ?_
 intro I185 w184 hl186 hS187
 refine ya 2 186 (.bool r188) ?_
 obtain ⟨j189, hr1, hr⟩ := bsm hr
 refine WO.jw (l1 := [3, 4, 5]) (J := (fun fr w => ∃ I191, fr = [(1, Pt b1 0), (9, Sl a_r123 r123 c_r123), (189, .bool j189)] ∧ I185.Le I191 ∧ St E w I191 ((Bx b1 (cs_qTable p0 w_p0) 89) :: Os))) ?_ ?_
 refine WO.cb hr1 (fun hc hr1 => ?_) (fun hc hr1 => ?_)
 refine yj 186 hc ?_
 iterate 2 refine yt ?_
 refine ya 5 189 (.bool true) ?_
 obtain rfl := sj hr1
 exact yv ⟨I185, rfl, lr, hS187⟩
 refine yj 186 hc (ya 3 187 (Sl a_r11 r11 c_r11) ?_)
 obtain ⟨r198, hx_r193, hr1⟩ := bsm hr1
 refine y6 (r14_twice_ok (RSl.mono h_r11 ((((((hl34.trans hl39).trans hl63).trans hl87).trans hl121).trans hl126).trans hl186)) hS187 hx_r193) ?_
 intro I195 w194 hl196 hS197
 refine ya 5 189 (.bool r198) ?_
 obtain rfl := sj hr1
 exact yv ⟨I195, rfl, hl196, hS197⟩
 rintro _ w199 ⟨I191, rfl, hl192, hS200⟩
 refine yb (W.cb hr (fun hc hr => ?_) (fun hc hr => ?_))
 refine yd [0] ?_
 refine ya 0 2 (Iv 19) (yb (W.ret (yc ?_)))
 obtain rfl := sj hr
 exact yr ⟨I191, rfl, ((((((((hl8.trans hl34).trans hl39).trans hl63).trans hl87).trans hl121).trans hl126).trans hl186).trans hl192), hS200.drop⟩
 refine yg (En.next (ye (yd [0] ?_)))
 refine ya 0 12 (Iv 0) (yb (W.block ?_))
 obtain ⟨t202, hloop206, hr⟩ := bsm hr
 have hlt210 := ((RSl.mono h_r123 ((hl126.trans hl186).trans hl192))).len_lt
 refine W.wk (W.forN (m := r123.length) hloop206 (fun (i205 : Nat) => fun (_s : Unit) fr w => ∃ I203, fr = [(1, Pt b1 0), (9, Sl a_r123 r123 c_r123), (12, Nv i205)] ∧ I191.Le I203 ∧ St E w I203 ((Bx b1 (cs_qTable p0 w_p0) 89) :: Os)) ⟨I191, rfl, lr, hS200⟩ ?_ ?_)
 rintro i205 _ _ w207 hi211 ⟨I203, rfl, hl204, hS208⟩ x209 hr1 hext202
 refine ye (yd nL4 ?_)
 refine WO.vs 0 [(190, Nv i205), (191, Sl a_r123 r123 c_r123), (192, Nv r123.length), (193, .bool (decide ((i205 : Int) < (r123.length : Int))))] (yb (yag (fun hc => ?_)))
 clear hc
 refine yg (En.next (ye (W.block (yd nL21 ?_))))
 refine WO.vs 0 [(196, Sl a_r123 r123 c_r123), (197, Nv i205)] ?_
 obtain ⟨x212, hx_x212, hr1⟩ := bsm hr1
 obtain ⟨h0_x212, h1_x212, hx_x212⟩ := idx_some hx_x212
 obtain ⟨ha_x212, cs_x212, hn_x212, hr_x212, hc_x212⟩ := ((RSl.mono h_r123 (((hl126.trans hl186).trans hl192).trans hl204))).el _ _ hx_x212
 obtain ⟨a_x212, c_x212, rfl, h_x212⟩ := hr_x212
 refine yq 33 1 ha_x212 h0_x212 h1_x212 ?_
 refine yae (v := (Sl a_x212 x212 c_x212)) hc_x212 hS208.rm ?_
 obtain ⟨r218, hx_r213, hr1⟩ := bsm hr1
 refine y6 (r14_twice_ok h_x212 hS208 hx_r213) ?_
 intro I215 w214 hl216 hS217
 refine ya 5 201 (.bool r218) ?_
 obtain ⟨j219, hr2, hr1⟩ := bsm hr1
 refine WO.jw (l1 := [6, 7, 8, 9, 10, 11, 12, 13, 14, 15, 16, 17, 18, 19, 20]) (J := (fun fr w => ∃ I221, fr = [(1, Pt b1 0), (9, Sl a_r123 r123 c_r123), (12, Nv i205), (216, .bool j219)] ∧ I215.Le I221 ∧ St E w I221 ((Bx b1 (cs_qTable p0 w_p0) 89) :: Os))) ?_ ?_
 refine WO.cb hr2 (fun hc hr2 => ?_) (fun hc hr2 => ?_)
 refine yj 201 hc ?_
 iterate 14 refine yt ?_
 refine ya 20 216 (.bool true) ?_
 obtain rfl := sj hr2
 exact yv ⟨I215, rfl, lr, hS217⟩
 refine yj 201 hc (WO.vs 6 [(202, Nv i205), (203, Pt b1 4)] (yf (v := (Sl w_p0.Cons.a p0.Cons w_p0.Cons.c)) (hS217.rf m0) ?_))
 refine WO.vs 9 [(205, Nv p0.Cons.length), (206, .bool (decide ((i205 : Int) < (p0.Cons.length : Int)))), (207, .bool (decide ((i205 : Int) < (p0.Cons.length : Int))))] ?_
 obtain ⟨j223, hr3, hr2⟩ := bsm hr2
 refine WO.jw (l1 := [12, 13, 14, 15, 16, 17, 18, 19]) (J := (fun fr w => ∃ I225, fr = [(1, Pt b1 0), (9, Sl a_r123 r123 c_r123), (12, Nv i205), (201, .bool false), (215, .bool j223)] ∧ I215.Le I225 ∧ St E w I225 ((Bx b1 (cs_qTable p0 w_p0) 89) :: Os))) ?_ ?_
 refine WO.cb hr3 (fun hc hr3 => ?_) (fun hc hr3 => ?_)
 refine yj 207 hc (ya 12 208 (Pt b1 4) (yf (v := (Sl w_p0.Cons.a p0.Cons w_p0.Cons.c)) (hS217.rf m0) ?_))
 refine ya 14 210 (Nv i205) ?_
 obtain ⟨x227, hr3, h0_x227, h1_x227, hx_x227, ha_x227, _, _, ⟨w_x227, rfl, h_x227⟩, hc_x227⟩ := sl_at ((RSl.mono h_p0.Cons ((((((((((hl8.trans hl34).trans hl39).trans hl63).trans hl87).trans hl121).trans hl126).trans hl186).trans hl192).trans hl204).trans hl216))) hr3
 refine yq 100 12 ha_x227 h0_x227 h1_x227 ?_
 refine ya 16 212 (.pointer (some ⟨bl w_p0.Cons.a, of w_p0.Cons.a + ((i205 : Int)).toNat * 12 + 11, none⟩)) (WO.le (v := (Sl w_x227.Refs.a x227.Refs w_x227.Refs.c)) hc_x227 11 hS217.rm ?_)
 obtain ⟨r233, hx_r228, hr3⟩ := bsm hr3
 refine y6 (r14_twice_ok h_x227.Refs hS217 hx_r228) ?_
 intro I230 w229 hl231 hS232
 refine ya 19 215 (.bool r233) ?_
 obtain rfl := sj hr3
 exact yv ⟨I230, rfl, hl231, hS232⟩
 refine yj 207 hc ?_
 iterate 7 refine yt ?_
 refine ya 19 215 (.bool false) ?_
 obtain rfl := sj hr3
 exact yv ⟨I215, rfl, lr, hS217⟩
 rintro _ w234 ⟨I225, rfl, hl226, hS235⟩
 refine ya 20 216 (.bool j223) ?_
 obtain rfl := sj hr2
 exact yv ⟨I225, rfl, hl226, hS235⟩
 rintro _ w236 ⟨I221, rfl, hl222, hS237⟩
 refine yb (W.cb hr1 (fun hc hr1 => ?_) (fun hc hr1 => ?_))
 refine yd [0] ?_
 refine ya 0 2 (Iv 19) (yb (W.ret (yh (yc (ym ?_)))))
 obtain rfl := hext202 _ (sj hr1).symm
 refine yh (yc ?_)
 obtain rfl := sj hr
 exact yr ⟨I221, rfl, (((((((((((hl8.trans hl34).trans hl39).trans hl63).trans hl87).trans hl121).trans hl126).trans hl186).trans hl192).trans hl204).trans hl216).trans hl222), hS237.drop⟩
 refine yg (yi (En.next (yaa nL3 ?_)))
 refine ya 0 194 (Nv i205) (y0 (j := i205) rfl (by kernel_rfl) rfl (by first | omega | (dsimp only at *; omega) | (simp only [List.length_cons, List.length_nil] at *; omega)) ?_)
 exact ya 2 12 (Iv ((i205 + 1 : Nat) : Int)) (WO.nil (yo ⟨(), (sj hr1).symm, I221, rfl, ((hl204.trans hl216).trans hl222), hS237⟩))
 rintro _ _ w242 ⟨I203, rfl, hl204, hS243⟩ he
 cases he
 refine ye (yd nL4 ?_)
 refine WO.vs 0 [(190, Nv r123.length), (191, Sl a_r123 r123 c_r123), (192, Nv r123.length), (193, .bool (decide ((r123.length : Int) < (r123.length : Int))))] (yb (yah (fun hc => ?_)))
 clear hc
 refine yy (yk (yl (yn (En.next (yd [0] ?_)))))
 refine ya 0 2 (Iv 0) (yb (W.ret ?_))
 obtain rfl := sj hr
 exact yr ⟨I203, rfl, (((((((((hl8.trans hl34).trans hl39).trans hl63).trans hl87).trans hl121).trans hl126).trans hl186).trans hl192).trans hl204), hS243.drop⟩
def r10_Height_fu : Nat → qExpr → Option Int
  | 0, _ => none
  | fu + 1, p0 => (forE (fun (i9 : Nat) => fun (s8 : Int) => (idx p0.Kids (i9 : Int)).bind (fun x16 => (r10_Height_fu fu x16).bind (fun r22 => ((bif (decide (r22 > s8)) then some r22 else some s8)).bind (fun (j23 : Int) => some j23)))) p0.Kids.length 0 0).bind (fun s8 => some (w64 (s8 + 1)))
noncomputable def r10_Height (p0 : qExpr) : Option Int := anyFuel (fun fu => r10_Height_fu fu p0)
theorem r10_Height_fu_ok : ∀ (fu : Nat) {E w : World} {I : Mem} {Os : List Mem} {p0 : qExpr} {w_p0 : W_qExpr} (h_p0 : ok_qExpr I p0 w_p0) (hS : St E w I Os) {r : Int} (hr : r10_Height_fu fu p0 = some r),
    Calls P 154 #[(.agg (cs_qExpr p0 w_p0).toArray)] w (fun e w' => ∃ I', e = .returned (Iv r) ∧ I.Le I' ∧ St E w' I' Os) := by
 intro fu
 induction fu with
 | zero => intro E w I Os p0 w_p0 h_p0 hS r hr; cases hr
 | succ fu ih =>
 intro E w I Os p0 w_p0 h_p0 hS r hr
 refine calls_W (fn := Tryz.f154) rfl rfl rfl ?_
 unfold r10_Height_fu at hr
 refine yd nL2 ?_
 refine yx hS (cs_qExpr p0 w_p0) 39 ?_
 intro b1 w4 hS3
 refine ya 1 2 (Iv 0) (yz [0] ?_)
 refine ya 0 3 (Iv 0) (yb (ye (yd [0] ?_)))
 refine ya 0 4 (Iv 0) (yb (W.block ?_))
 obtain ⟨s8, hloop10, hr⟩ := bsm hr
 have hlt14 := (h_p0.Kids).len_lt
 refine W.wk (W.forE (m := p0.Kids.length) hloop10 (fun (i9 : Nat) => fun (s8 : Int) fr w => ∃ I6, fr = [(1, Pt b1 0), (3, Iv s8), (4, Nv i9)] ∧ I.Le I6 ∧ St E w I6 ((Bx b1 (cs_qExpr p0 w_p0) 39) :: Os)) ⟨I, rfl, lr, hS3⟩ ?_ ?_)
 rintro i9 s8 _ w11 hi15 ⟨I6, rfl, hl7, hS12⟩ x13 hr1
 refine ye (yd nL5 ?_)
 refine WO.vs 0 [(6, Nv i9), (7, Pt b1 6)] (yf (v := (Sl w_p0.Kids.a p0.Kids w_p0.Kids.c)) (hS12.rf m0) ?_)
 refine WO.vs 3 [(9, Nv p0.Kids.length), (10, .bool (decide ((i9 : Int) < (p0.Kids.length : Int))))] (yb (yag (fun hc => ?_)))
 clear hc
 refine yg (En.next (ye (W.block (yd nL7 ?_))))
 refine ya 0 13 (Pt b1 6) (yf (v := (Sl w_p0.Kids.a p0.Kids w_p0.Kids.c)) (hS12.rf m0) ?_)
 refine ya 2 15 (Nv i9) ?_
 obtain ⟨x16, hx_x16, hr1⟩ := bsm hr1
 obtain ⟨h0_x16, h1_x16, hx_x16⟩ := idx_some hx_x16
 obtain ⟨ha_x16, cs_x16, hn_x16, hr_x16, hc_x16⟩ := ((RSl.mono h_p0.Kids hl7)).el _ _ hx_x16
 obtain ⟨w_x16, rfl, h_x16⟩ := Q_qExpr_iff.1 hr_x16
 refine yq 39 7 ha_x16 h0_x16 h1_x16 ?_
 refine yai ((cs_qExpr x16 w_x16)) hc_x16 0 hS12.rm ?_
 obtain ⟨r22, hx_r17, hr1⟩ := bsm hr1
 refine y6 (ih h_x16 hS12 hx_r17) ?_
 intro I19 w18 hl20 hS21
 refine ya 6 5 (Iv r22) (yz nL3 ?_)
 refine WO.vs 0 [(19, Iv r22), (20, Iv s8), (21, .bool (decide (r22 > s8)))] (yb ?_)
 obtain ⟨j23, hr2, hr1⟩ := bsm hr1
 refine W.jw (J := (fun fr w => ∃ I25, fr = [(1, Pt b1 0), (3, Iv j23), (4, Nv i9)] ∧ I19.Le I25 ∧ St E w I25 ((Bx b1 (cs_qExpr p0 w_p0) 39) :: Os))) ?_ ?_
 refine W.cb hr2 (fun hc hr2 => ?_) (fun hc hr2 => ?_)
 refine yaa nL2 ?_
 refine WO.vs 0 [(22, Iv r22), (3, Iv r22)] (WO.nil ?_)
 obtain rfl := sj hr2
 exact yo ⟨I19, rfl, lr, hS21⟩
 refine yg ?_
 obtain rfl := sj hr2
 exact yo ⟨I19, rfl, lr, hS21⟩
 rintro _ w27 ⟨I25, rfl, hl26, hS28⟩
 refine yi (En.next (yaa nL3 ?_))
 refine ya 0 11 (Nv i9) (y0 (j := i9) rfl (by kernel_rfl) rfl (by first | omega | (dsimp only at *; omega) | (simp only [List.length_cons, List.length_nil] at *; omega)) ?_)
 refine ya 2 4 (Iv ((i9 + 1 : Nat) : Int)) (WO.nil ?_)
 obtain rfl := sj hr1
 exact yo ⟨I25, rfl, ((hl7.trans hl20).trans hl26), hS28⟩
 rintro _ w29 ⟨I6, rfl, hl7, hS30⟩
 refine ye (yd nL5 ?_)
 refine WO.vs 0 [(6, Nv p0.Kids.length), (7, Pt b1 6)] (yf (v := (Sl w_p0.Kids.a p0.Kids w_p0.Kids.c)) (hS30.rf m0) ?_)
 refine WO.vs 3 [(9, Nv p0.Kids.length), (10, .bool (decide ((p0.Kids.length : Int) < (p0.Kids.length : Int))))] (yb (yah (fun hc => ?_)))
 clear hc
 refine yy (yk (yl (yn (En.next (yd nL3 ?_)))))
 refine WO.vs 0 [(23, Iv s8), (24, Iv (w64 (s8 + 1))), (2, Iv (w64 (s8 + 1)))] (yb (W.ret ?_))
 obtain rfl := sj hr
 exact yr ⟨I6, rfl, hl7, hS30.drop⟩
theorem r10_Height_ok {p0 : qExpr} {w_p0 : W_qExpr} (h_p0 : ok_qExpr I p0 w_p0) (hS : St E w I Os) {r : Int} (hr : r10_Height p0 = some r) :
    Calls P 154 #[(.agg (cs_qExpr p0 w_p0).toArray)] w (fun e w' => ∃ I', e = .returned (Iv r) ∧ I.Le I' ∧ St E w' I' Os) := by
 obtain ⟨fu, hf⟩ := anyFuel_some hr
 exact r10_Height_fu_ok fu h_p0 hS hf
noncomputable def r03_Right (p0 : qValue) : Option Bool := (bif (p0.Kind == 0) then some ((p0.N == 0) && (sEq p0.S (⟨#[]⟩ : ByteArray))) else (bif (p0.Kind == 1) then some (sEq p0.S (⟨#[]⟩ : ByteArray)) else (bif (p0.Kind == 2) then (some (((sEq p0.S (⟨#[]⟩ : ByteArray)) && (decide (p0.N ≥ 0))) && (decide (p0.N ≤ 1)))).bind (fun (q11 : Bool) => some q11) else (bif (p0.Kind == 3) then ((bif ((p0.N == 0) && (decide ((p0.S.size : Int) ≤ 32))) then (r03_Plain p0.S).bind (fun r26 => some r26) else some false)).bind (fun (j17 : Bool) => some j17) else some false))))
theorem r03_Right_ok {p0 : qValue} (hS : St E w I Os) {r : Bool} (hr : r03_Right p0 = some r) :
    Calls P 168 #[(.agg (cs_qValue p0).toArray)] w (fun e w' => ∃ I', e = .returned (.bool r) ∧ I.Le I' ∧ St E w' I' Os) := by
 refine calls_W (fn := Tryz.f168) rfl rfl rfl ?_
 unfold r03_Right at hr
 refine yd nL2 ?_
 refine yx hS (cs_qValue p0) 36 ?_
 intro b1 w4 hS3
 refine ya 1 2 (.bool false) (yb (ye (yd nL2 ?_)))
 refine ya 0 3 (Pt b1 0) (yf (v := (Iv p0.Kind)) (hS3.rf m0) ?_)
 refine yb (W.block (yd nL2 ?_))
 refine WO.vs 0 [(6, .bool (p0.Kind == 0)), (5, .bool (p0.Kind == 0))] (yb (W.cb hr (fun hc hr => ?_) (fun hc hr => ?_)))
 refine yd nL9 ?_
 refine ya 0 7 (Pt b1 1) (yf (v := (Iv p0.N)) (hS3.rf m0) ?_)
 refine WO.vs 2 [(9, .bool (p0.N == 0)), (10, .bool (p0.N == 0))] (yac (l1 := [4, 5, 6, 7]) 14 ((p0.N == 0) && (sEq p0.S (⟨#[]⟩ : ByteArray))) ?_ ?_)
 refine yp (p0.N == 0) (fun hc => ?_) (fun hc => ?_)
 refine yj 10 hc (ya 4 11 (Pt b1 2) (yf (v := (.string p0.S)) (hS3.rf m0) ?_))
 exact WO.vs 6 [(13, .bool (sEq p0.S (⟨#[]⟩ : ByteArray))), (14, .bool (sEq p0.S (⟨#[]⟩ : ByteArray)))] (WO.mk 10 hc (by rw [hc]; rfl))
 refine yj 10 hc ?_
 iterate 3 refine yt ?_
 exact ya 7 14 (.bool false) (WO.mk 10 hc (by rw [hc]; rfl))
 refine ya 8 2 (.bool ((p0.N == 0) && (sEq p0.S (⟨#[]⟩ : ByteArray)))) (yb (W.ret (yh (yc ?_))))
 obtain rfl := sj hr
 exact yr ⟨I, rfl, lr, hS3.drop⟩
 refine yd nL2 ?_
 refine WO.vs 0 [(16, .bool (p0.Kind == 1)), (15, .bool (p0.Kind == 1))] (yb (W.cb hr (fun hc hr => ?_) (fun hc hr => ?_)))
 refine yd nL4 ?_
 refine ya 0 17 (Pt b1 2) (yf (v := (.string p0.S)) (hS3.rf m0) ?_)
 refine WO.vs 2 [(19, .bool (sEq p0.S (⟨#[]⟩ : ByteArray))), (2, .bool (sEq p0.S (⟨#[]⟩ : ByteArray)))] (yb (W.ret (yh (yc ?_))))
 obtain rfl := sj hr
 exact yr ⟨I, rfl, lr, hS3.drop⟩
 refine yd nL2 ?_
 refine WO.vs 0 [(21, .bool (p0.Kind == 2)), (20, .bool (p0.Kind == 2))] (yb (W.cb hr (fun hc hr => ?_) (fun hc hr => ?_)))
 refine yd nL14 ?_
 refine ya 0 22 (Pt b1 2) (yf (v := (.string p0.S)) (hS3.rf m0) ?_)
 refine WO.vs 2 [(24, .bool (sEq p0.S (⟨#[]⟩ : ByteArray))), (25, .bool (sEq p0.S (⟨#[]⟩ : ByteArray)))] (yac (l1 := [4, 5, 6, 7]) 29 ((sEq p0.S (⟨#[]⟩ : ByteArray)) && (decide (p0.N ≥ 0))) ?_ ?_)
 refine yp (sEq p0.S (⟨#[]⟩ : ByteArray)) (fun hc => ?_) (fun hc => ?_)
 refine yj 25 hc (ya 4 26 (Pt b1 1) (yf (v := (Iv p0.N)) (hS3.rf m0) ?_))
 exact WO.vs 6 [(28, .bool (decide (p0.N ≥ 0))), (29, .bool (decide (p0.N ≥ 0)))] (WO.mk 25 hc (by rw [hc]; rfl))
 refine yj 25 hc ?_
 iterate 3 refine yt ?_
 exact ya 7 29 (.bool false) (WO.mk 25 hc (by rw [hc]; rfl))
 refine ya 8 30 (.bool ((sEq p0.S (⟨#[]⟩ : ByteArray)) && (decide (p0.N ≥ 0)))) ?_
 obtain ⟨q11, hx_q11, hr⟩ := bsm hr
 replace hx_q11 := sj hx_q11
 refine yac (l1 := [9, 10, 11, 12]) 34 q11 ?_ ?_
 refine yp ((sEq p0.S (⟨#[]⟩ : ByteArray)) && (decide (p0.N ≥ 0))) (fun hc => ?_) (fun hc => ?_)
 refine yj 30 hc (ya 9 31 (Pt b1 1) (yf (v := (Iv p0.N)) (hS3.rf m0) ?_))
 exact WO.vs 11 [(33, .bool (decide (p0.N ≤ 1))), (34, .bool (decide (p0.N ≤ 1)))] (WO.mk 30 hc (by rw [← hx_q11, hc]; rfl))
 refine yj 30 hc ?_
 iterate 3 refine yt ?_
 exact ya 12 34 (.bool false) (WO.mk 30 hc (by rw [← hx_q11, hc]; rfl))
 refine ya 13 2 (.bool q11) (yb (W.ret (yh (yc ?_))))
 obtain rfl := sj hr
 exact yr ⟨I, rfl, lr, hS3.drop⟩
 refine yd nL2 ?_
 refine WO.vs 0 [(36, .bool (p0.Kind == 3)), (35, .bool (p0.Kind == 3))] (yb (W.cb hr (fun hc hr => ?_) (fun hc hr => ?_)))
 refine yd nL15 ?_
 refine ya 0 37 (Pt b1 1) (yf (v := (Iv p0.N)) (hS3.rf m0) ?_)
 refine WO.vs 2 [(39, .bool (p0.N == 0)), (40, .bool (p0.N == 0))] (yac (l1 := [4, 5, 6, 7, 8]) 45 ((p0.N == 0) && (decide ((p0.S.size : Int) ≤ 32))) ?_ ?_)
 refine yp (p0.N == 0) (fun hc => ?_) (fun hc => ?_)
 refine yj 40 hc (ya 4 41 (Pt b1 2) (yf (v := (.string p0.S)) (hS3.rf m0) ?_))
 exact WO.vs 6 [(43, Iv (p0.S.size : Int)), (44, .bool (decide ((p0.S.size : Int) ≤ 32))), (45, .bool (decide ((p0.S.size : Int) ≤ 32)))] (WO.mk 40 hc (by rw [hc]; rfl))
 refine yj 40 hc ?_
 iterate 4 refine yt ?_
 exact ya 8 45 (.bool false) (WO.mk 40 hc (by rw [hc]; rfl))
 refine ya 9 46 (.bool ((p0.N == 0) && (decide ((p0.S.size : Int) ≤ 32)))) ?_
 obtain ⟨j17, hr1, hr⟩ := bsm hr
 refine WO.jw (l1 := [10, 11, 12, 13]) (J := (fun fr w => ∃ I19, fr = [(50, .bool j17)] ∧ I.Le I19 ∧ St E w I19 Os)) ?_ ?_
 refine WO.cb hr1 (fun hc hr1 => ?_) (fun hc hr1 => ?_)
 refine yj 46 hc (ya 10 47 (Pt b1 2) (yf (v := (.string p0.S)) (hS3.rf m0) ?_))
 obtain ⟨r26, hx_r21, hr1⟩ := bsm hr1
 refine y6 (r03_Plain_ok  hS3 hx_r21) ?_
 intro I23 w22 hl24 hS25
 refine ya 13 50 (.bool r26) ?_
 obtain rfl := sj hr1
 exact yv ⟨I23, rfl, hl24, hS25.drop⟩
 refine yj 46 hc ?_
 iterate 3 refine yt ?_
 refine ya 13 50 (.bool false) ?_
 obtain rfl := sj hr1
 exact yv ⟨I, rfl, lr, hS3.drop⟩
 rintro _ w29 ⟨I19, rfl, hl20, hS30⟩
 refine ya 14 2 (.bool j17) (yb (W.ret (yh (yc ?_))))
 obtain rfl := sj hr
 exact yr ⟨I19, rfl, hl20, hS30⟩
 refine yg (yi (En.next (yd [0] ?_)))
 refine ya 0 2 (.bool false) (yb (W.ret ?_))
 obtain rfl := sj hr
 exact yr ⟨I, rfl, lr, hS3.drop⟩
noncomputable def r10_Right_fu : Nat → qExpr → Bool → Option Bool
  | 0, _, _ => none
  | fu + 1, p0, p1 => (forN (fun (i8 : Nat) => fun (_s : Unit) => (idx p0.Kids (i8 : Int)).bind (fun x15 => (r10_Right_fu fu x15 p1).bind (fun r21 => (bif (!r21) then some (.inr false) else some (.inl ()))))) p0.Kids.length 0 ()).bind (fun (t : Unit ⊕ (Bool)) => match t with | .inl _ => (some ((p0.Kind != 1) && (!((p0.V.Kind == 0) && ((p0.V.N == 0) && sEq p0.V.S (⟨#[]⟩ : ByteArray)))))).bind (fun (q32 : Bool) => (some (q32 || (((p0.Kind != 2) && (p0.Kind != 7)) && (!sEq p0.Name (⟨#[]⟩ : ByteArray))))).bind (fun (q39 : Bool) => (bif q39 then some false else (some ((((p0.Kind == 1) || (p0.Kind == 2)) || (p0.Kind == 6)) || (p0.Kind == 7))).bind (fun (q52 : Bool) => (bif (q52 && (p0.Op != 0)) then some false else (bif (p0.Kind == 1) then ((bif ((p0.Kids.length : Int) == 0) then (r03_Right p0.V).bind (fun r69 => some r69) else some false)).bind (fun (j59 : Bool) => some (j59 && (!((p0.V.Kind == 1) && (decide (p0.V.N < 0)))))) else (bif (p0.Kind == 2) then ((bif ((p0.Kids.length : Int) == 0) then (r09_IsName p0.Name).bind (fun r90 => some r90) else some false)).bind (fun (j81 : Bool) => some j81) else (bif (p0.Kind == 3) then (some ((((p0.Kids.length : Int) == 0) && (decide (p0.Op ≥ 1))) && (decide (p0.Op ≤ 6)))).bind (fun (q99 : Bool) => some q99) else (bif (p0.Kind == 4) then (some ((((p0.Kids.length : Int) == 1) && (decide (p0.Op ≥ 1))) && (decide (p0.Op ≤ 4)))).bind (fun (q106 : Bool) => some q106) else (bif (p0.Kind == 5) then (some ((((p0.Kids.length : Int) == 2) && (decide (p0.Op ≥ 1))) && (decide (p0.Op ≤ 14)))).bind (fun (q113 : Bool) => some q113) else (bif (p0.Kind == 6) then (some ((decide ((p0.Kids.length : Int) ≥ 2)) && (decide ((p0.Kids.length : Int) ≤ 9)))).bind (fun (q118 : Bool) => some q118) else (bif (p0.Kind == 7) then (some ((sEq p0.Name (⟨#[99, 111, 97, 108, 101, 115, 99, 101]⟩ : ByteArray)) && (decide ((p0.Kids.length : Int) ≥ 1)))).bind (fun (q123 : Bool) => (some ((q123 && (decide ((p0.Kids.length : Int) ≤ 4))) || (((sEq p0.Name (⟨#[108, 101, 110, 103, 116, 104]⟩ : ByteArray)) || (sEq p0.Name (⟨#[97, 98, 115]⟩ : ByteArray))) && ((p0.Kids.length : Int) == 1)))).bind (fun (q132 : Bool) => some q132)) else (bif (p0.Kind == 8) then (some ((p1 && ((p0.Kids.length : Int) == 0)) && (decide (p0.Op ≥ 0)))).bind (fun (q143 : Bool) => some (q143 && (decide (p0.Op ≤ 5)))) else some false))))))))))))) | .inr s23 => some s23)
noncomputable def r10_Right (p0 : qExpr) (p1 : Bool) : Option Bool := anyFuel (fun fu => r10_Right_fu fu p0 p1)
theorem r10_Right_fu_ok : ∀ (fu : Nat) {E w : World} {I : Mem} {Os : List Mem} {p0 : qExpr} {p1 : Bool} {w_p0 : W_qExpr} (h_p0 : ok_qExpr I p0 w_p0) (hS : St E w I Os) {r : Bool} (hr : r10_Right_fu fu p0 p1 = some r),
    Calls P 155 #[(.agg (cs_qExpr p0 w_p0).toArray), (.bool p1)] w (fun e w' => ∃ I', e = .returned (.bool r) ∧ I.Le I' ∧ St E w' I' Os) := by
 intro fu
 induction fu with
 | zero => intro E w I Os p0 p1 w_p0 h_p0 hS r hr; cases hr
 | succ fu ih =>
 intro E w I Os p0 p1 w_p0 h_p0 hS r hr
 refine calls_W (fn := Tryz.f155) rfl rfl rfl ?_
 unfold r10_Right_fu at hr
 refine yd nL2 ?_
 refine yx hS (cs_qExpr p0 w_p0) 39 ?_
 intro b1 w4 hS3
 refine ya 1 4 (.bool false) (yb (ye (yd [0] ?_)))
 refine ya 0 5 (Iv 0) (yb (W.block ?_))
 obtain ⟨t5, hloop9, hr⟩ := bsm hr
 have hlt13 := (h_p0.Kids).len_lt
 refine W.wk (W.forN (m := p0.Kids.length) hloop9 (fun (i8 : Nat) => fun (_s : Unit) fr w => ∃ I6, fr = [(1, .bool p1), (2, Pt b1 0), (5, Nv i8)] ∧ I.Le I6 ∧ St E w I6 ((Bx b1 (cs_qExpr p0 w_p0) 39) :: Os)) ⟨I, rfl, lr, hS3⟩ ?_ ?_)
 rintro i8 _ _ w10 hi14 ⟨I6, rfl, hl7, hS11⟩ x12 hr1 hext5
 refine ye (yd nL5 ?_)
 refine WO.vs 0 [(8, Nv i8), (9, Pt b1 6)] (yf (v := (Sl w_p0.Kids.a p0.Kids w_p0.Kids.c)) (hS11.rf m0) ?_)
 refine WO.vs 3 [(11, Nv p0.Kids.length), (12, .bool (decide ((i8 : Int) < (p0.Kids.length : Int))))] (yb (yag (fun hc => ?_)))
 clear hc
 refine yg (En.next (ye (W.block (yd nL8 ?_))))
 refine ya 0 15 (Pt b1 6) (yf (v := (Sl w_p0.Kids.a p0.Kids w_p0.Kids.c)) (hS11.rf m0) ?_)
 refine ya 2 17 (Nv i8) ?_
 obtain ⟨x15, hx_x15, hr1⟩ := bsm hr1
 obtain ⟨h0_x15, h1_x15, hx_x15⟩ := idx_some hx_x15
 obtain ⟨ha_x15, cs_x15, hn_x15, hr_x15, hc_x15⟩ := ((RSl.mono h_p0.Kids hl7)).el _ _ hx_x15
 obtain ⟨w_x15, rfl, h_x15⟩ := Q_qExpr_iff.1 hr_x15
 refine yq 39 7 ha_x15 h0_x15 h1_x15 ?_
 refine yai ((cs_qExpr x15 w_x15)) hc_x15 0 hS11.rm ?_
 refine ya 5 20 (.bool p1) ?_
 obtain ⟨r21, hx_r16, hr1⟩ := bsm hr1
 refine y6 (ih h_x15 hS11 hx_r16) ?_
 intro I18 w17 hl19 hS20
 refine ya 7 22 (.bool (!r21)) (yb (W.cb hr1 (fun hc hr1 => ?_) (fun hc hr1 => ?_)))
 refine yd [0] ?_
 refine ya 0 4 (.bool false) (yb (W.ret (yh (yc (ym ?_)))))
 obtain rfl := hext5 _ (sj hr1).symm
 refine yh (yc ?_)
 obtain rfl := sj hr
 exact yr ⟨I18, rfl, (hl7.trans hl19), hS20.drop⟩
 refine yg (yi (En.next (yaa nL3 ?_)))
 refine ya 0 13 (Nv i8) (y0 (j := i8) rfl (by kernel_rfl) rfl (by first | omega | (dsimp only at *; omega) | (simp only [List.length_cons, List.length_nil] at *; omega)) ?_)
 exact ya 2 5 (Iv ((i8 + 1 : Nat) : Int)) (WO.nil (yo ⟨(), (sj hr1).symm, I18, rfl, (hl7.trans hl19), hS20⟩))
 rintro _ _ w26 ⟨I6, rfl, hl7, hS27⟩ he
 cases he
 refine ye (yd nL5 ?_)
 refine WO.vs 0 [(8, Nv p0.Kids.length), (9, Pt b1 6)] (yf (v := (Sl w_p0.Kids.a p0.Kids w_p0.Kids.c)) (hS27.rf m0) ?_)
 refine WO.vs 3 [(11, Nv p0.Kids.length), (12, .bool (decide ((p0.Kids.length : Int) < (p0.Kids.length : Int))))] (yb (yah (fun hc => ?_)))
 clear hc
 refine yy (yk (yl (yn (En.next (yd nL4 ?_)))))
 refine ya 0 23 (Pt b1 6) (yf (v := (Sl w_p0.Kids.a p0.Kids w_p0.Kids.c)) (hS27.rf m0) ?_)
 refine WO.vs 2 [(25, Nv p0.Kids.length), (6, Nv p0.Kids.length)] (yz [0] ?_)
 refine yx hS27 (cs_qValue z_qValue) 36 ?_
 intro b28 w31 hS30
 refine yb (ye (yd nL24 ?_))
 refine ya 0 26 (Pt b1 0) (yf (v := (Iv p0.Kind)) (hS30.rf m1) ?_)
 refine WO.vs 2 [(28, .bool (p0.Kind != 1)), (29, .bool (p0.Kind != 1))] ?_
 obtain ⟨q32, hx_q32, hr⟩ := bsm hr
 replace hx_q32 := sj hx_q32
 refine yac (l1 := [4, 5, 6, 7, 8]) 34 q32 ?_ ?_
 refine yp (p0.Kind != 1) (fun hc => ?_) (fun hc => ?_)
 refine yj 29 hc (ya 4 30 (Pt b1 2) (yu ((cs_qValue p0.V)) (hS30.rf m1) ?_))
 refine yu ((cs_qValue z_qValue)) (hS30.rf m0) ?_
 refine ya2 rfl (by kernel_rfl) rfl rfl (by kernel_rfl) 50 rfl (b := ((p0.V.Kind == 0) && ((p0.V.N == 0) && (sEq p0.V.S (⟨#[]⟩ : ByteArray) && true)))) (by kernel_rfl) (!((p0.V.Kind == 0) && ((p0.V.N == 0) && sEq p0.V.S (⟨#[]⟩ : ByteArray)))) (.inr ⟨rfl, by simp only [Bool.and_true]⟩) ?_
 exact ya 8 34 (.bool (!((p0.V.Kind == 0) && ((p0.V.N == 0) && sEq p0.V.S (⟨#[]⟩ : ByteArray))))) (WO.mk 29 hc (by rw [← hx_q32, hc]; rfl))
 refine yj 29 hc ?_
 iterate 4 refine yt ?_
 exact ya 8 34 (.bool false) (WO.mk 29 hc (by rw [← hx_q32, hc]; rfl))
 refine ya 9 35 (.bool q32) ?_
 obtain ⟨q39, hx_q39, hr⟩ := bsm hr
 replace hx_q39 := sj hx_q39
 refine yac (l1 := [10, 11, 12, 13, 14, 15, 16, 17, 18, 19, 20, 21, 22, 23]) 49 q39 ?_ ?_
 refine yp q32 (fun hc => ?_) (fun hc => ?_)
 refine yj 35 hc ?_
 iterate 13 refine yt ?_
 exact ya 23 49 (.bool true) (WO.mk 35 hc (by rw [← hx_q39, hc]; rfl))
 refine yj 35 hc (ya 10 36 (Pt b1 0) (yf (v := (Iv p0.Kind)) (hS30.rf m1) ?_))
 refine WO.vs 12 [(38, .bool (p0.Kind != 2)), (39, .bool (p0.Kind != 2))] (yac (l1 := [14, 15, 16, 17]) 43 ((p0.Kind != 2) && (p0.Kind != 7)) ?_ ?_)
 refine yp (p0.Kind != 2) (fun hc => ?_) (fun hc => ?_)
 refine yj 39 hc (ya 14 40 (Pt b1 0) (yf (v := (Iv p0.Kind)) (hS30.rf m1) ?_))
 exact WO.vs 16 [(42, .bool (p0.Kind != 7)), (43, .bool (p0.Kind != 7))] (WO.mk 39 hc (by rw [hc]; rfl))
 refine yj 39 hc ?_
 iterate 3 refine yt ?_
 exact ya 17 43 (.bool false) (WO.mk 39 hc (by rw [hc]; rfl))
 refine ya 18 44 (.bool ((p0.Kind != 2) && (p0.Kind != 7))) (yac (l1 := [19, 20, 21, 22]) 48 (((p0.Kind != 2) && (p0.Kind != 7)) && (!sEq p0.Name (⟨#[]⟩ : ByteArray))) ?_ ?_)
 refine yp ((p0.Kind != 2) && (p0.Kind != 7)) (fun hc => ?_) (fun hc => ?_)
 refine yj 44 hc (ya 19 45 (Pt b1 5) (yf (v := (.string p0.Name)) (hS30.rf m1) ?_))
 exact WO.vs 21 [(47, .bool (!sEq p0.Name (⟨#[]⟩ : ByteArray))), (48, .bool (!sEq p0.Name (⟨#[]⟩ : ByteArray)))] (WO.mk 44 hc (by rw [hc]; rfl))
 refine yj 44 hc ?_
 iterate 3 refine yt ?_
 exact ya 22 48 (.bool false) (WO.mk 44 hc (by rw [hc]; rfl))
 exact ya 23 49 (.bool (((p0.Kind != 2) && (p0.Kind != 7)) && (!sEq p0.Name (⟨#[]⟩ : ByteArray)))) (WO.mk 35 hc (by rw [← hx_q39, hc]; rfl))
 refine yb (W.cb hr (fun hc hr => ?_) (fun hc hr => ?_))
 refine yd [0] ?_
 refine ya 0 4 (.bool false) (yb (W.ret (yc ?_)))
 obtain rfl := sj hr
 exact yr ⟨I6, rfl, hl7, hS30.drop.drop⟩
 refine yg (En.next (ye (yd nL23 ?_)))
 refine ya 0 50 (Pt b1 0) (yf (v := (Iv p0.Kind)) (hS30.rf m1) ?_)
 refine WO.vs 2 [(52, .bool (p0.Kind == 1)), (53, .bool (p0.Kind == 1))] (yac (l1 := [4, 5, 6, 7]) 57 ((p0.Kind == 1) || (p0.Kind == 2)) ?_ ?_)
 refine yp (p0.Kind == 1) (fun hc => ?_) (fun hc => ?_)
 refine yj 53 hc ?_
 iterate 3 refine yt ?_
 exact ya 7 57 (.bool true) (WO.mk 53 hc (by rw [hc]; rfl))
 refine yj 53 hc (ya 4 54 (Pt b1 0) (yf (v := (Iv p0.Kind)) (hS30.rf m1) ?_))
 exact WO.vs 6 [(56, .bool (p0.Kind == 2)), (57, .bool (p0.Kind == 2))] (WO.mk 53 hc (by rw [hc]; rfl))
 refine ya 8 58 (.bool ((p0.Kind == 1) || (p0.Kind == 2))) (yac (l1 := [9, 10, 11, 12]) 62 (((p0.Kind == 1) || (p0.Kind == 2)) || (p0.Kind == 6)) ?_ ?_)
 refine yp ((p0.Kind == 1) || (p0.Kind == 2)) (fun hc => ?_) (fun hc => ?_)
 refine yj 58 hc ?_
 iterate 3 refine yt ?_
 exact ya 12 62 (.bool true) (WO.mk 58 hc (by rw [hc]; rfl))
 refine yj 58 hc (ya 9 59 (Pt b1 0) (yf (v := (Iv p0.Kind)) (hS30.rf m1) ?_))
 exact WO.vs 11 [(61, .bool (p0.Kind == 6)), (62, .bool (p0.Kind == 6))] (WO.mk 58 hc (by rw [hc]; rfl))
 refine ya 13 63 (.bool (((p0.Kind == 1) || (p0.Kind == 2)) || (p0.Kind == 6))) ?_
 obtain ⟨q52, hx_q52, hr⟩ := bsm hr
 replace hx_q52 := sj hx_q52
 refine yac (l1 := [14, 15, 16, 17]) 67 q52 ?_ ?_
 refine yp (((p0.Kind == 1) || (p0.Kind == 2)) || (p0.Kind == 6)) (fun hc => ?_) (fun hc => ?_)
 refine yj 63 hc ?_
 iterate 3 refine yt ?_
 exact ya 17 67 (.bool true) (WO.mk 63 hc (by rw [← hx_q52, hc]; rfl))
 refine yj 63 hc (ya 14 64 (Pt b1 0) (yf (v := (Iv p0.Kind)) (hS30.rf m1) ?_))
 exact WO.vs 16 [(66, .bool (p0.Kind == 7)), (67, .bool (p0.Kind == 7))] (WO.mk 63 hc (by rw [← hx_q52, hc]; rfl))
 refine ya 18 68 (.bool q52) (yac (l1 := [19, 20, 21, 22]) 72 (q52 && (p0.Op != 0)) ?_ ?_)
 refine yp q52 (fun hc => ?_) (fun hc => ?_)
 refine yj 68 hc (ya 19 69 (Pt b1 1) (yf (v := (Iv p0.Op)) (hS30.rf m1) ?_))
 exact WO.vs 21 [(71, .bool (p0.Op != 0)), (72, .bool (p0.Op != 0))] (WO.mk 68 hc (by rw [hc]; rfl))
 refine yj 68 hc ?_
 iterate 3 refine yt ?_
 exact ya 22 72 (.bool false) (WO.mk 68 hc (by rw [hc]; rfl))
 refine yb (W.cb hr (fun hc hr => ?_) (fun hc hr => ?_))
 refine yd [0] ?_
 refine ya 0 4 (.bool false) (yb (W.ret (yc ?_)))
 obtain rfl := sj hr
 exact yr ⟨I6, rfl, hl7, hS30.drop.drop⟩
 refine yg (En.next (ye (yd nL2 ?_)))
 refine ya 0 73 (Pt b1 0) (yf (v := (Iv p0.Kind)) (hS30.rf m1) ?_)
 refine yb (W.block (yd nL2 ?_))
 refine WO.vs 0 [(76, .bool (p0.Kind == 1)), (75, .bool (p0.Kind == 1))] (yb (W.cb hr (fun hc hr => ?_) (fun hc hr => ?_)))
 refine yd nL21 ?_
 refine WO.vs 0 [(77, Nv p0.Kids.length), (78, .bool ((p0.Kids.length : Int) == 0)), (79, .bool ((p0.Kids.length : Int) == 0))] ?_
 obtain ⟨j59, hr1, hr⟩ := bsm hr
 refine WO.jw (l1 := [3, 4, 5, 6]) (J := (fun fr w => ∃ I61, fr = [(2, Pt b1 0), (83, .bool j59)] ∧ I6.Le I61 ∧ St E w I61 ((Bx b1 (cs_qExpr p0 w_p0) 39) :: Os))) ?_ ?_
 refine WO.cb hr1 (fun hc hr1 => ?_) (fun hc hr1 => ?_)
 refine yj 79 hc (ya 3 80 (Pt b1 2) (yu ((cs_qValue p0.V)) (hS30.rf m1) ?_))
 obtain ⟨r69, hx_r63, hr1⟩ := bsm hr1
 refine y6 (r03_Right_ok  hS30 hx_r63) ?_
 intro I66 w65 hl67 hS68
 refine ya 6 83 (.bool r69) ?_
 obtain rfl := sj hr1
 exact yv ⟨I66, rfl, hl67, hS68.drop⟩
 refine yj 79 hc ?_
 iterate 3 refine yt ?_
 refine ya 6 83 (.bool false) ?_
 obtain rfl := sj hr1
 exact yv ⟨I6, rfl, lr, hS30.drop⟩
 rintro _ w72 ⟨I61, rfl, hl62, hS73⟩
 refine ya 7 84 (.bool j59) (yac (l1 := [8, 9, 10, 11, 12, 13, 14, 15, 16, 17, 18, 19]) 96 (j59 && (!((p0.V.Kind == 1) && (decide (p0.V.N < 0))))) ?_ ?_)
 refine yp j59 (fun hc => ?_) (fun hc => ?_)
 refine yj 84 hc (WO.vs 8 [(85, Pt b1 2), (86, Pt b1 2)] (yf (v := (Iv p0.V.Kind)) (hS73.rf m0) ?_))
 refine WO.vs 11 [(88, .bool (p0.V.Kind == 1)), (89, .bool (p0.V.Kind == 1))] (yac (l1 := [13, 14, 15, 16, 17]) 94 ((p0.V.Kind == 1) && (decide (p0.V.N < 0))) ?_ ?_)
 refine yp (p0.V.Kind == 1) (fun hc => ?_) (fun hc => ?_)
 refine yj 89 hc (WO.vs 13 [(90, Pt b1 2), (91, Pt b1 3)] (yf (v := (Iv p0.V.N)) (hS73.rf m0) ?_))
 exact WO.vs 16 [(93, .bool (decide (p0.V.N < 0))), (94, .bool (decide (p0.V.N < 0)))] (WO.mk 89 hc (by rw [hc]; rfl))
 refine yj 89 hc ?_
 iterate 4 refine yt ?_
 exact ya 17 94 (.bool false) (WO.mk 89 hc (by rw [hc]; rfl))
 exact WO.vs 18 [(95, .bool (!((p0.V.Kind == 1) && (decide (p0.V.N < 0))))), (96, .bool (!((p0.V.Kind == 1) && (decide (p0.V.N < 0)))))] (WO.mk 84 hc (by rw [hc]; rfl))
 refine yj 84 hc ?_
 iterate 11 refine yt ?_
 exact ya 19 96 (.bool false) (WO.mk 84 hc (by rw [hc]; rfl))
 refine ya 20 4 (.bool (j59 && (!((p0.V.Kind == 1) && (decide (p0.V.N < 0)))))) (yb (W.ret (yh (yc ?_))))
 obtain rfl := sj hr
 exact yr ⟨I61, rfl, (hl7.trans hl62), hS73.drop⟩
 refine yd nL2 ?_
 refine WO.vs 0 [(98, .bool (p0.Kind == 2)), (97, .bool (p0.Kind == 2))] (yb (W.cb hr (fun hc hr => ?_) (fun hc hr => ?_)))
 refine yd nL8 ?_
 refine WO.vs 0 [(99, Nv p0.Kids.length), (100, .bool ((p0.Kids.length : Int) == 0)), (101, .bool ((p0.Kids.length : Int) == 0))] ?_
 obtain ⟨j81, hr1, hr⟩ := bsm hr
 refine WO.jw (l1 := [3, 4, 5, 6]) (J := (fun fr w => ∃ I83, fr = [(105, .bool j81)] ∧ I6.Le I83 ∧ St E w I83 Os)) ?_ ?_
 refine WO.cb hr1 (fun hc hr1 => ?_) (fun hc hr1 => ?_)
 refine yj 101 hc (ya 3 102 (Pt b1 5) (yf (v := (.string p0.Name)) (hS30.rf m1) ?_))
 obtain ⟨r90, hx_r85, hr1⟩ := bsm hr1
 refine y6 (r09_IsName_ok  hS30 hx_r85) ?_
 intro I87 w86 hl88 hS89
 refine ya 6 105 (.bool r90) ?_
 obtain rfl := sj hr1
 exact yv ⟨I87, rfl, hl88, hS89.drop.drop⟩
 refine yj 101 hc ?_
 iterate 3 refine yt ?_
 refine ya 6 105 (.bool false) ?_
 obtain rfl := sj hr1
 exact yv ⟨I6, rfl, lr, hS30.drop.drop⟩
 rintro _ w95 ⟨I83, rfl, hl84, hS96⟩
 refine ya 7 4 (.bool j81) (yb (W.ret (yh (yc ?_))))
 obtain rfl := sj hr
 exact yr ⟨I83, rfl, (hl7.trans hl84), hS96⟩
 refine yd nL2 ?_
 refine WO.vs 0 [(107, .bool (p0.Kind == 3)), (106, .bool (p0.Kind == 3))] (yb (W.cb hr (fun hc hr => ?_) (fun hc hr => ?_)))
 refine yd nL13 ?_
 refine WO.vs 0 [(108, Nv p0.Kids.length), (109, .bool ((p0.Kids.length : Int) == 0)), (110, .bool ((p0.Kids.length : Int) == 0))] (yac (l1 := [3, 4, 5, 6]) 114 (((p0.Kids.length : Int) == 0) && (decide (p0.Op ≥ 1))) ?_ ?_)
 refine yp ((p0.Kids.length : Int) == 0) (fun hc => ?_) (fun hc => ?_)
 refine yj 110 hc (ya 3 111 (Pt b1 1) (yf (v := (Iv p0.Op)) (hS30.rf m1) ?_))
 exact WO.vs 5 [(113, .bool (decide (p0.Op ≥ 1))), (114, .bool (decide (p0.Op ≥ 1)))] (WO.mk 110 hc (by rw [hc]; rfl))
 refine yj 110 hc ?_
 iterate 3 refine yt ?_
 exact ya 6 114 (.bool false) (WO.mk 110 hc (by rw [hc]; rfl))
 refine ya 7 115 (.bool (((p0.Kids.length : Int) == 0) && (decide (p0.Op ≥ 1)))) ?_
 obtain ⟨q99, hx_q99, hr⟩ := bsm hr
 replace hx_q99 := sj hx_q99
 refine yac (l1 := [8, 9, 10, 11]) 119 q99 ?_ ?_
 refine yp (((p0.Kids.length : Int) == 0) && (decide (p0.Op ≥ 1))) (fun hc => ?_) (fun hc => ?_)
 refine yj 115 hc (ya 8 116 (Pt b1 1) (yf (v := (Iv p0.Op)) (hS30.rf m1) ?_))
 exact WO.vs 10 [(118, .bool (decide (p0.Op ≤ 6))), (119, .bool (decide (p0.Op ≤ 6)))] (WO.mk 115 hc (by rw [← hx_q99, hc]; rfl))
 refine yj 115 hc ?_
 iterate 3 refine yt ?_
 exact ya 11 119 (.bool false) (WO.mk 115 hc (by rw [← hx_q99, hc]; rfl))
 refine ya 12 4 (.bool q99) (yb (W.ret (yh (yc ?_))))
 obtain rfl := sj hr
 exact yr ⟨I6, rfl, hl7, hS30.drop.drop⟩
 refine yd nL2 ?_
 refine WO.vs 0 [(121, .bool (p0.Kind == 4)), (120, .bool (p0.Kind == 4))] (yb (W.cb hr (fun hc hr => ?_) (fun hc hr => ?_)))
 refine yd nL13 ?_
 refine WO.vs 0 [(122, Nv p0.Kids.length), (123, .bool ((p0.Kids.length : Int) == 1)), (124, .bool ((p0.Kids.length : Int) == 1))] (yac (l1 := [3, 4, 5, 6]) 128 (((p0.Kids.length : Int) == 1) && (decide (p0.Op ≥ 1))) ?_ ?_)
 refine yp ((p0.Kids.length : Int) == 1) (fun hc => ?_) (fun hc => ?_)
 refine yj 124 hc (ya 3 125 (Pt b1 1) (yf (v := (Iv p0.Op)) (hS30.rf m1) ?_))
 exact WO.vs 5 [(127, .bool (decide (p0.Op ≥ 1))), (128, .bool (decide (p0.Op ≥ 1)))] (WO.mk 124 hc (by rw [hc]; rfl))
 refine yj 124 hc ?_
 iterate 3 refine yt ?_
 exact ya 6 128 (.bool false) (WO.mk 124 hc (by rw [hc]; rfl))
 refine ya 7 129 (.bool (((p0.Kids.length : Int) == 1) && (decide (p0.Op ≥ 1)))) ?_
 obtain ⟨q106, hx_q106, hr⟩ := bsm hr
 replace hx_q106 := sj hx_q106
 refine yac (l1 := [8, 9, 10, 11]) 133 q106 ?_ ?_
 refine yp (((p0.Kids.length : Int) == 1) && (decide (p0.Op ≥ 1))) (fun hc => ?_) (fun hc => ?_)
 refine yj 129 hc (ya 8 130 (Pt b1 1) (yf (v := (Iv p0.Op)) (hS30.rf m1) ?_))
 exact WO.vs 10 [(132, .bool (decide (p0.Op ≤ 4))), (133, .bool (decide (p0.Op ≤ 4)))] (WO.mk 129 hc (by rw [← hx_q106, hc]; rfl))
 refine yj 129 hc ?_
 iterate 3 refine yt ?_
 exact ya 11 133 (.bool false) (WO.mk 129 hc (by rw [← hx_q106, hc]; rfl))
 refine ya 12 4 (.bool q106) (yb (W.ret (yh (yc ?_))))
 obtain rfl := sj hr
 exact yr ⟨I6, rfl, hl7, hS30.drop.drop⟩
 refine yd nL2 ?_
 refine WO.vs 0 [(135, .bool (p0.Kind == 5)), (134, .bool (p0.Kind == 5))] (yb (W.cb hr (fun hc hr => ?_) (fun hc hr => ?_)))
 refine yd nL13 ?_
 refine WO.vs 0 [(136, Nv p0.Kids.length), (137, .bool ((p0.Kids.length : Int) == 2)), (138, .bool ((p0.Kids.length : Int) == 2))] (yac (l1 := [3, 4, 5, 6]) 142 (((p0.Kids.length : Int) == 2) && (decide (p0.Op ≥ 1))) ?_ ?_)
 refine yp ((p0.Kids.length : Int) == 2) (fun hc => ?_) (fun hc => ?_)
 refine yj 138 hc (ya 3 139 (Pt b1 1) (yf (v := (Iv p0.Op)) (hS30.rf m1) ?_))
 exact WO.vs 5 [(141, .bool (decide (p0.Op ≥ 1))), (142, .bool (decide (p0.Op ≥ 1)))] (WO.mk 138 hc (by rw [hc]; rfl))
 refine yj 138 hc ?_
 iterate 3 refine yt ?_
 exact ya 6 142 (.bool false) (WO.mk 138 hc (by rw [hc]; rfl))
 refine ya 7 143 (.bool (((p0.Kids.length : Int) == 2) && (decide (p0.Op ≥ 1)))) ?_
 obtain ⟨q113, hx_q113, hr⟩ := bsm hr
 replace hx_q113 := sj hx_q113
 refine yac (l1 := [8, 9, 10, 11]) 147 q113 ?_ ?_
 refine yp (((p0.Kids.length : Int) == 2) && (decide (p0.Op ≥ 1))) (fun hc => ?_) (fun hc => ?_)
 refine yj 143 hc (ya 8 144 (Pt b1 1) (yf (v := (Iv p0.Op)) (hS30.rf m1) ?_))
 exact WO.vs 10 [(146, .bool (decide (p0.Op ≤ 14))), (147, .bool (decide (p0.Op ≤ 14)))] (WO.mk 143 hc (by rw [← hx_q113, hc]; rfl))
 refine yj 143 hc ?_
 iterate 3 refine yt ?_
 exact ya 11 147 (.bool false) (WO.mk 143 hc (by rw [← hx_q113, hc]; rfl))
 refine ya 12 4 (.bool q113) (yb (W.ret (yh (yc ?_))))
 obtain rfl := sj hr
 exact yr ⟨I6, rfl, hl7, hS30.drop.drop⟩
 refine yd nL2 ?_
 refine WO.vs 0 [(149, .bool (p0.Kind == 6)), (148, .bool (p0.Kind == 6))] (yb (W.cb hr (fun hc hr => ?_) (fun hc hr => ?_)))
 refine yd nL7 ?_
 refine WO.vs 0 [(150, Nv p0.Kids.length), (151, .bool (decide ((p0.Kids.length : Int) ≥ 2))), (152, .bool (decide ((p0.Kids.length : Int) ≥ 2)))] ?_
 obtain ⟨q118, hx_q118, hr⟩ := bsm hr
 replace hx_q118 := sj hx_q118
 refine yac (l1 := [3, 4, 5]) 155 q118 ?_ ?_
 refine yp (decide ((p0.Kids.length : Int) ≥ 2)) (fun hc => ?_) (fun hc => ?_)
 exact yj 152 hc (WO.vs 3 [(153, Nv p0.Kids.length), (154, .bool (decide ((p0.Kids.length : Int) ≤ 9))), (155, .bool (decide ((p0.Kids.length : Int) ≤ 9)))] (WO.mk 152 hc (by rw [← hx_q118, hc]; rfl)))
 refine yj 152 hc ?_
 iterate 2 refine yt ?_
 exact ya 5 155 (.bool false) (WO.mk 152 hc (by rw [← hx_q118, hc]; rfl))
 refine ya 6 4 (.bool q118) (yb (W.ret (yh (yc ?_))))
 obtain rfl := sj hr
 exact yr ⟨I6, rfl, hl7, hS30.drop.drop⟩
 refine yd nL2 ?_
 refine WO.vs 0 [(157, .bool (p0.Kind == 7)), (156, .bool (p0.Kind == 7))] (yb (W.cb hr (fun hc hr => ?_) (fun hc hr => ?_)))
 refine yd nL26 ?_
 refine ya 0 158 (Pt b1 5) (yf (v := (.string p0.Name)) (hS30.rf m1) ?_)
 refine WO.vs 2 [(160, .bool (sEq p0.Name (⟨#[99, 111, 97, 108, 101, 115, 99, 101]⟩ : ByteArray))), (161, .bool (sEq p0.Name (⟨#[99, 111, 97, 108, 101, 115, 99, 101]⟩ : ByteArray)))] ?_
 obtain ⟨q123, hx_q123, hr⟩ := bsm hr
 replace hx_q123 := sj hx_q123
 refine yac (l1 := [4, 5, 6]) 164 q123 ?_ ?_
 refine yp (sEq p0.Name (⟨#[99, 111, 97, 108, 101, 115, 99, 101]⟩ : ByteArray)) (fun hc => ?_) (fun hc => ?_)
 exact yj 161 hc (WO.vs 4 [(162, Nv p0.Kids.length), (163, .bool (decide ((p0.Kids.length : Int) ≥ 1))), (164, .bool (decide ((p0.Kids.length : Int) ≥ 1)))] (WO.mk 161 hc (by rw [← hx_q123, hc]; rfl)))
 refine yj 161 hc ?_
 iterate 2 refine yt ?_
 exact ya 6 164 (.bool false) (WO.mk 161 hc (by rw [← hx_q123, hc]; rfl))
 refine ya 7 165 (.bool q123) (yac (l1 := [8, 9, 10]) 168 (q123 && (decide ((p0.Kids.length : Int) ≤ 4))) ?_ ?_)
 refine yp q123 (fun hc => ?_) (fun hc => ?_)
 exact yj 165 hc (WO.vs 8 [(166, Nv p0.Kids.length), (167, .bool (decide ((p0.Kids.length : Int) ≤ 4))), (168, .bool (decide ((p0.Kids.length : Int) ≤ 4)))] (WO.mk 165 hc (by rw [hc]; rfl)))
 refine yj 165 hc ?_
 iterate 2 refine yt ?_
 exact ya 10 168 (.bool false) (WO.mk 165 hc (by rw [hc]; rfl))
 refine ya 11 169 (.bool (q123 && (decide ((p0.Kids.length : Int) ≤ 4)))) ?_
 obtain ⟨q132, hx_q132, hr⟩ := bsm hr
 replace hx_q132 := sj hx_q132
 refine yac (l1 := [12, 13, 14, 15, 16, 17, 18, 19, 20, 21, 22, 23, 24]) 182 q132 ?_ ?_
 refine yp (q123 && (decide ((p0.Kids.length : Int) ≤ 4))) (fun hc => ?_) (fun hc => ?_)
 refine yj 169 hc ?_
 iterate 12 refine yt ?_
 exact ya 24 182 (.bool true) (WO.mk 169 hc (by rw [← hx_q132, hc]; rfl))
 refine yj 169 hc (ya 12 170 (Pt b1 5) (yf (v := (.string p0.Name)) (hS30.rf m1) ?_))
 refine WO.vs 14 [(172, .bool (sEq p0.Name (⟨#[108, 101, 110, 103, 116, 104]⟩ : ByteArray))), (173, .bool (sEq p0.Name (⟨#[108, 101, 110, 103, 116, 104]⟩ : ByteArray)))] (yac (l1 := [16, 17, 18, 19]) 177 ((sEq p0.Name (⟨#[108, 101, 110, 103, 116, 104]⟩ : ByteArray)) || (sEq p0.Name (⟨#[97, 98, 115]⟩ : ByteArray))) ?_ ?_)
 refine yp (sEq p0.Name (⟨#[108, 101, 110, 103, 116, 104]⟩ : ByteArray)) (fun hc => ?_) (fun hc => ?_)
 refine yj 173 hc ?_
 iterate 3 refine yt ?_
 exact ya 19 177 (.bool true) (WO.mk 173 hc (by rw [hc]; rfl))
 refine yj 173 hc (ya 16 174 (Pt b1 5) (yf (v := (.string p0.Name)) (hS30.rf m1) ?_))
 exact WO.vs 18 [(176, .bool (sEq p0.Name (⟨#[97, 98, 115]⟩ : ByteArray))), (177, .bool (sEq p0.Name (⟨#[97, 98, 115]⟩ : ByteArray)))] (WO.mk 173 hc (by rw [hc]; rfl))
 refine ya 20 178 (.bool ((sEq p0.Name (⟨#[108, 101, 110, 103, 116, 104]⟩ : ByteArray)) || (sEq p0.Name (⟨#[97, 98, 115]⟩ : ByteArray)))) (yac (l1 := [21, 22, 23]) 181 (((sEq p0.Name (⟨#[108, 101, 110, 103, 116, 104]⟩ : ByteArray)) || (sEq p0.Name (⟨#[97, 98, 115]⟩ : ByteArray))) && ((p0.Kids.length : Int) == 1)) ?_ ?_)
 refine yp ((sEq p0.Name (⟨#[108, 101, 110, 103, 116, 104]⟩ : ByteArray)) || (sEq p0.Name (⟨#[97, 98, 115]⟩ : ByteArray))) (fun hc => ?_) (fun hc => ?_)
 exact yj 178 hc (WO.vs 21 [(179, Nv p0.Kids.length), (180, .bool ((p0.Kids.length : Int) == 1)), (181, .bool ((p0.Kids.length : Int) == 1))] (WO.mk 178 hc (by rw [hc]; rfl)))
 refine yj 178 hc ?_
 iterate 2 refine yt ?_
 exact ya 23 181 (.bool false) (WO.mk 178 hc (by rw [hc]; rfl))
 exact ya 24 182 (.bool (((sEq p0.Name (⟨#[108, 101, 110, 103, 116, 104]⟩ : ByteArray)) || (sEq p0.Name (⟨#[97, 98, 115]⟩ : ByteArray))) && ((p0.Kids.length : Int) == 1))) (WO.mk 169 hc (by rw [← hx_q132, hc]; rfl))
 refine ya 25 4 (.bool q132) (yb (W.ret (yh (yc ?_))))
 obtain rfl := sj hr
 exact yr ⟨I6, rfl, hl7, hS30.drop.drop⟩
 refine yd nL2 ?_
 refine WO.vs 0 [(184, .bool (p0.Kind == 8)), (183, .bool (p0.Kind == 8))] (yb (W.cb hr (fun hc hr => ?_) (fun hc hr => ?_)))
 refine yd nL16 ?_
 refine WO.vs 0 [(185, .bool p1), (186, .bool p1)] (yac (l1 := [2, 3, 4]) 189 (p1 && ((p0.Kids.length : Int) == 0)) ?_ ?_)
 refine yp p1 (fun hc => ?_) (fun hc => ?_)
 exact yj 186 hc (WO.vs 2 [(187, Nv p0.Kids.length), (188, .bool ((p0.Kids.length : Int) == 0)), (189, .bool ((p0.Kids.length : Int) == 0))] (WO.mk 186 hc (by rw [hc]; rfl)))
 refine yj 186 hc ?_
 iterate 2 refine yt ?_
 exact ya 4 189 (.bool false) (WO.mk 186 hc (by rw [hc]; rfl))
 refine ya 5 190 (.bool (p1 && ((p0.Kids.length : Int) == 0))) ?_
 obtain ⟨q143, hx_q143, hr⟩ := bsm hr
 replace hx_q143 := sj hx_q143
 refine yac (l1 := [6, 7, 8, 9]) 194 q143 ?_ ?_
 refine yp (p1 && ((p0.Kids.length : Int) == 0)) (fun hc => ?_) (fun hc => ?_)
 refine yj 190 hc (ya 6 191 (Pt b1 1) (yf (v := (Iv p0.Op)) (hS30.rf m1) ?_))
 exact WO.vs 8 [(193, .bool (decide (p0.Op ≥ 0))), (194, .bool (decide (p0.Op ≥ 0)))] (WO.mk 190 hc (by rw [← hx_q143, hc]; rfl))
 refine yj 190 hc ?_
 iterate 3 refine yt ?_
 exact ya 9 194 (.bool false) (WO.mk 190 hc (by rw [← hx_q143, hc]; rfl))
 refine ya 10 195 (.bool q143) (yac (l1 := [11, 12, 13, 14]) 199 (q143 && (decide (p0.Op ≤ 5))) ?_ ?_)
 refine yp q143 (fun hc => ?_) (fun hc => ?_)
 refine yj 195 hc (ya 11 196 (Pt b1 1) (yf (v := (Iv p0.Op)) (hS30.rf m1) ?_))
 exact WO.vs 13 [(198, .bool (decide (p0.Op ≤ 5))), (199, .bool (decide (p0.Op ≤ 5)))] (WO.mk 195 hc (by rw [hc]; rfl))
 refine yj 195 hc ?_
 iterate 3 refine yt ?_
 exact ya 14 199 (.bool false) (WO.mk 195 hc (by rw [hc]; rfl))
 refine ya 15 4 (.bool (q143 && (decide (p0.Op ≤ 5)))) (yb (W.ret (yh (yc ?_))))
 obtain rfl := sj hr
 exact yr ⟨I6, rfl, hl7, hS30.drop.drop⟩
 refine yg (yi (En.next (yd [0] ?_)))
 refine ya 0 4 (.bool false) (yb (W.ret ?_))
 obtain rfl := sj hr
 exact yr ⟨I6, rfl, hl7, hS30.drop.drop⟩
theorem r10_Right_ok {p0 : qExpr} {p1 : Bool} {w_p0 : W_qExpr} (h_p0 : ok_qExpr I p0 w_p0) (hS : St E w I Os) {r : Bool} (hr : r10_Right p0 p1 = some r) :
    Calls P 155 #[(.agg (cs_qExpr p0 w_p0).toArray), (.bool p1)] w (fun e w' => ∃ I', e = .returned (.bool r) ∧ I.Le I' ∧ St E w' I' Os) := by
 obtain ⟨fu, hf⟩ := anyFuel_some hr
 exact r10_Right_fu_ok fu h_p0 hS hf
noncomputable def r10_Check (p0 : qExpr) (p1 : Bool) : Option Int := (r10_Height p0).bind (fun r10 => (bif (decide (r10 > 8)) then some 17 else (r10_Right p0 p1).bind (fun r17 => (bif (!r17) then some 2 else some 0))))
theorem r10_Check_ok {p0 : qExpr} {p1 : Bool} {w_p0 : W_qExpr} (h_p0 : ok_qExpr I p0 w_p0) (hS : St E w I Os) {r : Int} (hr : r10_Check p0 p1 = some r) :
    Calls P 126 #[(.agg (cs_qExpr p0 w_p0).toArray), (.bool p1)] w (fun e w' => ∃ I', e = .returned (Iv r) ∧ I.Le I' ∧ St E w' I' Os) := by
 refine calls_W (fn := Tryz.f126) rfl rfl rfl ?_
 unfold r10_Check at hr
 refine yd nL2 ?_
 refine yx hS (cs_qExpr p0 w_p0) 39 ?_
 intro b1 w4 hS3
 refine ya 1 4 (Iv 0) (yb (ye (yd nL3 ?_)))
 refine yu ((cs_qExpr p0 w_p0)) (hS3.rf m0) ?_
 obtain ⟨r10, hx_r5, hr⟩ := bsm hr
 refine y6 (r10_Height_ok h_p0 hS3 hx_r5) ?_
 intro I7 w6 hl8 hS9
 refine ya 2 7 (.bool (decide (r10 > 8))) (yb (W.cb hr (fun hc hr => ?_) (fun hc hr => ?_)))
 refine yd [0] ?_
 refine ya 0 4 (Iv 17) (yb (W.ret (yc ?_)))
 obtain rfl := sj hr
 exact yr ⟨I7, rfl, hl8, hS9.drop⟩
 refine yg (En.next (ye (yd nL4 ?_)))
 refine yu ((cs_qExpr p0 w_p0)) (hS9.rf m0) ?_
 refine ya 1 9 (.bool p1) ?_
 obtain ⟨r17, hx_r12, hr⟩ := bsm hr
 refine y6 (r10_Right_ok (h_p0.mono hl8) hS9 hx_r12) ?_
 intro I14 w13 hl15 hS16
 refine ya 3 11 (.bool (!r17)) (yb (W.cb hr (fun hc hr => ?_) (fun hc hr => ?_)))
 refine yd [0] ?_
 refine ya 0 4 (Iv 2) (yb (W.ret (yc ?_)))
 obtain rfl := sj hr
 exact yr ⟨I14, rfl, (hl8.trans hl15), hS16.drop⟩
 refine yg (En.next (yd [0] ?_))
 refine ya 0 4 (Iv 0) (yb (W.ret ?_))
 obtain rfl := sj hr
 exact yr ⟨I14, rfl, (hl8.trans hl15), hS16.drop⟩
noncomputable def r10_Params (p0 : qExpr) : Option Int := (r10_Parts p0).bind (fun r10 => (forE (fun (i15 : Nat) => fun (s14 : Int) => (idx r10 (i15 : Int)).bind (fun x23 => ((bif (x23.Kind == 3) then (idx r10 (i15 : Int)).bind (fun x28 => some (decide (x28.Op > s14))) else some false)).bind (fun (j24 : Bool) => ((bif j24 then (idx r10 (i15 : Int)).bind (fun x35 => some x35.Op) else some s14)).bind (fun (j31 : Int) => some j31)))) r10.length 0 0).bind (fun s14 => some s14))
theorem r10_Params_ok {p0 : qExpr} {w_p0 : W_qExpr} (h_p0 : ok_qExpr I p0 w_p0) (hS : St E w I Os) {r : Int} (hr : r10_Params p0 = some r) :
    Calls P 127 #[(.agg (cs_qExpr p0 w_p0).toArray)] w (fun e w' => ∃ I', e = .returned (Iv r) ∧ I.Le I' ∧ St E w' I' Os) := by
 refine calls_W (fn := Tryz.f127) rfl rfl rfl ?_
 unfold r10_Params at hr
 refine yd nL2 ?_
 refine yx hS (cs_qExpr p0 w_p0) 39 ?_
 intro b1 w4 hS3
 refine ya 1 2 (Iv 0) (yz nL3 ?_)
 refine yu ((cs_qExpr p0 w_p0)) (hS3.rf m0) ?_
 obtain ⟨r10, hx_r5, hr⟩ := bsm hr
 refine y8 (r10_Parts_ok h_p0 hS3 hx_r5) ?_
 rintro _ w6 ⟨I7, a_r10, c_r10, rfl, hl8, hS9, h_r10⟩
 refine ⟨_, rfl, trivial, ?_⟩
 refine ya 2 3 (Sl a_r10 r10 c_r10) (yz [0] ?_)
 refine ya 0 4 (Iv 0) (yb (ye (yd [0] ?_)))
 refine ya 0 5 (Iv 0) (yb (W.block ?_))
 obtain ⟨s14, hloop16, hr⟩ := bsm hr
 have hlt21 := (h_r10).len_lt
 refine W.wk (W.forE (m := r10.length) hloop16 (fun (i15 : Nat) => fun (s14 : Int) fr w => ∃ I12, fr = [(3, Sl a_r10 r10 c_r10), (4, Iv s14), (5, Nv i15)] ∧ I7.Le I12 ∧ St E w I12 Os) ⟨I7, rfl, lr, hS9.drop⟩ ?_ ?_)
 rintro i15 s14 _ w18 hi22 ⟨I12, rfl, hl13, hS19⟩ x20 hr1
 refine ye (yd nL4 ?_)
 refine WO.vs 0 [(8, Nv i15), (9, Sl a_r10 r10 c_r10), (10, Nv r10.length), (11, .bool (decide ((i15 : Int) < (r10.length : Int))))] (yb (yag (fun hc => ?_)))
 clear hc
 refine yg (En.next (ye (W.block (yd nL15 ?_))))
 refine WO.vs 0 [(14, Sl a_r10 r10 c_r10), (15, Nv i15)] ?_
 obtain ⟨x23, hx_x23, hr1⟩ := bsm hr1
 obtain ⟨h0_x23, h1_x23, hx_x23⟩ := idx_some hx_x23
 obtain ⟨ha_x23, cs_x23, hn_x23, hr_x23, hc_x23⟩ := ((RSl.mono h_r10 hl13)).el _ _ hx_x23
 obtain ⟨w_x23, rfl, h_x23⟩ := Q_qExpr_iff.1 hr_x23
 refine yq 39 7 ha_x23 h0_x23 h1_x23 ?_
 refine ya 3 17 (.pointer (some ⟨bl a_r10, of a_r10 + ((i15 : Int)).toNat * 7, none⟩)) (yae (v := (Iv x23.Kind)) hc_x23 hS19.rm ?_)
 refine WO.vs 5 [(19, .bool (x23.Kind == 3)), (20, .bool (x23.Kind == 3))] ?_
 obtain ⟨j24, hr2, hr1⟩ := bsm hr1
 refine WO.jw (l1 := [7, 8, 9, 10, 11, 12, 13, 14]) (J := (fun fr w => ∃ I26, fr = [(3, Sl a_r10 r10 c_r10), (4, Iv s14), (5, Nv i15), (28, .bool j24)] ∧ I12.Le I26 ∧ St E w I26 Os)) ?_ ?_
 refine WO.cb hr2 (fun hc hr2 => ?_) (fun hc hr2 => ?_)
 refine yj 20 hc (WO.vs 7 [(21, Sl a_r10 r10 c_r10), (22, Nv i15)] ?_)
 obtain ⟨x28, hx_x28, hr2⟩ := bsm hr2
 obtain ⟨h0_x28, h1_x28, hx_x28⟩ := idx_some hx_x28
 obtain ⟨ha_x28, cs_x28, hn_x28, hr_x28, hc_x28⟩ := ((RSl.mono h_r10 hl13)).el _ _ hx_x28
 obtain ⟨w_x28, rfl, h_x28⟩ := Q_qExpr_iff.1 hr_x28
 refine yq 39 7 ha_x28 h0_x28 h1_x28 ?_
 refine ya 10 24 (.pointer (some ⟨bl a_r10, of a_r10 + ((i15 : Int)).toNat * 7 + 1, none⟩)) (WO.le (v := (Iv x28.Op)) hc_x28 1 hS19.rm ?_)
 refine WO.vs 12 [(26, Iv s14), (27, .bool (decide (x28.Op > s14))), (28, .bool (decide (x28.Op > s14)))] ?_
 obtain rfl := sj hr2
 exact yv ⟨I12, rfl, lr, hS19⟩
 refine yj 20 hc ?_
 iterate 7 refine yt ?_
 refine ya 14 28 (.bool false) ?_
 obtain rfl := sj hr2
 exact yv ⟨I12, rfl, lr, hS19⟩
 rintro _ w29 ⟨I26, rfl, hl27, hS30⟩
 refine yb ?_
 obtain ⟨j31, hr2, hr1⟩ := bsm hr1
 refine W.jw (J := (fun fr w => ∃ I33, fr = [(3, Sl a_r10 r10 c_r10), (4, Iv j31), (5, Nv i15)] ∧ I26.Le I33 ∧ St E w I33 Os)) ?_ ?_
 refine W.cb hr2 (fun hc hr2 => ?_) (fun hc hr2 => ?_)
 refine yaa nL6 ?_
 refine WO.vs 0 [(29, Sl a_r10 r10 c_r10), (30, Nv i15)] ?_
 obtain ⟨x35, hx_x35, hr2⟩ := bsm hr2
 obtain ⟨h0_x35, h1_x35, hx_x35⟩ := idx_some hx_x35
 obtain ⟨ha_x35, cs_x35, hn_x35, hr_x35, hc_x35⟩ := ((RSl.mono h_r10 (hl13.trans hl27))).el _ _ hx_x35
 obtain ⟨w_x35, rfl, h_x35⟩ := Q_qExpr_iff.1 hr_x35
 refine yq 39 7 ha_x35 h0_x35 h1_x35 ?_
 refine ya 3 32 (.pointer (some ⟨bl a_r10, of a_r10 + ((i15 : Int)).toNat * 7 + 1, none⟩)) (WO.le (v := (Iv x35.Op)) hc_x35 1 hS30.rm ?_)
 refine ya 5 4 (Iv x35.Op) (WO.nil ?_)
 obtain rfl := sj hr2
 exact yo ⟨I26, rfl, lr, hS30⟩
 refine yg ?_
 obtain rfl := sj hr2
 exact yo ⟨I26, rfl, lr, hS30⟩
 rintro _ w36 ⟨I33, rfl, hl34, hS37⟩
 refine yi (En.next (yaa nL3 ?_))
 refine ya 0 12 (Nv i15) (y0 (j := i15) rfl (by kernel_rfl) rfl (by first | omega | (dsimp only at *; omega) | (simp only [List.length_cons, List.length_nil] at *; omega)) ?_)
 refine ya 2 5 (Iv ((i15 + 1 : Nat) : Int)) (WO.nil ?_)
 obtain rfl := sj hr1
 exact yo ⟨I33, rfl, ((hl13.trans hl27).trans hl34), hS37⟩
 rintro _ w38 ⟨I12, rfl, hl13, hS39⟩
 refine ye (yd nL4 ?_)
 refine WO.vs 0 [(8, Nv r10.length), (9, Sl a_r10 r10 c_r10), (10, Nv r10.length), (11, .bool (decide ((r10.length : Int) < (r10.length : Int))))] (yb (yah (fun hc => ?_)))
 clear hc
 refine yy (yk (yl (yn (En.next (yd nL2 ?_)))))
 refine WO.vs 0 [(34, Iv s14), (2, Iv s14)] (yb (W.ret ?_))
 obtain rfl := sj hr
 exact yr ⟨I12, rfl, (hl8.trans hl13), hS39⟩
def r10_SameList (f_117 : qExpr → qExpr → Option Bool) (p0 : List qExpr) (p1 : List qExpr) : Option Bool := (bif ((p0.length : Int) != (p1.length : Int)) then some false else (forN (fun (i4 : Nat) => fun (_s : Unit) => (idx p0 (i4 : Int)).bind (fun x13 => (idx p1 (i4 : Int)).bind (fun x14 => (f_117 x13 x14).bind (fun (r20 : Bool) => (bif (!r20) then some (.inr false) else some (.inl ())))))) p0.length 0 ()).bind (fun (t : Unit ⊕ (Bool)) => match t with | .inl _ => some true | .inr s22 => some s22))
theorem r10_SameList_ok {f_117 : qExpr → qExpr → Option Bool} {p0 : List qExpr} {p1 : List qExpr} {a_p0 : Option Addr} {c_p0 : Nat} {a_p1 : Option Addr} {c_p1 : Nat} (h_f_117 : ∀ {E w : World} {I : Mem} {Os : List Mem} {p0 : qExpr} {p1 : qExpr} {w_p0 : W_qExpr} {w_p1 : W_qExpr} (h_p0 : ok_qExpr I p0 w_p0) (h_p1 : ok_qExpr I p1 w_p1) (hS : St E w I Os) {r : Bool} (hr : f_117 p0 p1 = some r), Calls P 117 #[(.agg (cs_qExpr p0 w_p0).toArray), (.agg (cs_qExpr p1 w_p1).toArray)] w (fun e w' => ∃ I', e = .returned (.bool r) ∧ I.Le I' ∧ St E w' I' Os)) (h_p0 : RSl 7 Q_qExpr I a_p0 c_p0 p0) (h_p1 : RSl 7 Q_qExpr I a_p1 c_p1 p1) (hS : St E w I Os) {r : Bool} (hr : r10_SameList f_117 p0 p1 = some r) :
    Calls P 151 #[(Sl a_p0 p0 c_p0), (Sl a_p1 p1 c_p1)] w (fun e w' => ∃ I', e = .returned (.bool r) ∧ I.Le I' ∧ St E w' I' Os) := by
 refine calls_W (fn := Tryz.f151) rfl rfl rfl ?_
 unfold r10_SameList at hr
 refine yd [0] ?_
 refine ya 0 4 (.bool false) (yb (ye (yd nL5 ?_)))
 refine WO.vs 0 [(6, Sl a_p0 p0 c_p0), (7, Nv p0.length), (8, Sl a_p1 p1 c_p1), (9, Nv p1.length), (10, .bool ((p0.length : Int) != (p1.length : Int)))] (yb (W.cb hr (fun hc hr => ?_) (fun hc hr => ?_)))
 refine yd [0] ?_
 refine ya 0 4 (.bool false) (yb (W.ret (yc ?_)))
 obtain rfl := sj hr
 exact yr ⟨I, rfl, lr, hS⟩
 refine yg (En.next (ye (yd [0] ?_)))
 refine ya 0 5 (Iv 0) (yb (W.block ?_))
 obtain ⟨t1, hloop5, hr⟩ := bsm hr
 have hlt9 := (h_p0).len_lt
 refine W.wk (W.forN (m := p0.length) hloop5 (fun (i4 : Nat) => fun (_s : Unit) fr w => ∃ I2, fr = [(0, Sl a_p0 p0 c_p0), (1, Sl a_p1 p1 c_p1), (5, Nv i4)] ∧ I.Le I2 ∧ St E w I2 Os) ⟨I, rfl, lr, hS⟩ ?_ ?_)
 rintro i4 _ _ w6 hi10 ⟨I2, rfl, hl3, hS7⟩ x8 hr1 hext1
 refine ye (yd nL4 ?_)
 refine WO.vs 0 [(11, Nv i4), (12, Sl a_p0 p0 c_p0), (13, Nv p0.length), (14, .bool (decide ((i4 : Int) < (p0.length : Int))))] (yb (yag (fun hc => ?_)))
 clear hc
 refine yg (En.next (ye (W.block (ye ?_))))
 have hS11 := hS7.drew
 refine yao nL10 8 (KR.nil hS11.im) ?_
 generalize World.drew _ = w12 at *
 refine WO.vs 0 [(17, Sl a_p0 p0 c_p0), (18, Nv i4)] ?_
 obtain ⟨x13, hx_x13, hr1⟩ := bsm hr1
 obtain ⟨h0_x13, h1_x13, hx_x13⟩ := idx_some hx_x13
 obtain ⟨ha_x13, cs_x13, hn_x13, hr_x13, hc_x13⟩ := ((RSl.mono h_p0 hl3)).el _ _ hx_x13
 obtain ⟨w_x13, rfl, h_x13⟩ := Q_qExpr_iff.1 hr_x13
 refine yq 39 7 ha_x13 h0_x13 h1_x13 ?_
 refine yai ((cs_qExpr x13 w_x13)) hc_x13 0 (rd_i hS11.im) ?_
 refine WO.vs 4 [(21, Sl a_p1 p1 c_p1), (22, Nv i4)] ?_
 obtain ⟨x14, hx_x14, hr1⟩ := bsm hr1
 obtain ⟨h0_x14, h1_x14, hx_x14⟩ := idx_some hx_x14
 obtain ⟨ha_x14, cs_x14, hn_x14, hr_x14, hc_x14⟩ := ((RSl.mono h_p1 hl3)).el _ _ hx_x14
 obtain ⟨w_x14, rfl, h_x14⟩ := Q_qExpr_iff.1 hr_x14
 refine yq 39 7 ha_x14 h0_x14 h1_x14 ?_
 refine yai ((cs_qExpr x14 w_x14)) hc_x14 0 (rd_i hS11.im) ?_
 refine WO.tail rfl ?_
 obtain ⟨r20, hx_r15, hr1⟩ := bsm hr1
 refine y6 (h_f_117 h_x13 h_x14 hS11 hx_r15) ?_
 intro I17 w16 hl18 hS19
 refine ya 9 26 (.bool (!r20)) (yb (W.cb hr1 (fun hc hr1 => ?_) (fun hc hr1 => ?_)))
 refine yd [0] ?_
 refine ya 0 4 (.bool false) (yb (W.ret (yh (yc (ym ?_)))))
 obtain rfl := hext1 _ (sj hr1).symm
 refine yh (yc ?_)
 obtain rfl := sj hr
 exact yr ⟨I17, rfl, (hl3.trans hl18), hS19⟩
 refine yg (yi (En.next (yaa nL3 ?_)))
 refine ya 0 15 (Nv i4) (y0 (j := i4) rfl (by kernel_rfl) rfl (by first | omega | (dsimp only at *; omega) | (simp only [List.length_cons, List.length_nil] at *; omega)) ?_)
 exact ya 2 5 (Iv ((i4 + 1 : Nat) : Int)) (WO.nil (yo ⟨(), (sj hr1).symm, I17, rfl, (hl3.trans hl18), hS19⟩))
 rintro _ _ w23 ⟨I2, rfl, hl3, hS24⟩ he
 cases he
 refine ye (yd nL4 ?_)
 refine WO.vs 0 [(11, Nv p0.length), (12, Sl a_p0 p0 c_p0), (13, Nv p0.length), (14, .bool (decide ((p0.length : Int) < (p0.length : Int))))] (yb (yah (fun hc => ?_)))
 clear hc
 refine yy (yk (yl (yn (En.next (yd [0] ?_)))))
 refine ya 0 4 (.bool true) (yb (W.ret ?_))
 obtain rfl := sj hr
 exact yr ⟨I2, rfl, hl3, hS24⟩
def r10_Same_fu : Nat → qExpr → qExpr → Option Bool
  | 0, _, _ => none
  | fu + 1, p0, p1 => (some (((p0.Kind != p1.Kind) || (p0.Op != p1.Op)) || (!((p0.V.Kind == p1.V.Kind) && ((p0.V.N == p1.V.N) && sEq p0.V.S p1.V.S))))).bind (fun (q11 : Bool) => (bif (q11 || (!sEq p0.Name p1.Name)) then some false else (r10_SameList (r10_Same_fu fu) p0.Kids p1.Kids).bind (fun r23 => some r23)))
noncomputable def r10_Same (p0 : qExpr) (p1 : qExpr) : Option Bool := anyFuel (fun fu => r10_Same_fu fu p0 p1)
theorem r10_Same_fu_ok : ∀ (fu : Nat) {E w : World} {I : Mem} {Os : List Mem} {p0 : qExpr} {p1 : qExpr} {w_p0 : W_qExpr} {w_p1 : W_qExpr} (h_p0 : ok_qExpr I p0 w_p0) (h_p1 : ok_qExpr I p1 w_p1) (hS : St E w I Os) {r : Bool} (hr : r10_Same_fu fu p0 p1 = some r),
    Calls P 117 #[(.agg (cs_qExpr p0 w_p0).toArray), (.agg (cs_qExpr p1 w_p1).toArray)] w (fun e w' => ∃ I', e = .returned (.bool r) ∧ I.Le I' ∧ St E w' I' Os) := by
 intro fu
 induction fu with
 | zero => intro E w I Os p0 p1 w_p0 w_p1 h_p0 h_p1 hS r hr; cases hr
 | succ fu ih =>
 intro E w I Os p0 p1 w_p0 w_p1 h_p0 h_p1 hS r hr
 refine calls_W (fn := Tryz.f117) rfl rfl rfl ?_
 unfold r10_Same_fu at hr
 refine yd nL3 ?_
 refine yx hS (cs_qExpr p0 w_p0) 39 ?_
 intro b1 w4 hS3
 refine yx hS3 (cs_qExpr p1 w_p1) 39 ?_
 intro b5 w8 hS7
 refine ya 2 4 (.bool false) (yb (ye (yd nL26 ?_)))
 refine ya 0 5 (Pt b1 0) (yf (v := (Iv p0.Kind)) (hS7.rf m1) ?_)
 refine ya 2 7 (Pt b5 0) (yf (v := (Iv p1.Kind)) (hS7.rf m0) ?_)
 refine WO.vs 4 [(9, .bool (p0.Kind != p1.Kind)), (10, .bool (p0.Kind != p1.Kind))] (yac (l1 := [6, 7, 8, 9, 10, 11]) 16 ((p0.Kind != p1.Kind) || (p0.Op != p1.Op)) ?_ ?_)
 refine yp (p0.Kind != p1.Kind) (fun hc => ?_) (fun hc => ?_)
 refine yj 10 hc ?_
 iterate 5 refine yt ?_
 exact ya 11 16 (.bool true) (WO.mk 10 hc (by rw [hc]; rfl))
 refine yj 10 hc (ya 6 11 (Pt b1 1) (yf (v := (Iv p0.Op)) (hS7.rf m1) ?_))
 refine ya 8 13 (Pt b5 1) (yf (v := (Iv p1.Op)) (hS7.rf m0) ?_)
 exact WO.vs 10 [(15, .bool (p0.Op != p1.Op)), (16, .bool (p0.Op != p1.Op))] (WO.mk 10 hc (by rw [hc]; rfl))
 refine ya 12 17 (.bool ((p0.Kind != p1.Kind) || (p0.Op != p1.Op))) ?_
 obtain ⟨q11, hx_q11, hr⟩ := bsm hr
 replace hx_q11 := sj hx_q11
 refine yac (l1 := [13, 14, 15, 16, 17, 18]) 23 q11 ?_ ?_
 refine yp ((p0.Kind != p1.Kind) || (p0.Op != p1.Op)) (fun hc => ?_) (fun hc => ?_)
 refine yj 17 hc ?_
 iterate 5 refine yt ?_
 exact ya 18 23 (.bool true) (WO.mk 17 hc (by rw [← hx_q11, hc]; rfl))
 refine yj 17 hc (ya 13 18 (Pt b1 2) (yu ((cs_qValue p0.V)) (hS7.rf m1) ?_))
 refine ya 15 20 (Pt b5 2) (yu ((cs_qValue p1.V)) (hS7.rf m0) ?_)
 refine ya2 rfl (by kernel_rfl) rfl rfl (by kernel_rfl) 50 rfl (b := ((p0.V.Kind == p1.V.Kind) && ((p0.V.N == p1.V.N) && (sEq p0.V.S p1.V.S && true)))) (by kernel_rfl) (!((p0.V.Kind == p1.V.Kind) && ((p0.V.N == p1.V.N) && sEq p0.V.S p1.V.S))) (.inr ⟨rfl, by simp only [Bool.and_true]⟩) ?_
 exact ya 18 23 (.bool (!((p0.V.Kind == p1.V.Kind) && ((p0.V.N == p1.V.N) && sEq p0.V.S p1.V.S)))) (WO.mk 17 hc (by rw [← hx_q11, hc]; rfl))
 refine ya 19 24 (.bool q11) (yac (l1 := [20, 21, 22, 23, 24, 25]) 30 (q11 || (!sEq p0.Name p1.Name)) ?_ ?_)
 refine yp q11 (fun hc => ?_) (fun hc => ?_)
 refine yj 24 hc ?_
 iterate 5 refine yt ?_
 exact ya 25 30 (.bool true) (WO.mk 24 hc (by rw [hc]; rfl))
 refine yj 24 hc (ya 20 25 (Pt b1 5) (yf (v := (.string p0.Name)) (hS7.rf m1) ?_))
 refine ya 22 27 (Pt b5 5) (yf (v := (.string p1.Name)) (hS7.rf m0) ?_)
 exact WO.vs 24 [(29, .bool (!sEq p0.Name p1.Name)), (30, .bool (!sEq p0.Name p1.Name))] (WO.mk 24 hc (by rw [hc]; rfl))
 refine yb (W.cb hr (fun hc hr => ?_) (fun hc hr => ?_))
 refine yd [0] ?_
 refine ya 0 4 (.bool false) (yb (W.ret (yc ?_)))
 obtain rfl := sj hr
 exact yr ⟨I, rfl, lr, hS7.drop.drop⟩
 refine yg (En.next (yd nL6 ?_))
 refine ya 0 31 (Pt b1 6) (yf (v := (Sl w_p0.Kids.a p0.Kids w_p0.Kids.c)) (hS7.rf m1) ?_)
 refine ya 2 33 (Pt b5 6) (yf (v := (Sl w_p1.Kids.a p1.Kids w_p1.Kids.c)) (hS7.rf m0) ?_)
 obtain ⟨r23, hx_r18, hr⟩ := bsm hr
 refine y6 (r10_SameList_ok ih h_p0.Kids h_p1.Kids hS7 hx_r18) ?_
 intro I20 w19 hl21 hS22
 refine ya 5 4 (.bool r23) (yb (W.ret ?_))
 obtain rfl := sj hr
 exact yr ⟨I20, rfl, hl21, hS22.drop.drop⟩
theorem r10_Same_ok {p0 : qExpr} {p1 : qExpr} {w_p0 : W_qExpr} {w_p1 : W_qExpr} (h_p0 : ok_qExpr I p0 w_p0) (h_p1 : ok_qExpr I p1 w_p1) (hS : St E w I Os) {r : Bool} (hr : r10_Same p0 p1 = some r) :
    Calls P 117 #[(.agg (cs_qExpr p0 w_p0).toArray), (.agg (cs_qExpr p1 w_p1).toArray)] w (fun e w' => ∃ I', e = .returned (.bool r) ∧ I.Le I' ∧ St E w' I' Os) := by
 obtain ⟨fu, hf⟩ := anyFuel_some hr
 exact r10_Same_fu_ok fu h_p0 h_p1 hS hf
noncomputable def r12_None (p0 : qExpr) : Option Bool := (r10_Same p0 z_qExpr).bind (fun r10 => some r10)
theorem r12_None_ok {p0 : qExpr} {w_p0 : W_qExpr} (h_p0 : ok_qExpr I p0 w_p0) (hS : St E w I Os) {r : Bool} (hr : r12_None p0 = some r) :
    Calls P 128 #[(.agg (cs_qExpr p0 w_p0).toArray)] w (fun e w' => ∃ I', e = .returned (.bool r) ∧ I.Le I' ∧ St E w' I' Os) := by
 refine calls_W (fn := Tryz.f128) rfl rfl rfl ?_
 unfold r12_None at hr
 refine yd nL2 ?_
 refine yx hS (cs_qExpr p0 w_p0) 39 ?_
 intro b1 w4 hS3
 refine ya 1 2 (.bool false) (yz nL4 ?_)
 refine yu ((cs_qExpr p0 w_p0)) (hS3.rf m0) ?_
 refine ya 1 4 (.agg (cs_qExpr z_qExpr zw_qExpr).toArray) ?_
 obtain ⟨r10, hx_r5, hr⟩ := bsm hr
 refine y6 (r10_Same_ok h_p0 zok_qExpr hS3 hx_r5) ?_
 intro I7 w6 hl8 hS9
 refine ya 3 2 (.bool r10) (yb (W.ret ?_))
 obtain rfl := sj hr
 exact yr ⟨I7, rfl, hl8, hS9.drop⟩
noncomputable def r14_Check (p0 : qTable) : Option Int := (r14_wrong p0).bind (fun r10 => (bif (r10 != 0) then some r10 else (r14_Names p0).bind (fun (r17, r18) => (r14_Used p0).bind (fun r24 => (forN (fun (i28 : Nat) => fun (_s : Unit) => (idx r24 (i28 : Int)).bind (fun x35 => (r14_Has r17 x35).bind (fun r41 => (bif (!r41) then some (.inr (4 : Int)) else some (.inl ()))))) r24.length 0 ()).bind (fun (t : Unit ⊕ (Int)) => match t with | .inl _ => (forN (fun (i52 : Nat) => fun (s51 : Bool) => ((idx p0.Cons (i52 : Int)).bind (fun x63 => (bif (x63.Kind != 2) then some (.inl s51) else (idx p0.Cons (i52 : Int)).bind (fun x65 => (r10_Check x65.Check false).bind (fun r71 => (bif (r71 == 17) then some (.inr 17) else ((bif (s51 || (r71 != 0)) then some true else (idx p0.Cons (i52 : Int)).bind (fun x85 => (r10_Params x85.Check).bind (fun r91 => some (decide (r91 > 0)))))).bind (fun (j81 : Bool) => some (.inl j81)))))))).bind (fun (t : Bool ⊕ Int) => match t with | (.inl s64) => some (.inl s64) | (.inr s73) => some (.inr s73))) p0.Cons.length 0 false).bind (fun (t : Bool ⊕ (Int)) => match t with | .inl s51 => (bif s51 then some 2 else (forN (fun (i102 : Nat) => fun (_s : Unit) => (idx p0.Cons (i102 : Int)).bind (fun x109 => ((bif (x109.Kind != 2) then (r12_None x109.Check).bind (fun r125 => some (!r125)) else some false)).bind (fun (j116 : Bool) => (some (j116 || ((x109.Kind == 2) && (decide ((x109.Cols.length : Int) > 0))))).bind (fun (q132 : Bool) => (bif q132 then some (.inr (2 : Int)) else ((bif (x109.Kind == 3) then (r09_IsName x109.Table).bind (fun r151 => (some ((!r151) || ((x109.Refs.length : Int) != (x109.Cols.length : Int)))).bind (fun (q152 : Bool) => some q152)) else some false)).bind (fun (j142 : Bool) => (some (j142 || ((x109.Kind != 3) && ((!sEq x109.Table (⟨#[]⟩ : ByteArray)) || (decide ((x109.Refs.length : Int) > 0)))))).bind (fun (q163 : Bool) => (bif q163 then some (.inr (2 : Int)) else some (.inl ()))))))))) p0.Cons.length 0 ()).bind (fun (t : Unit ⊕ (Int)) => match t with | .inl _ => some 0 | .inr s138 => some s138)) | .inr s75 => some s75) | .inr s43 => some s43)))))
theorem r14_Check_ok {p0 : qTable} {w_p0 : W_qTable} (h_p0 : ok_qTable I p0 w_p0) (hS : St E w I Os) {r : Int} (hr : r14_Check p0 = some r) :
    Calls P 90 #[(.agg (cs_qTable p0 w_p0).toArray)] w (fun e w' => ∃ I', e = .returned (Iv r) ∧ I.Le I' ∧ St E w' I' Os) := by
 refine calls_W (fn := Tryz.f90) rfl rfl rfl ?_
 unfold r14_Check at hr
 refine yd nL2 ?_
 refine yx hS (cs_qTable p0 w_p0) 89 ?_
 intro b1 w4 hS3
 refine ya 1 2 (Iv 0) (yz nL3 ?_)
 refine yu ((cs_qTable p0 w_p0)) (hS3.rf m0) ?_
 obtain ⟨r10, hx_r5, hr⟩ := bsm hr
 refine y6 (r14_wrong_ok h_p0 hS3 hx_r5) ?_
 intro I7 w6 hl8 hS9
 refine ya 2 3 (Iv r10) (yb (ye (yd nL2 ?_)))
 refine WO.vs 0 [(15, Iv r10), (16, .bool (r10 != 0))] (yb (W.cb hr (fun hc hr => ?_) (fun hc hr => ?_)))
 refine yd nL2 ?_
 refine WO.vs 0 [(17, Iv r10), (2, Iv r10)] (yb (W.ret (yc ?_)))
 obtain rfl := sj hr
 exact yr ⟨I7, rfl, hl8, hS9.drop⟩
 refine yg (En.next (yd nL7 ?_))
 refine yu ((cs_qTable p0 w_p0)) (hS9.rf m0) ?_
 obtain ⟨⟨r17, r18⟩, hx_r12, hr⟩ := bsm hr
 refine y8 (r14_Names_ok (h_p0.mono hl8) hS9 hx_r12) ?_
 rintro _ w13 ⟨I14, a_r17, c_r17, a_r18, c_r18, rfl, hl15, hS16, h_r17, h_r18⟩
 refine ⟨_, rfl, trivial, ?_⟩
 refine WO.vs 2 [(18, .tuple #[(Sl a_r17 r17 c_r17), (Sl a_r18 r18 c_r18)]), (21, Sl a_r17 r17 c_r17), (22, Sl a_r18 r18 c_r18), (4, Sl a_r17 r17 c_r17), (5, Sl a_r18 r18 c_r18)] (yz nL3 ?_)
 refine yu ((cs_qTable p0 w_p0)) (hS16.rf m0) ?_
 obtain ⟨r24, hx_r19, hr⟩ := bsm hr
 refine y8 (r14_Used_ok (h_p0.mono (hl8.trans hl15)) hS16 hx_r19) ?_
 rintro _ w20 ⟨I21, a_r24, c_r24, rfl, hl22, hS23, h_r24⟩
 refine ⟨_, rfl, trivial, ?_⟩
 refine ya 2 6 (Sl a_r24 r24 c_r24) (yb (ye (yd [0] ?_)))
 refine ya 0 7 (Iv 0) (yb (W.block ?_))
 obtain ⟨t25, hloop29, hr⟩ := bsm hr
 have hlt33 := (h_r24).len_lt
 refine W.wk (W.forN (m := r24.length) hloop29 (fun (i28 : Nat) => fun (_s : Unit) fr w => ∃ I26, fr = [(1, Pt b1 0), (4, Sl a_r17 r17 c_r17), (6, Sl a_r24 r24 c_r24), (7, Nv i28)] ∧ I21.Le I26 ∧ St E w I26 ((Bx b1 (cs_qTable p0 w_p0) 89) :: Os)) ⟨I21, rfl, lr, hS23⟩ ?_ ?_)
 rintro i28 _ _ w30 hi34 ⟨I26, rfl, hl27, hS31⟩ x32 hr1 hext25
 refine ye (yd nL4 ?_)
 refine WO.vs 0 [(25, Nv i28), (26, Sl a_r24 r24 c_r24), (27, Nv r24.length), (28, .bool (decide ((i28 : Int) < (r24.length : Int))))] (yb (yag (fun hc => ?_)))
 clear hc
 refine yg (En.next (ye (W.block (yd nL7 ?_))))
 refine WO.vs 0 [(31, Sl a_r17 r17 c_r17), (32, Sl a_r24 r24 c_r24), (33, Nv i28)] ?_
 obtain ⟨x35, hr1, h0_x35, h1_x35, hx_x35, ha_x35, _, _, rfl, hc_x35⟩ := sl_at ((RSl.mono h_r24 hl27)) hr1
 refine yq 9 1 ha_x35 h0_x35 h1_x35 ?_
 refine yae (v := (.string x35)) hc_x35 hS31.rm ?_
 obtain ⟨r41, hx_r36, hr1⟩ := bsm hr1
 refine y6 (r14_Has_ok (RSl.mono h_r17 (hl22.trans hl27)) hS31 hx_r36) ?_
 intro I38 w37 hl39 hS40
 refine ya 6 37 (.bool (!r41)) (yb (W.cb hr1 (fun hc hr1 => ?_) (fun hc hr1 => ?_)))
 refine yd [0] ?_
 refine ya 0 2 (Iv 4) (yb (W.ret (yh (yc (ym ?_)))))
 obtain rfl := hext25 _ (sj hr1).symm
 refine yh (yc ?_)
 obtain rfl := sj hr
 exact yr ⟨I38, rfl, ((((hl8.trans hl15).trans hl22).trans hl27).trans hl39), hS40.drop⟩
 refine yg (yi (En.next (yaa nL3 ?_)))
 refine ya 0 29 (Nv i28) (y0 (j := i28) rfl (by kernel_rfl) rfl (by first | omega | (dsimp only at *; omega) | (simp only [List.length_cons, List.length_nil] at *; omega)) ?_)
 exact ya 2 7 (Iv ((i28 + 1 : Nat) : Int)) (WO.nil (yo ⟨(), (sj hr1).symm, I38, rfl, (hl27.trans hl39), hS40⟩))
 rintro _ _ w46 ⟨I26, rfl, hl27, hS47⟩ he
 cases he
 refine ye (yd nL4 ?_)
 refine WO.vs 0 [(25, Nv r24.length), (26, Sl a_r24 r24 c_r24), (27, Nv r24.length), (28, .bool (decide ((r24.length : Int) < (r24.length : Int))))] (yb (yah (fun hc => ?_)))
 clear hc
 refine yy (yk (yl (yn (En.next (yd [0] ?_)))))
 refine ya 0 8 (.bool false) (yb (ye (yd [0] ?_)))
 refine ya 0 9 (Iv 0) (yb (W.block ?_))
 obtain ⟨t48, hloop53, hr⟩ := bsm hr
 have hlt57 := ((RSl.mono h_p0.Cons (((hl8.trans hl15).trans hl22).trans hl27))).len_lt
 refine W.wk (W.forN (m := p0.Cons.length) hloop53 (fun (i52 : Nat) => fun (s51 : Bool) fr w => ∃ I49, fr = [(1, Pt b1 0), (8, .bool s51), (9, Nv i52)] ∧ I26.Le I49 ∧ St E w I49 ((Bx b1 (cs_qTable p0 w_p0) 89) :: Os)) ⟨I26, rfl, lr, hS47⟩ ?_ ?_)
 rintro i52 s51 _ w54 hi58 ⟨I49, rfl, hl50, hS55⟩ x56 hr1 hext48
 refine ye (yd nL5 ?_)
 refine WO.vs 0 [(38, Nv i52), (39, Pt b1 4)] (yf (v := (Sl w_p0.Cons.a p0.Cons w_p0.Cons.c)) (hS55.rf m0) ?_)
 refine WO.vs 3 [(41, Nv p0.Cons.length), (42, .bool (decide ((i52 : Int) < (p0.Cons.length : Int))))] (yb (yag (fun hc => ?_)))
 clear hc
 refine yg (En.next (ye ?_))
 obtain ⟨j59, hr2, hr1⟩ := bsm hr1
 refine W.jw (J := (fun fr w => ∃ (s64 : Bool), ∃ I61, (.inl s64) = j59 ∧ fr = [(1, Pt b1 0), (8, .bool s64), (9, Nv i52)] ∧ I49.Le I61 ∧ St E w I61 ((Bx b1 (cs_qTable p0 w_p0) 89) :: Os))) ?_ ?_
 refine W.block (ye (yd nL7 ?_))
 refine ya 0 45 (Pt b1 4) (yf (v := (Sl w_p0.Cons.a p0.Cons w_p0.Cons.c)) (hS55.rf m0) ?_)
 refine ya 2 47 (Nv i52) ?_
 obtain ⟨x63, hr2, h0_x63, h1_x63, hx_x63, ha_x63, _, _, ⟨w_x63, rfl, h_x63⟩, hc_x63⟩ := sl_at ((RSl.mono h_p0.Cons ((((hl8.trans hl15).trans hl22).trans hl27).trans hl50))) hr2
 refine yq 100 12 ha_x63 h0_x63 h1_x63 ?_
 refine ya 4 49 (.pointer (some ⟨bl w_p0.Cons.a, of w_p0.Cons.a + ((i52 : Int)).toNat * 12 + 1, none⟩)) (WO.le (v := (Iv x63.Kind)) hc_x63 1 hS55.rm ?_)
 refine ya 6 51 (.bool (x63.Kind != 2)) (yb (W.cb hr2 (fun hc hr2 => ?_) (fun hc hr2 => ?_)))
 exact yy (yk (yn (yo ⟨s51, I49, sj hr2, rfl, lr, hS55⟩)))
 refine yg (En.next (yd nL8 ?_))
 refine ya 0 52 (Pt b1 4) (yf (v := (Sl w_p0.Cons.a p0.Cons w_p0.Cons.c)) (hS55.rf m0) ?_)
 refine ya 2 54 (Nv i52) ?_
 obtain ⟨x65, hr2, h0_x65, h1_x65, hx_x65, ha_x65, _, _, ⟨w_x65, rfl, h_x65⟩, hc_x65⟩ := sl_at ((RSl.mono h_p0.Cons ((((hl8.trans hl15).trans hl22).trans hl27).trans hl50))) hr2
 refine yq 100 12 ha_x65 h0_x65 h1_x65 ?_
 refine ya 4 56 (.pointer (some ⟨bl w_p0.Cons.a, of w_p0.Cons.a + ((i52 : Int)).toNat * 12 + 3, none⟩)) (yai ((cs_qExpr x65.Check w_x65.Check)) hc_x65 3 hS55.rm ?_)
 obtain ⟨r71, hx_r66, hr2⟩ := bsm hr2
 refine y6 (r10_Check_ok h_x65.Check hS55 hx_r66) ?_
 intro I68 w67 hl69 hS70
 refine ya 7 10 (Iv r71) (yb (ye (yd nL2 ?_)))
 refine WO.vs 0 [(59, Iv r71), (60, .bool (r71 == 17))] (yb (W.cb hr2 (fun hc hr2 => ?_) (fun hc hr2 => ?_)))
 refine yd [0] ?_
 refine ya 0 2 (Iv 17) (yb (W.ret (yc (yh (ym ?_)))))
 obtain rfl := sj hr2
 refine yc (ym ?_)
 obtain rfl := hext48 _ (sj hr1).symm
 refine yh (yc ?_)
 obtain rfl := sj hr
 exact yr ⟨I68, rfl, (((((hl8.trans hl15).trans hl22).trans hl27).trans hl50).trans hl69), hS70.drop⟩
 refine yg (En.next (yaa nL16 ?_))
 refine WO.vs 0 [(61, .bool s51), (62, .bool s51)] (yac (l1 := [2, 3, 4]) 65 (s51 || (r71 != 0)) ?_ ?_)
 refine yp s51 (fun hc => ?_) (fun hc => ?_)
 refine yj 62 hc ?_
 iterate 2 refine yt ?_
 exact ya 4 65 (.bool true) (WO.mk 62 hc (by rw [hc]; rfl))
 exact yj 62 hc (WO.vs 2 [(63, Iv r71), (64, .bool (r71 != 0)), (65, .bool (r71 != 0))] (WO.mk 62 hc (by rw [hc]; rfl)))
 refine ya 5 66 (.bool (s51 || (r71 != 0))) ?_
 obtain ⟨j81, hr3, hr2⟩ := bsm hr2
 refine WO.jw (l1 := [6, 7, 8, 9, 10, 11, 12, 13, 14]) (J := (fun fr w => ∃ I83, fr = [(1, Pt b1 0), (9, Nv i52), (75, .bool j81)] ∧ I68.Le I83 ∧ St E w I83 ((Bx b1 (cs_qTable p0 w_p0) 89) :: Os))) ?_ ?_
 refine WO.cb hr3 (fun hc hr3 => ?_) (fun hc hr3 => ?_)
 refine yj 66 hc ?_
 iterate 8 refine yt ?_
 refine ya 14 75 (.bool true) ?_
 obtain rfl := sj hr3
 exact yv ⟨I68, rfl, lr, hS70⟩
 refine yj 66 hc (ya 6 67 (Pt b1 4) (yf (v := (Sl w_p0.Cons.a p0.Cons w_p0.Cons.c)) (hS70.rf m0) ?_))
 refine ya 8 69 (Nv i52) ?_
 obtain ⟨x85, hr3, h0_x85, h1_x85, hx_x85, ha_x85, _, _, ⟨w_x85, rfl, h_x85⟩, hc_x85⟩ := sl_at ((RSl.mono h_p0.Cons (((((hl8.trans hl15).trans hl22).trans hl27).trans hl50).trans hl69))) hr3
 refine yq 100 12 ha_x85 h0_x85 h1_x85 ?_
 refine ya 10 71 (.pointer (some ⟨bl w_p0.Cons.a, of w_p0.Cons.a + ((i52 : Int)).toNat * 12 + 3, none⟩)) (yai ((cs_qExpr x85.Check w_x85.Check)) hc_x85 3 hS70.rm ?_)
 obtain ⟨r91, hx_r86, hr3⟩ := bsm hr3
 refine y6 (r10_Params_ok h_x85.Check hS70 hx_r86) ?_
 intro I88 w87 hl89 hS90
 refine WO.vs 13 [(74, .bool (decide (r91 > 0))), (75, .bool (decide (r91 > 0)))] ?_
 obtain rfl := sj hr3
 exact yv ⟨I88, rfl, hl89, hS90⟩
 rintro _ w92 ⟨I83, rfl, hl84, hS93⟩
 exact ya 15 8 (.bool j81) (WO.nil (yi (yo ⟨j81, I83, sj hr2, rfl, (hl69.trans hl84), hS93⟩)))
 rintro _ w94 ⟨s64, I61, rfl, rfl, hl62, hS95⟩
 refine En.next (yaa nL3 ?_)
 refine ya 0 43 (Nv i52) (y0 (j := i52) rfl (by kernel_rfl) rfl (by first | omega | (dsimp only at *; omega) | (simp only [List.length_cons, List.length_nil] at *; omega)) ?_)
 exact ya 2 9 (Iv ((i52 + 1 : Nat) : Int)) (WO.nil (yo ⟨s64, (sj hr1).symm, I61, rfl, (hl50.trans hl62), hS95⟩))
 rintro s51 _ w96 ⟨I49, rfl, hl50, hS97⟩ he
 cases he
 refine ye (yd nL5 ?_)
 refine WO.vs 0 [(38, Nv p0.Cons.length), (39, Pt b1 4)] (yf (v := (Sl w_p0.Cons.a p0.Cons w_p0.Cons.c)) (hS97.rf m0) ?_)
 refine WO.vs 3 [(41, Nv p0.Cons.length), (42, .bool (decide ((p0.Cons.length : Int) < (p0.Cons.length : Int))))] (yb (yah (fun hc => ?_)))
 clear hc
 refine yy (yk (yl (yn (En.next (ye (yd [0] ?_))))))
 refine ya 0 76 (.bool s51) (yb (W.cb hr (fun hc hr => ?_) (fun hc hr => ?_)))
 refine yd [0] ?_
 refine ya 0 2 (Iv 2) (yb (W.ret (yc ?_)))
 obtain rfl := sj hr
 exact yr ⟨I49, rfl, ((((hl8.trans hl15).trans hl22).trans hl27).trans hl50), hS97.drop⟩
 refine yg (En.next (ye (yd [0] ?_)))
 refine ya 0 11 (Iv 0) (yb (W.block ?_))
 obtain ⟨t99, hloop103, hr⟩ := bsm hr
 have hlt107 := ((RSl.mono h_p0.Cons ((((hl8.trans hl15).trans hl22).trans hl27).trans hl50))).len_lt
 refine W.wk (W.forN (m := p0.Cons.length) hloop103 (fun (i102 : Nat) => fun (_s : Unit) fr w => ∃ I100, fr = [(1, Pt b1 0), (11, Nv i102)] ∧ I49.Le I100 ∧ St E w I100 ((Bx b1 (cs_qTable p0 w_p0) 89) :: Os)) ⟨I49, rfl, lr, hS97⟩ ?_ ?_)
 rintro i102 _ _ w104 hi108 ⟨I100, rfl, hl101, hS105⟩ x106 hr1 hext99
 refine ye (yd nL5 ?_)
 refine WO.vs 0 [(77, Nv i102), (78, Pt b1 4)] (yf (v := (Sl w_p0.Cons.a p0.Cons w_p0.Cons.c)) (hS105.rf m0) ?_)
 refine WO.vs 3 [(80, Nv p0.Cons.length), (81, .bool (decide ((i102 : Int) < (p0.Cons.length : Int))))] (yb (yag (fun hc => ?_)))
 clear hc
 refine yg (En.next (ye (W.block (yd nL7 ?_))))
 refine ya 0 84 (Pt b1 4) (yf (v := (Sl w_p0.Cons.a p0.Cons w_p0.Cons.c)) (hS105.rf m0) ?_)
 refine ya 2 86 (Nv i102) ?_
 obtain ⟨x109, hr1, h0_x109, h1_x109, hx_x109, ha_x109, _, _, ⟨w_x109, rfl, h_x109⟩, hc_x109⟩ := sl_at ((RSl.mono h_p0.Cons (((((hl8.trans hl15).trans hl22).trans hl27).trans hl50).trans hl101))) hr1
 refine yq 100 12 ha_x109 h0_x109 h1_x109 ?_
 refine yai ((cs_qCons x109 w_x109)) hc_x109 0 hS105.rm ?_
 refine yx hS105 (cs_qCons z_qCons zw_qCons) 100 ?_
 intro b110 w113 hS112
 refine yw hS112 0 (cs_qCons x109 w_x109) ?_
 intro w115 hS114
 refine yb (ye (yd nL20 ?_))
 refine ya 0 89 (Pt b110 1) (yf (v := (Iv x109.Kind)) (hS114.rf m0) ?_)
 refine WO.vs 2 [(91, .bool (x109.Kind != 2)), (92, .bool (x109.Kind != 2))] ?_
 obtain ⟨j116, hr2, hr1⟩ := bsm hr1
 refine WO.jw (l1 := [4, 5, 6, 7, 8]) (J := (fun fr w => ∃ I118, fr = [(1, Pt b1 0), (11, Nv i102), (12, Pt b110 0), (97, .bool j116)] ∧ I100.Le I118 ∧ St E w I118 ((Bx b1 (cs_qTable p0 w_p0) 89) :: (Bx b110 (cs_qCons x109 w_x109) 100) :: Os))) ?_ ?_
 refine WO.cb hr2 (fun hc hr2 => ?_) (fun hc hr2 => ?_)
 refine yj 92 hc (ya 4 93 (Pt b110 3) (yu ((cs_qExpr x109.Check w_x109.Check)) (hS114.rf m0) ?_))
 obtain ⟨r125, hx_r120, hr2⟩ := bsm hr2
 refine y6 (r12_None_ok h_x109.Check hS114 hx_r120) ?_
 intro I122 w121 hl123 hS124
 refine WO.vs 7 [(96, .bool (!r125)), (97, .bool (!r125))] ?_
 obtain rfl := sj hr2
 exact yv ⟨I122, rfl, hl123, hS124.front1⟩
 refine yj 92 hc ?_
 iterate 4 refine yt ?_
 refine ya 8 97 (.bool false) ?_
 obtain rfl := sj hr2
 exact yv ⟨I100, rfl, lr, hS114.front1⟩
 rintro _ w128 ⟨I118, rfl, hl119, hS129⟩
 refine ya 9 98 (.bool j116) ?_
 obtain ⟨q132, hx_q132, hr1⟩ := bsm hr1
 replace hx_q132 := sj hx_q132
 refine yac (l1 := [10, 11, 12, 13, 14, 15, 16, 17, 18, 19]) 108 q132 ?_ ?_
 refine yp j116 (fun hc => ?_) (fun hc => ?_)
 refine yj 98 hc ?_
 iterate 9 refine yt ?_
 exact ya 19 108 (.bool true) (WO.mk 98 hc (by rw [← hx_q132, hc]; rfl))
 refine yj 98 hc (ya 10 99 (Pt b110 1) (yf (v := (Iv x109.Kind)) (hS129.rf m1) ?_))
 refine WO.vs 12 [(101, .bool (x109.Kind == 2)), (102, .bool (x109.Kind == 2))] (yac (l1 := [14, 15, 16, 17, 18]) 107 ((x109.Kind == 2) && (decide ((x109.Cols.length : Int) > 0))) ?_ ?_)
 refine yp (x109.Kind == 2) (fun hc => ?_) (fun hc => ?_)
 refine yj 102 hc (ya 14 103 (Pt b110 2) (yf (v := (Sl w_x109.Cols.a x109.Cols w_x109.Cols.c)) (hS129.rf m1) ?_))
 exact WO.vs 16 [(105, Nv x109.Cols.length), (106, .bool (decide ((x109.Cols.length : Int) > 0))), (107, .bool (decide ((x109.Cols.length : Int) > 0)))] (WO.mk 102 hc (by rw [hc]; rfl))
 refine yj 102 hc ?_
 iterate 4 refine yt ?_
 exact ya 18 107 (.bool false) (WO.mk 102 hc (by rw [hc]; rfl))
 exact ya 19 108 (.bool ((x109.Kind == 2) && (decide ((x109.Cols.length : Int) > 0)))) (WO.mk 98 hc (by rw [← hx_q132, hc]; rfl))
 refine yb (W.cb hr1 (fun hc hr1 => ?_) (fun hc hr1 => ?_))
 refine yd [0] ?_
 refine ya 0 2 (Iv 2) (yb (W.ret (yc (yh (yc (ym ?_))))))
 obtain rfl := hext99 _ (sj hr1).symm
 refine yh (yc ?_)
 obtain rfl := sj hr
 exact yr ⟨I118, rfl, ((((((hl8.trans hl15).trans hl22).trans hl27).trans hl50).trans hl101).trans hl119), hS129.drop.drop⟩
 refine yg (En.next (yd nL34 ?_))
 refine ya 0 109 (Pt b110 1) (yf (v := (Iv x109.Kind)) (hS129.rf m1) ?_)
 refine WO.vs 2 [(111, .bool (x109.Kind == 3)), (112, .bool (x109.Kind == 3))] ?_
 obtain ⟨j142, hr2, hr1⟩ := bsm hr1
 refine WO.jw (l1 := [4, 5, 6, 7, 8, 9, 10, 11, 12, 13, 14, 15, 16, 17]) (J := (fun fr w => ∃ I144, fr = [(1, Pt b1 0), (11, Nv i102), (12, Pt b110 0), (126, .bool j142)] ∧ I118.Le I144 ∧ St E w I144 ((Bx b1 (cs_qTable p0 w_p0) 89) :: (Bx b110 (cs_qCons x109 w_x109) 100) :: Os))) ?_ ?_
 refine WO.cb hr2 (fun hc hr2 => ?_) (fun hc hr2 => ?_)
 refine yj 112 hc (ya 4 113 (Pt b110 10) (yf (v := (.string x109.Table)) (hS129.rf m1) ?_))
 obtain ⟨r151, hx_r146, hr2⟩ := bsm hr2
 refine y6 (r09_IsName_ok  hS129 hx_r146) ?_
 intro I148 w147 hl149 hS150
 refine WO.vs 7 [(116, .bool (!r151)), (117, .bool (!r151))] ?_
 obtain ⟨q152, hx_q152, hr2⟩ := bsm hr2
 replace hx_q152 := sj hx_q152
 refine yac (l1 := [9, 10, 11, 12, 13, 14, 15, 16]) 125 q152 ?_ ?_
 refine yp (!r151) (fun hc => ?_) (fun hc => ?_)
 refine yj 117 hc ?_
 iterate 7 refine yt ?_
 exact ya 16 125 (.bool true) (WO.mk 117 hc (by rw [← hx_q152, hc]; rfl))
 refine yj 117 hc (ya 9 118 (Pt b110 11) (yf (v := (Sl w_x109.Refs.a x109.Refs w_x109.Refs.c)) (hS150.rf m1) ?_))
 refine WO.vs 11 [(120, Nv x109.Refs.length), (121, Pt b110 2)] (yf (v := (Sl w_x109.Cols.a x109.Cols w_x109.Cols.c)) (hS150.rf m1) ?_)
 exact WO.vs 14 [(123, Nv x109.Cols.length), (124, .bool ((x109.Refs.length : Int) != (x109.Cols.length : Int))), (125, .bool ((x109.Refs.length : Int) != (x109.Cols.length : Int)))] (WO.mk 117 hc (by rw [← hx_q152, hc]; rfl))
 refine ya 17 126 (.bool q152) ?_
 obtain rfl := sj hr2
 exact yv ⟨I148, rfl, hl149, hS150⟩
 refine yj 112 hc ?_
 iterate 13 refine yt ?_
 refine ya 17 126 (.bool false) ?_
 obtain rfl := sj hr2
 exact yv ⟨I118, rfl, lr, hS129⟩
 rintro _ w155 ⟨I144, rfl, hl145, hS156⟩
 refine ya 18 127 (.bool j142) ?_
 obtain ⟨q163, hx_q163, hr1⟩ := bsm hr1
 replace hx_q163 := sj hx_q163
 refine yac (l1 := [19, 20, 21, 22, 23, 24, 25, 26, 27, 28, 29, 30, 31, 32, 33]) 142 q163 ?_ ?_
 refine yp j142 (fun hc => ?_) (fun hc => ?_)
 refine yj 127 hc ?_
 iterate 14 refine yt ?_
 exact ya 33 142 (.bool true) (WO.mk 127 hc (by rw [← hx_q163, hc]; rfl))
 refine yj 127 hc (ya 19 128 (Pt b110 1) (yf (v := (Iv x109.Kind)) (hS156.rf m1) ?_))
 refine WO.vs 21 [(130, .bool (x109.Kind != 3)), (131, .bool (x109.Kind != 3))] (yac (l1 := [23, 24, 25, 26, 27, 28, 29, 30, 31, 32]) 141 ((x109.Kind != 3) && ((!sEq x109.Table (⟨#[]⟩ : ByteArray)) || (decide ((x109.Refs.length : Int) > 0)))) ?_ ?_)
 refine yp (x109.Kind != 3) (fun hc => ?_) (fun hc => ?_)
 refine yj 131 hc (ya 23 132 (Pt b110 10) (yf (v := (.string x109.Table)) (hS156.rf m1) ?_))
 refine WO.vs 25 [(134, .bool (!sEq x109.Table (⟨#[]⟩ : ByteArray))), (135, .bool (!sEq x109.Table (⟨#[]⟩ : ByteArray)))] (yac (l1 := [27, 28, 29, 30, 31]) 140 ((!sEq x109.Table (⟨#[]⟩ : ByteArray)) || (decide ((x109.Refs.length : Int) > 0))) ?_ ?_)
 refine yp (!sEq x109.Table (⟨#[]⟩ : ByteArray)) (fun hc => ?_) (fun hc => ?_)
 refine yj 135 hc ?_
 iterate 4 refine yt ?_
 exact ya 31 140 (.bool true) (WO.mk 135 hc (by rw [hc]; rfl))
 refine yj 135 hc (ya 27 136 (Pt b110 11) (yf (v := (Sl w_x109.Refs.a x109.Refs w_x109.Refs.c)) (hS156.rf m1) ?_))
 exact WO.vs 29 [(138, Nv x109.Refs.length), (139, .bool (decide ((x109.Refs.length : Int) > 0))), (140, .bool (decide ((x109.Refs.length : Int) > 0)))] (WO.mk 135 hc (by rw [hc]; rfl))
 exact ya 32 141 (.bool ((!sEq x109.Table (⟨#[]⟩ : ByteArray)) || (decide ((x109.Refs.length : Int) > 0)))) (WO.mk 131 hc (by rw [hc]; rfl))
 refine yj 131 hc ?_
 iterate 9 refine yt ?_
 exact ya 32 141 (.bool false) (WO.mk 131 hc (by rw [hc]; rfl))
 exact ya 33 142 (.bool ((x109.Kind != 3) && ((!sEq x109.Table (⟨#[]⟩ : ByteArray)) || (decide ((x109.Refs.length : Int) > 0))))) (WO.mk 127 hc (by rw [← hx_q163, hc]; rfl))
 refine yb (W.cb hr1 (fun hc hr1 => ?_) (fun hc hr1 => ?_))
 refine yd [0] ?_
 refine ya 0 2 (Iv 2) (yb (W.ret (yh (yc (ym ?_)))))
 obtain rfl := hext99 _ (sj hr1).symm
 refine yh (yc ?_)
 obtain rfl := sj hr
 exact yr ⟨I144, rfl, (((((((hl8.trans hl15).trans hl22).trans hl27).trans hl50).trans hl101).trans hl119).trans hl145), hS156.drop.drop⟩
 refine yg (yi (En.next (yaa nL3 ?_)))
 refine ya 0 82 (Nv i102) (y0 (j := i102) rfl (by kernel_rfl) rfl (by first | omega | (dsimp only at *; omega) | (simp only [List.length_cons, List.length_nil] at *; omega)) ?_)
 exact ya 2 11 (Iv ((i102 + 1 : Nat) : Int)) (WO.nil (yo ⟨(), (sj hr1).symm, I144, rfl, ((hl101.trans hl119).trans hl145), hS156.front1.drop⟩))
 rintro _ _ w176 ⟨I100, rfl, hl101, hS177⟩ he
 cases he
 refine ye (yd nL5 ?_)
 refine WO.vs 0 [(77, Nv p0.Cons.length), (78, Pt b1 4)] (yf (v := (Sl w_p0.Cons.a p0.Cons w_p0.Cons.c)) (hS177.rf m0) ?_)
 refine WO.vs 3 [(80, Nv p0.Cons.length), (81, .bool (decide ((p0.Cons.length : Int) < (p0.Cons.length : Int))))] (yb (yah (fun hc => ?_)))
 clear hc
 refine yy (yk (yl (yn (En.next (yd [0] ?_)))))
 refine ya 0 2 (Iv 0) (yb (W.ret ?_))
 obtain rfl := sj hr
 exact yr ⟨I100, rfl, (((((hl8.trans hl15).trans hl22).trans hl27).trans hl50).trans hl101), hS177.drop⟩
end Go.Proofs.YtdmapcjbbbifbaaGreat
