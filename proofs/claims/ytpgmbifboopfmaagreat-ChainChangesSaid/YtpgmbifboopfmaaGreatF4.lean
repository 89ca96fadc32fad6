/- What functions of the program come to, each by a plain one. Conditions: none. -/
import Derived.Test.YtpgmbifboopfmaaGreatF3
import Derived.Test.YtpgmbifboopfmaaGreatProg
set_option maxRecDepth 100000
namespace Go.Proofs.YtpgmbifboopfmaaGreat
open Go.Gv
set_option maxHeartbeats 1000000
variable {E w : World} {I : Mem} {Os : List Mem}
noncomputable def r17_Sound (p0 : qC) (p1 : qT) : Option Int := (r14_Check p1).bind (fun r14 => (bif (r14 != 0) then some r14 else (forN (fun (i20 : Nat) (_s : Unit) => (idx p1.Cons (i20 : Int)).bind (fun x28 => ((bif (x28.Kind == 2) then (r15_Resolve p1 x28.Check).bind (fun (r44, r45) => ((bif (r45 == 0) then (r15_Cols p1).bind (fun r63 => (r15_Bool r44 r63 ([] : List Int)).bind (fun r69 => some r69)) else some r45)).bind (fun (j52 : Int) => some j52)) else some 0)).bind (fun (j35 : Int) => ((bif (x28.Kind == 3) then (r17_foreign p0 p1 x28).bind (fun r91 => some r91) else some j35)).bind (fun (j82 : Int) => (bif (j82 != 0) then some (.inr j82) else some (.inl ())))))) p1.Cons.length 0 ()).bind (fun (t : Unit ⊕ (Int)) => match t with | .inl _ => some 0 | .inr s99 => some s99)))
theorem r17_Sound_ok {p0 : qC} {p1 : qT} {w_p0 : W_qC} {w_p1 : W_qT} (h_p0 : ok_qC I p0 w_p0) (h_p1 : ok_qT I p1 w_p1) (hS : St E w I Os) {r : Int} (D : r17_Sound p0 p1 = some r) :
    Calls P 62 #[(vC p0 w_p0), (vT p1 w_p1)] w (RT E I Os (Iv r)) := by
 refine calls_W (fn := Tryz.f62) rfl rfl rfl ?_
 unfold r17_Sound at D
 refine yg nL3 (yab hS (cs_qC p0 w_p0) 29 z fun b1 w4 S3 => yab S3 (cs_qT p1 w_p1) 78 z fun b5 w8 S7 => ya 2 1 z (yac nL3 (y6 ((cs_qT p1 w_p1)) (S7.rf m0) z (bsk D fun r14 Xr9 D => WO.c1 (r14_Check_ok h_p1 S7 Xr9) z fun I11 w10 L12 S13 => ya 2 1 z (yb (W.seq (yg nL2 (ya 0 2 z (yb (yz D (fun G D => ?_) (fun G D => ?_)))))))))))
 exact yg nL2 (ya 0 2 z (yb (yp (yh (sj D ▸ yw ⟨I11, rfl, L12, S13.d2⟩)))))
 refine W.skip (ye (W.seq (yg [0] (ya 0 1 z (yb (ym (bsk D fun t17 hloop21 D => have hlt26 := ((RSl.mono h_p1.Cons L12)).len_lt; W.wk (yaq (m := p1.Cons.length) hloop21 (fun (i20 : Nat) (_s : Unit) => JI E I11 [(2, Pt b1 0), (3, Pt b5 0), (6, Nv i20)] (bC b1 p0 w_p0 :: (bT b5 p1 w_p1) :: Os)) ⟨I11, rfl, lr, S13.front1⟩ ?_ ?_))))))))
 rintro i20 _ _ w23 hi27 ⟨I18, rfl, L19, S24⟩ x25 R1 hext17
 refine W.seq (yg nL5 (yf 0 2 [4] z (yj (S24.rf m1) z (ya 3 2 z (yb (yat fun _ => W.skip (ye (W.seq (ym (yg nL7 (yf 0 1 [4] z (yj (S24.rf m1) z (ya 2 1 z ?_)))))))))))))
 obtain ⟨x28, R1, Hx28, _, ⟨w_x28, rfl, h_x28⟩, Zx28⟩ := sx I18 h_p1.Cons R1
 refine y0 137 12 Hx28 z (yaw ((cs_qK x28 w_x28)) Zx28 0 S24.rm z (yab S24 (cs_qK z_qK zw_qK) 137 z fun b29 w32 S31 => yaa S31 0 (cs_qK x28 w_x28) fun w34 S33 => yac [0] (ya 0 1 z (yb (W.seq (yg nL3 (yf 0 1 [1] z (yj (S33.rf m0) z (ya 2 1 z (yb (bsk R1 fun j35 R2 R1 => yaz (J := JI E I18 [(2, Pt b1 0), (3, Pt b5 0), (6, Nv i20), (7, Pt b29 0), (8, Iv j35)] (bC b1 p0 w_p0 :: (bT b5 p1 w_p1) :: (bK b29 x28 w_x28) :: Os)) ?_ ?_)))))))))))
 refine yz R2 (fun G R2 => ?_) (fun G R2 => ?_)
 refine yg nL10 (y6 ((cs_qT p1 w_p1)) (S33.rf m2) z (yf 1 1 [3] z (y6 ((cs_qE x28.Check w_x28.Check)) (S33.rf m0) z ?_)))
 obtain ⟨⟨r44, r45⟩, Xr39, R2⟩ := bsm R2
 refine yai (r15_Resolve_ok (h_p1.mono le) h_x28.Check S33 Xr39) ?_
 rintro _ w40 ⟨I41, w_r44, rfl, L42, S43, h_r44⟩
 refine cv (ya 4 3 z (yab S43 (cs_qE z_qE zw_qE) 41 z fun b46 w49 S48 => yaa S48 0 (cs_qE r44 w_r44) fun w51 S50 => ya 9 1 z (yac nL2 (ya 0 2 z (yac nL2 (ya 0 2 z (yb (bsk R2 fun j52 R3 R2 => yaz (J := JI E I41 [(2, Pt b1 0), (3, Pt b5 0), (6, Nv i20), (7, Pt b29 0), (8, Iv j52)] (bC b1 p0 w_p0 :: (bT b5 p1 w_p1) :: (bK b29 x28 w_x28) :: Os)) ?_ ?_))))))))
 refine yz R3 (fun G R3 => ?_) (fun G R3 => ?_)
 have S56 := S50.drew
 refine ya4 nL5 3 (yo (S56.rd m0) (yo (S56.rd m3) (y7 S56.im))) ?_
 generalize World.drew _ = w57 at *
 refine y6 ((cs_qE r44 w_r44)) (rd_c m0 (S56.rd m0)) z (y6 ((cs_qT p1 w_p1)) (rd_c m1 (S56.rd m3)) z (bsk R3 fun r63 Xr58 R3 => yai (r15_Cols_ok (h_p1.mono le) S56 Xr58) ?_))
 rintro _ w59 ⟨I60, a_r63, c_r63, rfl, L61, S62, h_r63⟩
 refine ⟨_, rfl, (yo (S62.rd m0) (yo (S62.rd m3) (y7 (S62.im.of_le L61)))), ?_⟩
 exact WO.tail z (bsk R3 fun r69 Xr64 R3 => WO.c1 (r15_Bool_ok (h_r44.mono L61) h_r63 SlAt.nil S62 Xr64) z fun I66 w65 L67 S68 => ya 4 1 z (yt (sj R3 ▸ yv ⟨I66, rfl, le, S68.drop.front2.front2⟩)))
 exact W.skip (sj R3 ▸ yv ⟨I41, rfl, lr, S50.drop.front2.front2⟩)
 rintro _ w76 ⟨I54, rfl, L55, S77⟩
 exact sj R2 ▸ yv ⟨I54, rfl, le, S77⟩
 exact W.skip (sj R2 ▸ yv ⟨I18, rfl, lr, S33.front2.front2⟩)
 rintro _ w80 ⟨I37, rfl, L38, S81⟩
 refine ye (W.seq (yg nL3 (yf 0 1 [1] z (yj (S81.rf m2) z (ya 2 1 z (yb (bsk R1 fun j82 R2 R1 => yaz (J := JI E I37 [(2, Pt b1 0), (3, Pt b5 0), (6, Nv i20), (8, Iv j82)] (bC b1 p0 w_p0 :: (bT b5 p1 w_p1) :: Os)) ?_ ?_)))))))
 refine yz R2 (fun G R2 => ?_) (fun G R2 => ?_)
 exact yah nL5 (y6 ((cs_qC p0 w_p0)) (S81.rf m0) z (y6 ((cs_qT p1 w_p1)) (S81.rf m1) z (y6 ((cs_qK x28 w_x28)) (S81.rf m2) z (bsk R2 fun r91 Xr86 R2 => WO.c1 (r17_foreign_ok (h_p0.mono le) (h_p1.mono le) (h_x28.mono L38) S81 Xr86) z fun I88 w87 L89 S90 => ya 4 1 z (yt (sj R2 ▸ yv ⟨I88, rfl, L89, S90.front2.drop⟩))))))
 exact W.skip (sj R2 ▸ yv ⟨I37, rfl, lr, S81.front2.drop⟩)
 rintro _ w96 ⟨I84, rfl, L85, S97⟩
 refine ye (yg nL2 (ya 0 2 z (yb (yz R1 (fun G R1 => ?_) (fun G R1 => ?_)))))
 refine yg nL2 (ya 0 2 z (yb (yp (yk (yh (yr ?_))))))
 obtain rfl := hext17 _ (sj R1).symm
 exact yk (yh (sj D ▸ yw ⟨I84, rfl, le, S97.d2⟩))
 exact W.skip (yl (ye (yah nL3 (ya 0 1 z (yao i20 z (ya 2 1 z (yt (yv ⟨(), (sj R1).symm, I84, rfl, le, S97⟩))))))))
 rintro _ _ w104 ⟨I18, rfl, L19, S105⟩ he
 cases he
 exact W.seq (yg nL5 (yf 0 2 [4] z (yj (S105.rf m1) z (ya 3 2 z (yb (yas fun _ => W.exit (yn (yq (yu (ye (yg [0] (ya 0 1 z (yb (yp (sj D ▸ yw ⟨I18, rfl, le, S105.d2⟩)))))))))))))))
noncomputable def r17_with (p0 : qC) (p1 : qT) : Option qC := (loopO (fun (s24 : Int) => ((bif (decide (s24 < (p0.Tables.length : Int))) then (idx p0.Tables s24).bind (fun x38 => some (sLt x38.Name p1.Name)) else some false)).bind (fun (j34 : Bool) => (bif j34 then some (.inl (w64 (s24 + 1))) else some (.inr s24)))) 0).bind (fun (s42 : Int) => (sub p0.Tables 0 s42).bind (fun x45 => (app 112 ([] : List qT) x45).bind (fun x48 => (app 112 x48 ([p1] : List qT)).bind (fun x66 => (sub p0.Tables s42 (p0.Tables.length : Int)).bind (fun x80 => (app 112 x66 x80).bind (fun x82 => some { p0 with Tables := x82 }))))))
theorem r17_with_ok {p0 : qC} {p1 : qT} {w_p0 : W_qC} {w_p1 : W_qT} (h_p0 : ok_qC I p0 w_p0) (h_p1 : ok_qT I p1 w_p1) (hS : St E w I Os) {r : qC} (D : r17_with p0 p1 = some r) :
    Calls P 63 #[(vC p0 w_p0), (vT p1 w_p1)] w (fun e w' => ∃ I' w_rw0, e = .returned (vC r w_rw0) ∧ I.Le I' ∧ St E w' I' Os ∧ ok_qC I' r w_rw0) := by
 refine calls_W (fn := Tryz.f63) rfl rfl rfl ?_
 unfold r17_with at D
 refine yg nL3 (yab hS (cs_qC p0 w_p0) 29 z fun b1 w4 S3 => yab S3 (cs_qT p1 w_p1) 78 z fun b5 w8 S7 => yab S7 (cs_qC z_qC zw_qC) 29 z fun b9 w12 S11 => yac nL3 (y6 ((cs_qC p0 w_p0)) (S11.rf m2) z (yab S11 (cs_qC z_qC zw_qC) 29 z fun b13 w16 S15 => yaa S15 0 (cs_qC p0 w_p0) fun w18 S17 => yac nL2 (yf 0 1 [1] z (yaa S17 1 (cs_qC ({ p0 with Tables := ([] : List qT) }) ({ w_p0 with Tables := ⟨none, 0⟩ })) fun w20 S19 => yac [0] (ya 0 1 z (yb (W.seq (ym (bsk D fun t21 hloop25 D => W.wk (ya8 hloop25 (fun (s24 : Int) => JI E I [(2, Pt b1 0), (3, Pt b5 0), (4, Pt b9 0), (5, Pt b13 0), (6, Iv s24)] (bC b1 p0 w_p0 :: (bT b5 p1 w_p1) :: (bC b9 z_qC zw_qC) :: (Bx b13 (cs_qC ({ p0 with Tables := ([] : List qT) }) ({ w_p0 with Tables := ⟨none, 0⟩ })) 29) :: Os)) ⟨I, rfl, lr, S19.front1.front2.front3⟩ ?_)))))))))))
 rintro s24 _ w29 ⟨I22, rfl, L23, S30⟩ x31 R1 hext21
 refine W.seq (W.seq (have S32 := S30.drew; ya4 nL16 16 (yo (S32.rd m0) (yo (S32.rd m1) (y7 S32.im))) ?_))
 generalize World.drew _ = w33 at *
 refine yf 0 2 [1] z (yj (rd_c m0 (S32.rd m0)) z (ya 3 3 z (bsk R1 fun j34 R2 R1 => yal (l1 := [6, 7, 8, 9, 10, 11, 12, 13, 14, 15]) (J := JI E I22 [(2, Pt b1 0), (3, Pt b5 0), (4, Pt b9 0), (5, Pt b13 0), (6, Iv s24), (24, .bool j34)] (bC b1 p0 w_p0 :: (bT b5 p1 w_p1) :: (bC b9 z_qC zw_qC) :: (Bx b13 (cs_qC ({ p0 with Tables := ([] : List qT) }) ({ w_p0 with Tables := ⟨none, 0⟩ })) 29) :: Os)) ?_ ?_)))
 refine yak R2 (fun G R2 => ?_) (fun G R2 => ?_)
 refine yy 14 G (yf 6 1 [1] z (yj (rd_c m0 (S32.rd m0)) z (ya 8 1 z ?_)))
 obtain ⟨x38, R2, Hx38, _, ⟨w_x38, rfl, h_x38⟩, Zx38⟩ := sx I22 h_p0.Tables R2
 exact y0 78 6 Hx38 z (yf 10 1 [0] z (yan Zx38 (rd_i S32.im) z (yf 12 1 [0] z (yj (rd_c m1 (S32.rd m1)) z (yaf 14 23 (.bool (sLt x38.Name p1.Name)) (ya 15 1 z (sj R2 ▸ yx ⟨I22, rfl, lr, S32⟩)))))))
 refine yy 14 G ?_
 iterate 9 refine yaj ?_
 exact ya 15 1 z (sj R2 ▸ yx ⟨I22, rfl, lr, S32⟩)
 rintro _ w39 ⟨I36, rfl, L37, S40⟩
 refine yb (yz R1 (fun G R1 => ?_) (fun G R1 => ?_))
 exact W.skip (ye (ym (yah nL3 (ya 0 3 z (yt (yl (yv ⟨(w64 (s24 + 1)), (sj R1).symm, I36, rfl, le, S40⟩)))))))
 refine W.exit (yn (yq ?_))
 obtain rfl := hext21 _ (sj R1).symm
 refine yu (ye (W.seq (have S105 := S40.drew; ya4 nL9 6 (yo (S105.rd m0) (yo (S105.rd m3) (y7 S105.im))) ?_)))
 generalize World.drew _ = w106 at *
 refine yf 0 1 [1] z (yj (rd_c m1 (S105.rd m3)) z (yf 2 1 [1] z (yj (rd_c m0 (S105.rd m0)) z (ya 4 1 z ?_))))
 obtain ⟨x107, Xx107, D⟩ := bsm D
 obtain ⟨h0_x107, h1_x107, h2_x107, he_x107⟩ := sub_some Xx107
 have hl_x107 : (s24 : Int) ≤ (w_p0.Tables.c : Int) := Int.le_trans h2_x107 (Int.ofNat_le.2 ((RSl.mono h_p0.Tables (L23.trans L37))).le)
 refine ya1 (e := 78) (sz := 6) z kr kr kr z (0 : Int) (s24 : Int) h0_x107 (.inl ⟨rfl, rfl⟩) (.inr ⟨_, _, rfl, rfl⟩) h1_x107 hl_x107 ?_
 obtain ⟨a_x107, c_x107, h_x107, ev_x107⟩ := sub_ok ((RSl.mono h_p0.Tables (L23.trans L37))) h0_x107 h1_x107 h2_x107 he_x107
 refine y8 32 z ev_x107 ?_
 refine WO.tail z (have S109 := S105.no; apk D fun x110 h0_x110 he_x110 D => ya3 (e' := 78) (b := 112) (zs := (cs_qT z_qT zw_qT).toArray) S109 (OwnSl.nil (T := 78) (rel := R_qT) (I := I36)) z kr z kr kr kr z z z z h_x107 S109.im h0_x110 he_x110 tv ?_)
 intro a111 c112 w113 C114 S115 ho116
 refine yf 7 1 [1] z (yaa S115.front4 1 (cs_qC ({ p0 with Tables := x110 }) ({ w_p0 with Tables := ⟨a111, c112⟩ })) fun w119 S118 => yac nL7 (yf 0 1 [1] z (yj (S118.rf m0) z (y6 ((cs_qT p1 w_p1)) (S118.rf m3) z (yad (rel := R_qT) (xs := ([p1] : List qT)) S118 z kr z 78 6 [(cs_qT p1 w_p1)] kr z ((Elr.cons ⟨w_p1, rfl, (h_p1.mono le)⟩ Elr.nil)) tv ?_)))))
 intro a123 C121 w125 S124 ho122
 have S127 := S124.front2
 refine apk D fun x128 h0_x128 he_x128 D => yav 78 112 (cs_qT z_qT zw_qT) S127 ho116 ho122.sl (S127.rd m1) h0_x128 he_x128 z fun a129 c130 w131 C132 S133 ho134 => yf 5 1 [1] z (yaa S133.front1.drop.front1 1 (cs_qC ({ p0 with Tables := x128 }) ({ w_p0 with Tables := ⟨a129, c130⟩ })) fun w139 S138 => yb (W.seq (have S140 := S138.drew; ya4 nL9 6 (yo (S140.rd m0) (yo (S140.rd m2) (y7 S140.im))) ?_)))
 generalize World.drew _ = w141 at *
 refine yf 0 1 [1] z (yj (rd_c m0 (S140.rd m0)) z (yf 2 1 [1] z (yj (rd_c m1 (S140.rd m2)) z (ya 4 1 z ?_))))
 obtain ⟨x142, Xx142, D⟩ := bsm D
 obtain ⟨h0_x142, h1_x142, h2_x142, he_x142⟩ := sub_some Xx142
 have hl_x142 : ((p0.Tables.length : Int) : Int) ≤ (w_p0.Tables.c : Int) := Int.le_trans h2_x142 (Int.ofNat_le.2 ((RSl.mono h_p0.Tables (L23.trans L37))).le)
 refine ya1 (e := 78) (sz := 6) z kr kr kr z (s24 : Int) ((p0.Tables.length : Int) : Int) h0_x142 (.inr ⟨_, _, rfl, rfl⟩) (.inl ⟨rfl, rfl⟩) h1_x142 hl_x142 ?_
 obtain ⟨a_x142, c_x142, h_x142, ev_x142⟩ := sub_ok ((RSl.mono h_p0.Tables (L23.trans L37))) h0_x142 h1_x142 h2_x142 he_x142
 refine y8 46 z ev_x142 ?_
 refine WO.tail z (have S143 := S140.front1; apk D fun x144 h0_x144 he_x144 D => yav 78 112 (cs_qT z_qT zw_qT) S143 ho134 h_x142 S143.im h0_x144 he_x144 z fun a145 c146 w147 C148 S149 ho150 => yf 7 1 [1] z (yaa S149.front1 1 (cs_qC ({ p0 with Tables := x144 }) ({ w_p0 with Tables := ⟨a145, c146⟩ })) fun w153 S152 => yac nL2 (y6 ((cs_qC ({ p0 with Tables := x144 }) ({ w_p0 with Tables := ⟨a145, c146⟩ }))) (S152.rf m0) z ?_)))
 obtain ⟨I155, L156, S158, hp157⟩ := yae ho150 S152.front1
 refine yaa S158.front3 0 (cs_qC ({ p0 with Tables := x144 }) ({ w_p0 with Tables := ⟨a145, c146⟩ })) fun w161 S160 => yb (yp ?_)
 have hk166 : ok_qC I155 ({ p0 with Tables := x144 }) ({ w_p0 with Tables := ⟨a145, c146⟩ }) := ⟨hp157, (RSl.mono h_p0.Roles ((L23.trans L37).trans L156)), (RSl.mono h_p0.Grants ((L23.trans L37).trans L156))⟩
 exact sj D ▸ En.c1 _ (S160.rd m0) ⟨I155, ({ w_p0 with Tables := ⟨a145, c146⟩ }), rfl, le, S160.d4, hk166⟩
noncomputable def r17_Make (p0 : qC) (p1 : qS) (p2 : By8) (p3 : Int) : Option (qC × Int) := (bif ((decide (p1.Kind < 1)) || (decide (p1.Kind > 9))) then some (z_qC, 2) else (r17_At p0 p1.Table).bind (fun r25 => (bif ((p1.Kind == 1) && (decide (r25 ≥ 0))) then some (z_qC, 19) else (bif ((p1.Kind == 1) && (decide ((p0.Tables.length : Int) ≥ 8))) then some (z_qC, 5) else (bif ((p1.Kind != 1) && (decide (r25 < 0))) then some (z_qC, 4) else (r17_without p0 p1.Table).bind (fun r52 => ((bif (p1.Kind == 1) then some (.inl ((0 : Int), z_qC, r52.Version, r52.Tables, r52.Roles, r52.Grants, { z_qT with Name := p1.Table, Owner := p2, Cols := p1.Cols, Cons := p1.Cons })) else ((bif (p1.Kind == 2) then (r17_refers_nilsl p0 p1.Table p1.Table eB).bind (fun r90 => (bif r90 then some (.inl (34, z_qC, z_qT)) else (forE (fun (i124 : Nat) (s123 : List qG) => (idx p0.Grants (i124 : Int)).bind (fun x140 => ((bif (!sEq x140.Table p1.Table) then (idx p0.Grants (i124 : Int)).bind (fun x147 => (app 64 s123 ([x147] : List qG)).bind (fun x156 => some x156)) else some s123)).bind (fun (j141 : List qG) => some j141))) p0.Grants.length 0 ([] : List qG)).bind (fun s123 => some (.inr ((0 : Int), z_qC, r52.Version, r52.Tables, r52.Roles, s123, z_qT))))) else ((bif (p1.Kind == 5) then (r17_At p0 p1.Name).bind (fun r199 => (bif (decide (r199 ≥ 0)) then some (.inl (19, z_qC, z_qT)) else (idx p0.Tables r25).bind (fun x219 => (r17_renamed p0 x219 p1.Name).bind (fun (r225, r226) => some (.inr ((0 : Int), z_qC, r225.Version, r225.Tables, r225.Roles, r225.Grants, r226)))))) else (idx p0.Tables r25).bind (fun x246 => (r17_turned p0 x246 p1).bind (fun (r252, r253) => some (.inr (r253, z_qC, r52.Version, r52.Tables, r52.Roles, r52.Grants, r252)))))).bind (fun (t : (Int × qC × qT) ⊕ (Int × qC × Int × (List qT) × (List qJ) × (List qG) × qT)) => match t with | (.inl (s204, s205, s206)) => some (.inl (s204, s205, s206)) | (.inr (s233, s234, s235, s236, s237, s238, s239)) => some (.inr (s233, s234, s235, s236, s237, s238, s239))))).bind (fun (t : (Int × qC × qT) ⊕ (Int × qC × Int × (List qT) × (List qJ) × (List qG) × qT)) => match t with | (.inl (s95, s96, s97)) => some (.inr (s95, s96, s97)) | (.inr (s178, s179, s180, s181, s182, s183, s184)) => some (.inl (s178, s179, s180, s181, s182, s183, s184))))).bind (fun (t : (Int × qC × Int × (List qT) × (List qJ) × (List qG) × qT) ⊕ (Int × qC × qT)) => match t with | (.inl (s69, s70, s71, s72, s73, s74, s75)) => ((bif ((s69 == 0) && (p1.Kind != 2)) then (r17_Sound (⟨s71, s72, s73, s74⟩ : qC) s75).bind (fun r278 => some r278) else some s69)).bind (fun (j268 : Int) => ((bif ((j268 == 0) && (decide (p0.Version ≥ p3))) then some 52 else some j268)).bind (fun (j283 : Int) => (bif (j283 != 0) then some (z_qC, j283) else ((bif (p1.Kind != 2) then (r17_with (⟨s71, s72, s73, s74⟩ : qC) ({ s75 with Version := (w64 (p0.Version + 1)) })).bind (fun r311 => some (r311.Version, r311.Tables, r311.Roles, r311.Grants, { s75 with Version := (w64 (p0.Version + 1)) })) else some (s71, s72, s73, s74, s75))).bind (fun ((s315, s316, s317, s318, s319) : Int × (List qT) × (List qJ) × (List qG) × qT) => some ((⟨(w64 (p0.Version + 1)), s316, s317, s318⟩ : qC), 0))))) | (.inr (s99, s100, s101)) => some (s100, s99))))))))
theorem r17_Make_ok {p0 : qC} {p1 : qS} {p2 : By8} {p3 : Int} {w_p0 : W_qC} {w_p1 : W_qS} (h_p0 : ok_qC I p0 w_p0) (h_p1 : ok_qS I p1 w_p1) (hS : St E w I Os) {r : qC × Int} (D : r17_Make p0 p1 p2 p3 = some r) :
    Calls P 32 #[(vC p0 w_p0), (vS p1 w_p1), (.string p2), (Iv p3)] w (fun e w' => ∃ I' w_rw0, e = .returned (.tuple #[(vC r.1 w_rw0), (Iv r.2)]) ∧ I.Le I' ∧ St E w' I' Os ∧ ok_qC I' r.1 w_rw0) := by
 refine calls_W (fn := Tryz.f32) rfl rfl rfl ?_
 unfold r17_Make at D
 refine yg nL4 (yab hS (cs_qC p0 w_p0) 29 z fun b1 w4 S3 => yab S3 (cs_qS p1 w_p1) 46 z fun b5 w8 S7 => yab S7 (cs_qC z_qC zw_qC) 29 z fun b9 w12 S11 => ya 3 1 z (yb (W.seq (yg nL8 (yf 0 1 [0] z (yj (S11.rf m1) z (ya 2 2 z (ya2 [4, 5, 6] 7 18 22 (.refl ((decide (p1.Kind < 1)) || (decide (p1.Kind > 9)))) (fun _ => yf 4 1 [0] z (yj (S11.rf m1) z (ya 6 2 z yam))) (yb (yz D (fun G D => ?_) (fun G D => ?_)))))))))))
 exact yg nL3 (yaf 0 23 (vC z_qC zw_qC) (yaa S11 0 (cs_qC z_qC zw_qC) fun w16 S15 => ya 2 1 z (yb (yp (yh (sj D ▸ ya6 _ (S15.rd m0) ⟨I, zw_qC, rfl, lr, S15.d3, zok_qC⟩))))))
 refine W.skip (ye (yg nL5 (y6 ((cs_qC p0 w_p0)) (S11.rf m2) z (yf 1 1 [1] z (yj (S11.rf m1) z (bsk D fun r25 Xr20 D => WO.c1 (r17_At_ok h_p0 S11 Xr20) z fun I22 w21 L23 S24 => ya 4 1 z (yb (W.seq (yg nL7 (yf 0 1 [0] z (yj (S24.rf m1) z (ya 2 2 z (yax [4, 5] 6 31 34 (.refl ((p1.Kind == 1) && (decide (r25 ≥ 0)))) (fun _ => ya 4 3 z yam) (yb (yz D (fun G D => ?_) (fun G D => ?_))))))))))))))))
 exact yg nL3 (yaf 0 35 (vC z_qC zw_qC) (yaa S24 0 (cs_qC z_qC zw_qC) fun w29 S28 => ya 2 1 z (yb (yp (yh (sj D ▸ ya6 _ (S28.rd m0) ⟨I22, zw_qC, rfl, L23, S28.d3, zok_qC⟩))))))
 refine W.skip (ye (W.seq (yg nL9 (yf 0 1 [0] z (yj (S24.rf m1) z (ya 2 2 z (yax [4, 5, 6, 7] 8 39 44 (.refl ((p1.Kind == 1) && (decide ((p0.Tables.length : Int) ≥ 8)))) (fun _ => yf 4 1 [1] z (yj (S24.rf m2) z (ya 6 3 z yam))) (yb (yz D (fun G D => ?_) (fun G D => ?_))))))))))
 exact yg nL3 (yaf 0 45 (vC z_qC zw_qC) (yaa S24 0 (cs_qC z_qC zw_qC) fun w36 S35 => ya 2 1 z (yb (yp (yh (sj D ▸ ya6 _ (S35.rd m0) ⟨I22, zw_qC, rfl, L23, S35.d3, zok_qC⟩))))))
 refine W.skip (ye (W.seq (yg nL7 (yf 0 1 [0] z (yj (S24.rf m1) z (ya 2 2 z (yax [4, 5] 6 49 52 (.refl ((p1.Kind != 1) && (decide (r25 < 0)))) (fun _ => ya 4 3 z yam) (yb (yz D (fun G D => ?_) (fun G D => ?_))))))))))
 exact yg nL3 (yaf 0 53 (vC z_qC zw_qC) (yaa S24 0 (cs_qC z_qC zw_qC) fun w43 S42 => ya 2 1 z (yb (yp (yh (sj D ▸ ya6 _ (S42.rd m0) ⟨I22, zw_qC, rfl, L23, S42.d3, zok_qC⟩))))))
 refine W.skip (ye (yg nL6 (y6 ((cs_qC p0 w_p0)) (S24.rf m2) z (yf 1 1 [1] z (yj (S24.rf m1) z (bsk D fun r52 Xr47 D => yai (r17_without_ok (h_p0.mono L23) S24 Xr47) ?_))))))
 rintro _ w48 ⟨I49, w_r52, rfl, L50, S51, h_r52⟩
 refine cv (yab S51 (cs_qC z_qC zw_qC) 29 z fun b53 w56 S55 => yaa S55 0 (cs_qC r52 w_r52) fun w58 S57 => yac [0] (yab S57 (cs_qT z_qT zw_qT) 78 z fun b59 w62 S61 => yac [0] (ya 0 1 z (yb (W.seq (yg nL2 (yf 0 1 [0] z (yj (S61.rf m3) z (yb (ym (yg nL2 (ya 0 2 z (yb (bsk D fun j63 R1 D => yaz (J := (fun fr w => ∃ (s69 : Int) (s70 : qC) (s71 : Int) (s72 : List qT) (s73 : List qJ) (s74 : List qG) (s75 : qT), ∃ I65 w_s70 a_s72 c_s72 a_s73 c_s73 a_s74 c_s74 w_s75, (.inl (s69, s70, s71, s72, s73, s74, s75)) = j63 ∧ fr = [(3, Iv p3), (4, Pt b1 0), (5, Pt b5 0), (8, Pt b9 0), (11, Pt b53 0), (12, Pt b59 0), (13, Iv s69)] ∧ I49.Le I65 ∧ St E w I65 (bC b1 p0 w_p0 :: (bS b5 p1 w_p1) :: (bC b9 s70 w_s70) :: (Bx b53 (cs_qC (⟨s71, s72, s73, s74⟩ : qC) (⟨⟨a_s72, c_s72⟩, ⟨a_s73, c_s73⟩, ⟨a_s74, c_s74⟩⟩ : W_qC)) 29) :: (bT b59 s75 w_s75) :: Os) ∧ ok_qC I65 s70 w_s70 ∧ RSl 6 R_qT I65 a_s72 c_s72 s72 ∧ RSl 2 R_qJ I65 a_s73 c_s73 s73 ∧ RSl 5 R_qG I65 a_s74 c_s74 s74 ∧ ok_qT I65 s75 w_s75)) ?_ ?_))))))))))))))
 refine yz R1 (fun G R1 => ?_) (fun G R1 => ?_)
 refine yah nL9 (yf 0 1 [1] z (yj (S61.rf m3) z (yf 2 2 [4] z (yj (S61.rf m3) z (yf 5 1 [5] z (yj (S61.rf m3) z (yaf 7 80 (.agg (cs_qT ({ z_qT with Name := p1.Table, Owner := p2, Cols := p1.Cols, Cons := p1.Cons }) ({ zw_qT with Cols := ⟨w_p1.Cols.a, w_p1.Cols.c⟩, Cons := ⟨w_p1.Cons.a, w_p1.Cons.c⟩ })).toArray) (yaa S61 0 (cs_qT ({ z_qT with Name := p1.Table, Owner := p2, Cols := p1.Cols, Cons := p1.Cons }) ({ zw_qT with Cols := ⟨w_p1.Cols.a, w_p1.Cols.c⟩, Cons := ⟨w_p1.Cons.a, w_p1.Cons.c⟩ })) fun w68 S67 => yt ?_))))))))
 have hk76 : ok_qT I49 ({ z_qT with Name := p1.Table, Owner := p2, Cols := p1.Cols, Cons := p1.Cons }) ({ zw_qT with Cols := ⟨w_p1.Cols.a, w_p1.Cols.c⟩, Cons := ⟨w_p1.Cons.a, w_p1.Cons.c⟩ }) := ⟨(RSl.mono h_p1.Cols (L23.trans L50)), (RSl.mono h_p1.Cons (L23.trans L50)), SlAt.nil⟩
 exact yv ⟨0, z_qC, r52.Version, r52.Tables, r52.Roles, r52.Grants, { z_qT with Name := p1.Table, Owner := p2, Cols := p1.Cols, Cons := p1.Cons }, I49, zw_qC, w_r52.Tables.a, w_r52.Tables.c, w_r52.Roles.a, w_r52.Roles.c, w_r52.Grants.a, w_r52.Grants.c, ({ zw_qT with Cols := ⟨w_p1.Cols.a, w_p1.Cols.c⟩, Cons := ⟨w_p1.Cons.a, w_p1.Cons.c⟩ }), sj R1, rfl, lr, S67.front1.front2.front3.front4, zok_qC, h_r52.Tables, h_r52.Roles, h_r52.Grants, hk76⟩
 refine yg nL2 (ya 0 2 z (yb (bsk R1 fun j81 R2 R1 => yaz (J := (fun fr w => ∃ (s178 : Int) (s179 : qC) (s180 : Int) (s181 : List qT) (s182 : List qJ) (s183 : List qG) (s184 : qT), ∃ I83 w_s179 a_s181 c_s181 a_s182 c_s182 a_s183 c_s183 w_s184, (.inr (s178, s179, s180, s181, s182, s183, s184)) = j81 ∧ fr = [(3, Iv p3), (4, Pt b1 0), (5, Pt b5 0), (8, Pt b9 0), (11, Pt b53 0), (12, Pt b59 0), (13, Iv s178)] ∧ I49.Le I83 ∧ St E w I83 (bC b1 p0 w_p0 :: (bS b5 p1 w_p1) :: (bC b9 s179 w_s179) :: (Bx b53 (cs_qC (⟨s180, s181, s182, s183⟩ : qC) (⟨⟨a_s181, c_s181⟩, ⟨a_s182, c_s182⟩, ⟨a_s183, c_s183⟩⟩ : W_qC)) 29) :: (bT b59 s184 w_s184) :: Os) ∧ ok_qC I83 s179 w_s179 ∧ RSl 6 R_qT I83 a_s181 c_s181 s181 ∧ RSl 2 R_qJ I83 a_s182 c_s182 s182 ∧ RSl 5 R_qG I83 a_s183 c_s183 s183 ∧ ok_qT I83 s184 w_s184)) ?_ ?_)))
 refine yz R2 (fun G R2 => ?_) (fun G R2 => ?_)
 refine W.seq (yg nL6 (y6 ((cs_qC p0 w_p0)) (S61.rf m4) z (yf 1 1 [1] z (yj (S61.rf m3) z (yf 3 1 [1] z (yj (S61.rf m3) z (bsk R2 fun r90 Xr85 R2 => WO.c1 (r17_refers_nilsl_ok (h_p0.mono le) S61 Xr85) z fun I87 w86 L88 S89 => yb (yz R2 (fun G R2 => ?_) (fun G R2 => ?_)))))))))
 refine yg nL3 (yaf 0 89 (vC z_qC zw_qC) (yaa S89.front2 0 (cs_qC z_qC zw_qC) fun w93 S92 => ya 2 1 z (yb (yp (yh (yr ?_))))))
 obtain rfl := sj R2
 refine yr ?_
 obtain rfl := sj R1
 exact yk (yh (sj D ▸ ya6 _ (S92.rd m0) ⟨I87, zw_qC, rfl, le, S92.d5, zok_qC⟩))
 refine W.skip (ye (yg nL2 (yf 0 1 [3] z (yaa S89.front1 3 (cs_qC ({ r52 with Grants := ([] : List qG) }) ({ w_r52 with Grants := ⟨none, 0⟩ })) fun w119 S118 => yac [0] (ya 0 1 z (yb (ym (bsk R2 fun s123 hloop125 R2 => have hlt136 := ((RSl.mono h_p0.Grants ((L23.trans L50).trans L88))).len_lt; W.wk (yay (m := p0.Grants.length) hloop125 (fun (i124 : Nat) (s123 : List qG) fr w => ∃ I121 a_s123 c_s123 C_s123, fr = [(3, Iv p3), (4, Pt b1 0), (5, Pt b5 0), (8, Pt b9 0), (11, Pt b53 0), (12, Pt b59 0), (13, Iv 0), (14, Nv i124)] ∧ I87.Le I121 ∧ St E w I121 (bC b1 p0 w_p0 :: (bS b5 p1 w_p1) :: (bC b9 z_qC zw_qC) :: (Bx b53 (cs_qC ({ r52 with Grants := s123 }) ({ w_r52 with Grants := ⟨a_s123, c_s123⟩ })) 29) :: (bT b59 z_qT zw_qT) :: (C_s123) :: Os) ∧ OwnSl 92 5 R_qG I121 C_s123 a_s123 c_s123 s123) ⟨I87, none, 0, Mem.no, rfl, lr, S118.no.front2.front2.front3.front4.front5, OwnSl.nil⟩ ?_ ?_)))))))))
 rintro i124 s123 _ w133 hi137 ⟨I121, a_s123, c_s123, C_s123, rfl, L122, S134, h_s123⟩ x135 R3
 refine W.seq (yg nL5 (yf 0 2 [3] z (yj (S134.rf m0) z (ya 3 2 z (yb (yat fun _ => W.skip (ye (W.seq (ym (W.seq (have S138 := S134.drew; ya4 nL9 8 (yo (S138.rd m0) (yo (S138.rd m1) (y7 S138.im))) ?_)))))))))))
 generalize World.drew _ = w139 at *
 refine yf 0 1 [3] z (yj (rd_c m0 (S138.rd m0)) z (ya 2 1 z ?_))
 obtain ⟨x140, R3, Hx140, _, rfl, Zx140⟩ := sx I121 h_p0.Grants R3
 refine y0 92 5 Hx140 z (yf 4 1 [2] z (yar Zx140 2 (rd_i S138.im) z (yf 6 1 [1] z (yj (rd_c m1 (S138.rd m1)) z (WO.tail z (ya 8 1 z (yb (bsk R3 fun j141 R4 R3 => yaz (J := (fun fr w => ∃ I143 a_j141 c_j141 C_j141, fr = [(3, Iv p3), (4, Pt b1 0), (5, Pt b5 0), (8, Pt b9 0), (11, Pt b53 0), (12, Pt b59 0), (13, Iv 0), (14, Nv i124)] ∧ I121.Le I143 ∧ St E w I143 (bC b1 p0 w_p0 :: (bS b5 p1 w_p1) :: (bC b9 z_qC zw_qC) :: (Bx b53 (cs_qC ({ r52 with Grants := j141 }) ({ w_r52 with Grants := ⟨a_j141, c_j141⟩ })) 29) :: (bT b59 z_qT zw_qT) :: (C_j141) :: Os) ∧ OwnSl 92 5 R_qG I143 C_j141 a_j141 c_j141 j141)) ?_ ?_))))))))
 refine yz R4 (fun G R4 => ?_) (fun G R4 => ?_)
 have S145 := S138.drew
 refine ya4 nL11 8 (yo (S145.rd m0) (yo (S145.rd m3) (y7 S145.im))) ?_
 generalize World.drew _ = w146 at *
 refine yf 0 1 [3] z (yj (rd_c m1 (S145.rd m3)) z (yf 2 1 [3] z (yj (rd_c m0 (S145.rd m0)) z (ya 4 1 z ?_))))
 obtain ⟨x147, R4, Hx147, _, rfl, Zx147⟩ := sx I121 h_p0.Grants R4
 refine y0 92 5 Hx147 z (yaw ((cs_qG x147)) Zx147 0 (rd_i S145.im) z (yad (rel := R_qG) (xs := ([x147] : List qG)) S145 z kr z 92 5 [(cs_qG x147)] kr z ((Elr.cons z Elr.nil)) (fun C149 w153 S152 => (yo (S152.rd m1) (yo (S152.rd m4) (y7 S152.im)))) ?_))
 intro a151 C149 w153 S152 ho150
 exact WO.tail z (have S155 := S152.front6; apk R4 fun x156 h0_x156 he_x156 R4 => yav 92 64 (cs_qG z_qG) S155 h_s123 ho150.sl (S155.rd m1) h0_x156 he_x156 z fun a157 c158 w159 C160 S161 ho162 => yf 9 1 [3] z (yaa S161.front1.drop.front4 3 (cs_qC ({ r52 with Grants := x156 }) ({ w_r52 with Grants := ⟨a157, c158⟩ })) fun w167 S166 => yt (sj R4 ▸ yv ⟨I121, a157, c158, C160, rfl, lr, S166.front1.front5.front2.front5.front5.front5, ho162⟩)))
 exact W.skip (sj R4 ▸ yv ⟨I121, a_s123, c_s123, C_s123, rfl, lr, S138, h_s123⟩)
 rintro _ w174 ⟨I143, a_j141, c_j141, C_j141, rfl, L144, S175, h_j141⟩
 exact yl (ye (yah nL3 (ya 0 1 z (yao i124 z (ya 2 1 z (yt (sj R3 ▸ yv ⟨I143, a_j141, c_j141, C_j141, rfl, le, S175, h_j141⟩)))))))
 rintro _ w176 ⟨I121, a_s123, c_s123, C_s123, rfl, L122, S177, h_s123⟩
 refine W.seq (yg nL5 (yf 0 2 [3] z (yj (S177.rf m0) z (ya 3 2 z (yb (yas fun _ => W.exit (yn (yq (yu ?_)))))))))
 obtain ⟨I186, L187, S189, hp188⟩ := yae h_s123 S177.front5
 exact yv ⟨0, z_qC, r52.Version, r52.Tables, r52.Roles, s123, z_qT, I186, zw_qC, w_r52.Tables.a, w_r52.Tables.c, w_r52.Roles.a, w_r52.Roles.c, a_s123, c_s123, zw_qT, sj R2, rfl, le, S189, zok_qC, (up h_r52.Tables), (up h_r52.Roles), hp188, zok_qT⟩
 refine yg nL2 (ya 0 2 z (yb (bsk R2 fun j190 R3 R2 => yaz (J := (fun fr w => ∃ (s233 : Int) (s234 : qC) (s235 : Int) (s236 : List qT) (s237 : List qJ) (s238 : List qG) (s239 : qT), ∃ I192 w_s234 a_s236 c_s236 a_s237 c_s237 a_s238 c_s238 w_s239, (.inr (s233, s234, s235, s236, s237, s238, s239)) = j190 ∧ fr = [(3, Iv p3), (4, Pt b1 0), (5, Pt b5 0), (8, Pt b9 0), (11, Pt b53 0), (12, Pt b59 0), (13, Iv s233)] ∧ I49.Le I192 ∧ St E w I192 (bC b1 p0 w_p0 :: (bS b5 p1 w_p1) :: (bC b9 s234 w_s234) :: (Bx b53 (cs_qC (⟨s235, s236, s237, s238⟩ : qC) (⟨⟨a_s236, c_s236⟩, ⟨a_s237, c_s237⟩, ⟨a_s238, c_s238⟩⟩ : W_qC)) 29) :: (bT b59 s239 w_s239) :: Os) ∧ ok_qC I192 s234 w_s234 ∧ RSl 6 R_qT I192 a_s236 c_s236 s236 ∧ RSl 2 R_qJ I192 a_s237 c_s237 s237 ∧ RSl 5 R_qG I192 a_s238 c_s238 s238 ∧ ok_qT I192 s239 w_s239)) ?_ ?_)))
 refine yz R3 (fun G R3 => ?_) (fun G R3 => ?_)
 refine W.seq (yg nL5 (y6 ((cs_qC p0 w_p0)) (S61.rf m4) z (yf 1 1 [2] z (yj (S61.rf m3) z (bsk R3 fun r199 Xr194 R3 => WO.c1 (r17_At_ok (h_p0.mono le) S61 Xr194) z fun I196 w195 L197 S198 => ya 4 1 z (yb (yz R3 (fun G R3 => ?_) (fun G R3 => ?_))))))))
 refine yg nL3 (yaf 0 124 (vC z_qC zw_qC) (yaa S198.front2 0 (cs_qC z_qC zw_qC) fun w202 S201 => ya 2 1 z (yb (yp (yh (yr ?_))))))
 obtain rfl := sj R3
 refine yr ?_
 obtain rfl := sj R2
 refine yr ?_
 obtain rfl := sj R1
 exact yk (yh (sj D ▸ ya6 _ (S201.rd m0) ⟨I196, zw_qC, rfl, le, S201.d5, zok_qC⟩))
 refine W.skip (ye (have S217 := S198.drew; ybj (l := nL14) kr 12 (KR I196 [bS b5 p1 w_p1, bC b1 p0 w_p0]) qR (.ords nL14 [0, 1, 2, 3, 4, 5, 6, 7, 8, 9, 10, 12, 11, 13] kr kr kr kr kr) kr (yo (S217.rd m3) (yo (S217.rd m4) (y7 S217.im))) ?_))
 generalize World.drew _ = w218 at *
 refine y6 ((cs_qC p0 w_p0)) (rd_c m1 (S217.rd m4)) z (yf 1 1 [1] z (yj (rd_c m1 (S217.rd m4)) z (ya 3 1 z ?_)))
 obtain ⟨x219, R3, Hx219, _, ⟨w_x219, rfl, h_x219⟩, Zx219⟩ := sx I196 h_p0.Tables R3
 refine y0 78 6 Hx219 z (yaw ((cs_qT x219 w_x219)) Zx219 0 (rd_i S217.im) z (yf 6 1 [2] z (yj (rd_c m0 (S217.rd m3)) z ?_)))
 obtain ⟨⟨r225, r226⟩, Xr220, R3⟩ := bsm R3
 refine yai (r17_renamed_ok (h_p0.mono le) h_x219 S217 Xr220) ?_
 rintro _ w221 ⟨I222, w_r225, w_r226, rfl, L223, S224, h_r225, h_r226⟩
 refine ⟨_, rfl, (yo (S224.rd m3) (yo (S224.rd m4) (y7 (S224.im.of_le L223)))), ?_⟩
 exact ya 9 3 z (WO.tail z (yaa S224.front1 0 (cs_qC r225 w_r225) fun w229 S228 => yaa S228.front1 0 (cs_qT r226 w_r226) fun w232 S231 => yt (yv ⟨0, z_qC, r225.Version, r225.Tables, r225.Roles, r225.Grants, r226, I222, zw_qC, w_r225.Tables.a, w_r225.Tables.c, w_r225.Roles.a, w_r225.Roles.c, w_r225.Grants.a, w_r225.Grants.c, w_r226, sj R3, rfl, le, S231.front1.front2.front3.front4, zok_qC, h_r225.Tables, h_r225.Roles, h_r225.Grants, h_r226⟩)))
 have S244 := S61.drew
 refine ybj (l := nL13) kr 11 (KR I49 [bS b5 p1 w_p1, bC b1 p0 w_p0]) qR (.ords nL13 [0, 1, 2, 3, 4, 5, 6, 7, 8, 9, 11, 10, 12] kr kr kr kr kr) kr (yo (S244.rd m3) (yo (S244.rd m4) (y7 S244.im))) ?_
 generalize World.drew _ = w245 at *
 refine y6 ((cs_qC p0 w_p0)) (rd_c m1 (S244.rd m4)) z (yf 1 1 [1] z (yj (rd_c m1 (S244.rd m4)) z (ya 3 1 z ?_)))
 obtain ⟨x246, R3, Hx246, _, ⟨w_x246, rfl, h_x246⟩, Zx246⟩ := sx I49 h_p0.Tables R3
 refine y0 78 6 Hx246 z (yaw ((cs_qT x246 w_x246)) Zx246 0 (rd_i S244.im) z (y6 ((cs_qS p1 w_p1)) (rd_c m0 (S244.rd m3)) z ?_))
 obtain ⟨⟨r252, r253⟩, Xr247, R3⟩ := bsm R3
 refine yai (r17_turned_ok (h_p0.mono le) h_x246 (h_p1.mono le) S244 Xr247) ?_
 rintro _ w248 ⟨I249, w_r252, rfl, L250, S251, h_r252⟩
 refine ⟨_, rfl, (yo (S251.rd m3) (yo (S251.rd m4) (y7 (S251.im.of_le L250)))), ?_⟩
 exact ya 8 3 z (WO.tail z (yaa S251 0 (cs_qT r252 w_r252) fun w255 S254 => ya 12 1 z (yt (yv ⟨r253, z_qC, r52.Version, r52.Tables, r52.Roles, r52.Grants, r252, I249, zw_qC, w_r52.Tables.a, w_r52.Tables.c, w_r52.Roles.a, w_r52.Roles.c, w_r52.Grants.a, w_r52.Grants.c, w_r252, sj R3, rfl, L250, S254.front1.front2.front3.front4, zok_qC, (RSl.mono h_r52.Tables L250), (RSl.mono h_r52.Roles L250), (RSl.mono h_r52.Grants L250), h_r252⟩))))
 rintro _ w260 ⟨s233, s234, s235, s236, s237, s238, s239, I192, w_s234, a_s236, c_s236, a_s237, c_s237, a_s238, c_s238, w_s239, rfl, rfl, L193, S261, h_s234, h_s236, h_s237, h_s238, h_s239⟩
 exact yv ⟨s233, s234, s235, s236, s237, s238, s239, I192, w_s234, a_s236, c_s236, a_s237, c_s237, a_s238, c_s238, w_s239, sj R2, rfl, L193, S261, h_s234, h_s236, h_s237, h_s238, h_s239⟩
 rintro _ w262 ⟨s178, s179, s180, s181, s182, s183, s184, I83, w_s179, a_s181, c_s181, a_s182, c_s182, a_s183, c_s183, w_s184, rfl, rfl, L84, S263, h_s179, h_s181, h_s182, h_s183, h_s184⟩
 exact yv ⟨s178, s179, s180, s181, s182, s183, s184, I83, w_s179, a_s181, c_s181, a_s182, c_s182, a_s183, c_s183, w_s184, sj R1, rfl, L84, S263, h_s179, h_s181, h_s182, h_s183, h_s184⟩
 rintro _ w264 ⟨s69, s70, s71, s72, s73, s74, s75, I65, w_s70, a_s72, c_s72, a_s73, c_s73, a_s74, c_s74, w_s75, rfl, rfl, L66, S265, h_s70, h_s72, h_s73, h_s74, h_s75⟩
 refine yl (ye (W.seq (yg nL7 (ya 0 3 z (yax [3, 4, 5] 6 139 143 (.refl ((s69 == 0) && (p1.Kind != 2))) (fun _ => yf 3 1 [0] z (yj (S265.rf m1) z (ya 5 2 z yam))) (yb (bsk D fun j268 R1 D => yaz (J := JI E I65 [(3, Iv p3), (4, Pt b1 0), (5, Pt b5 0), (8, Pt b9 0), (11, Pt b53 0), (12, Pt b59 0), (13, Iv j268)] (bC b1 p0 w_p0 :: (bS b5 p1 w_p1) :: (bC b9 s70 w_s70) :: (Bx b53 (cs_qC (⟨s71, s72, s73, s74⟩ : qC) (⟨⟨a_s72, c_s72⟩, ⟨a_s73, c_s73⟩, ⟨a_s74, c_s74⟩⟩ : W_qC)) 29) :: (bT b59 s75 w_s75) :: Os)) ?_ ?_)))))))
 refine yz R1 (fun G R1 => ?_) (fun G R1 => ?_)
 refine yah nL4 (y6 ((cs_qC (⟨s71, s72, s73, s74⟩ : qC) (⟨⟨a_s72, c_s72⟩, ⟨a_s73, c_s73⟩, ⟨a_s74, c_s74⟩⟩ : W_qC))) (S265.rf m3) z (y6 ((cs_qT s75 w_s75)) (S265.rf m4) z ?_))
 have hk272 : ok_qC I65 (⟨s71, s72, s73, s74⟩ : qC) (⟨⟨a_s72, c_s72⟩, ⟨a_s73, c_s73⟩, ⟨a_s74, c_s74⟩⟩ : W_qC) := ⟨h_s72, h_s73, h_s74⟩
 exact bsk R1 fun r278 Xr273 R1 => WO.c1 (r17_Sound_ok hk272 h_s75 S265 Xr273) z fun I275 w274 L276 S277 => ya 3 1 z (yt (sj R1 ▸ yv ⟨I275, rfl, L276, S277⟩))
 exact W.skip (sj R1 ▸ yv ⟨I65, rfl, lr, S265⟩)
 rintro _ w279 ⟨I270, rfl, L271, S280⟩
 refine ye (W.seq (yg nL8 (ya 0 3 z (yax [3, 4, 5, 6] 7 149 154 (.refl ((j268 == 0) && (decide (p0.Version ≥ p3)))) (fun _ => yf 3 1 [0] z (yj (S280.rf m0) z (ya 5 3 z yam))) (yb (bsk D fun j283 R1 D => yaz (J := JI E I270 [(4, Pt b1 0), (5, Pt b5 0), (8, Pt b9 0), (11, Pt b53 0), (12, Pt b59 0), (13, Iv j283)] (bC b1 p0 w_p0 :: (bS b5 p1 w_p1) :: (bC b9 s70 w_s70) :: (Bx b53 (cs_qC (⟨s71, s72, s73, s74⟩ : qC) (⟨⟨a_s72, c_s72⟩, ⟨a_s73, c_s73⟩, ⟨a_s74, c_s74⟩⟩ : W_qC)) 29) :: (bT b59 s75 w_s75) :: Os)) ?_ ?_))))))
 refine yz R1 (fun G R1 => ?_) (fun G R1 => ?_)
 exact yah [0] (ya 0 1 z (yt (sj R1 ▸ yv ⟨I270, rfl, lr, S280⟩)))
 exact W.skip (sj R1 ▸ yv ⟨I270, rfl, lr, S280⟩)
 rintro _ w287 ⟨I285, rfl, L286, S288⟩
 refine ye (W.seq (yg nL2 (ya 0 2 z (yb (yz D (fun G D => ?_) (fun G D => ?_))))))
 exact yg nL4 (yaf 0 157 (vC z_qC zw_qC) (ya 1 1 z (yaa S288.front2 0 (cs_qC z_qC zw_qC) fun w291 S290 => ya 3 1 z (yb (yp (yh (sj D ▸ ya6 _ (S290.rd m0) ⟨I285, zw_qC, rfl, le, S290.d5, zok_qC⟩)))))))
 refine W.skip (ye (W.seq (yg nL3 (yf 0 1 [0] z (yj (S288.rf m1) z (ya 2 1 z (yb (bsk D fun j297 R1 D => yaz (J := (fun fr w => ∃ (s315 : Int) (s316 : List qT) (s317 : List qJ) (s318 : List qG) (s319 : qT), ∃ I299 a_s316 c_s316 a_s317 c_s317 a_s318 c_s318 w_s319, (s315, s316, s317, s318, s319) = j297 ∧ fr = [(4, Pt b1 0), (8, Pt b9 0), (11, Pt b53 0)] ∧ I285.Le I299 ∧ St E w I299 (bC b1 p0 w_p0 :: (bC b9 s70 w_s70) :: (Bx b53 (cs_qC (⟨s315, s316, s317, s318⟩ : qC) (⟨⟨a_s316, c_s316⟩, ⟨a_s317, c_s317⟩, ⟨a_s318, c_s318⟩⟩ : W_qC)) 29) :: Os) ∧ RSl 6 R_qT I299 a_s316 c_s316 s316 ∧ RSl 2 R_qJ I299 a_s317 c_s317 s317 ∧ RSl 5 R_qG I299 a_s318 c_s318 s318 ∧ ok_qT I299 s319 w_s319)) ?_ ?_))))))))
 refine yz R1 (fun G R1 => ?_) (fun G R1 => ?_)
 refine yg nL5 (yf 0 1 [0] z (yj (S288.rf m0) z (yf 2 2 [2] z (yaa S288.front4 2 (cs_qT ({ s75 with Version := (w64 (p0.Version + 1)) }) w_s75) fun w303 S302 => yb (yah nL4 (y6 ((cs_qC (⟨s71, s72, s73, s74⟩ : qC) (⟨⟨a_s72, c_s72⟩, ⟨a_s73, c_s73⟩, ⟨a_s74, c_s74⟩⟩ : W_qC))) (S302.rf m4) z (y6 ((cs_qT ({ s75 with Version := (w64 (p0.Version + 1)) }) w_s75)) (S302.rf m0) z ?_)))))))
 have hk304 : ok_qC I285 (⟨s71, s72, s73, s74⟩ : qC) (⟨⟨a_s72, c_s72⟩, ⟨a_s73, c_s73⟩, ⟨a_s74, c_s74⟩⟩ : W_qC) := ⟨(RSl.mono h_s72 (L271.trans L286)), (RSl.mono h_s73 (L271.trans L286)), (RSl.mono h_s74 (L271.trans L286))⟩
 have hk305 : ok_qT I285 ({ s75 with Version := (w64 (p0.Version + 1)) }) w_s75 := ⟨(RSl.mono h_s75.Cols (L271.trans L286)), (RSl.mono h_s75.Cons (L271.trans L286)), (RSl.mono h_s75.Idx (L271.trans L286))⟩
 refine bsk R1 fun r311 Xr306 R1 => yai (r17_with_ok hk304 hk305 S302 Xr306) ?_
 rintro _ w307 ⟨I308, w_r311, rfl, L309, S310, h_r311⟩
 refine cv (yaa S310.front4 0 (cs_qC r311 w_r311) fun w314 S313 => yt ?_)
 have hk320 : ok_qT I308 ({ s75 with Version := (w64 (p0.Version + 1)) }) w_s75 := ⟨(RSl.mono h_s75.Cols ((L271.trans L286).trans L309)), (RSl.mono h_s75.Cons ((L271.trans L286).trans L309)), (RSl.mono h_s75.Idx ((L271.trans L286).trans L309))⟩
 exact yv ⟨r311.Version, r311.Tables, r311.Roles, r311.Grants, { s75 with Version := (w64 (p0.Version + 1)) }, I308, w_r311.Tables.a, w_r311.Tables.c, w_r311.Roles.a, w_r311.Roles.c, w_r311.Grants.a, w_r311.Grants.c, w_s75, sj R1, rfl, L309, S313.front1.drop.front2.drop.front2.front2, h_r311.Tables, h_r311.Roles, h_r311.Grants, hk320⟩
 exact W.skip (yv ⟨s71, s72, s73, s74, s75, I285, a_s72, c_s72, a_s73, c_s73, a_s74, c_s74, w_s75, sj R1, rfl, lr, S288.front1.drop.front3.drop, (up h_s72), (up h_s73), (up h_s74), (h_s75.mono le)⟩)
 rintro _ w331 ⟨s315, s316, s317, s318, s319, I299, a_s316, c_s316, a_s317, c_s317, a_s318, c_s318, w_s319, rfl, rfl, L300, S332, h_s316, h_s317, h_s318, h_s319⟩
 refine ye (yg nL5 (yf 0 1 [0] z (yj (S332.rf m0) z (yf 2 2 [0] z (yaa S332.front2 0 (cs_qC (⟨(w64 (p0.Version + 1)), s316, s317, s318⟩ : qC) (⟨⟨a_s316, c_s316⟩, ⟨a_s317, c_s317⟩, ⟨a_s318, c_s318⟩⟩ : W_qC)) fun w335 S334 => yac nL3 (y6 ((cs_qC (⟨(w64 (p0.Version + 1)), s316, s317, s318⟩ : qC) (⟨⟨a_s316, c_s316⟩, ⟨a_s317, c_s317⟩, ⟨a_s318, c_s318⟩⟩ : W_qC))) (S334.rf m0) z (yaa S334.front2 0 (cs_qC (⟨(w64 (p0.Version + 1)), s316, s317, s318⟩ : qC) (⟨⟨a_s316, c_s316⟩, ⟨a_s317, c_s317⟩, ⟨a_s318, c_s318⟩⟩ : W_qC)) fun w338 S337 => ya 2 1 z (yb (yp ?_)))))))))
 have hk342 : ok_qC I299 (⟨(w64 (p0.Version + 1)), s316, s317, s318⟩ : qC) (⟨⟨a_s316, c_s316⟩, ⟨a_s317, c_s317⟩, ⟨a_s318, c_s318⟩⟩ : W_qC) := ⟨h_s316, h_s317, h_s318⟩
 exact sj D ▸ ya6 _ (S337.rd m0) ⟨I299, (⟨⟨a_s316, c_s316⟩, ⟨a_s317, c_s317⟩, ⟨a_s318, c_s318⟩⟩ : W_qC), rfl, le, S337.d3, hk342⟩
noncomputable def law19_first  : Option qC := (r17_New).bind (fun r10 => (forE (fun (i32 : Nat) (s31 : qC) => ((idx ([(⟨#[97, 110, 110]⟩ : By8), (⟨#[98, 111, 98]⟩ : By8), (⟨#[99, 121]⟩ : By8)] : List By8) (i32 : Int)).bind (fun x46 => (r19_Make s31 ({ z_qS with Kind := 10, Name := x46 }) (⟨#[114, 111, 111, 116]⟩ : By8) 1000).bind (fun (r57, r58) => some (r57, r58)))).bind (fun ((s61, s62) : qC × Int) => ((bif (s62 == 0) then some s61 else some s31)).bind (fun (j101 : qC) => some j101))) 3 0 r10).bind (fun s31 => (r17_Make s31 ({ z_qS with Kind := 1, Table := (⟨#[116]⟩ : By8), Cols := ([{ z_qL with Name := (⟨#[97]⟩ : By8), Type_ := 1 }] : List qL) }) (⟨#[97, 110, 110]⟩ : By8) 1000).bind (fun (r134, r135) => ((bif (r135 == 0) then some r134 else some s31)).bind (fun (j142 : qC) => some j142))))
theorem law19_first_ok (hS : St E w I Os) {r : qC} (D : law19_first = some r) :
    Calls P 30 #[] w (fun e w' => ∃ I' w_rw0, e = .returned (vC r w_rw0) ∧ I.Le I' ∧ St E w' I' Os ∧ ok_qC I' r w_rw0) := by
 refine calls_W (fn := Tryz.f30) rfl rfl rfl ?_
 unfold law19_first at D
 refine yg [0] (yab hS (cs_qC z_qC zw_qC) 29 z fun b1 w4 S3 => yac nL3 (bsk D fun r10 Xr5 D => yai (r17_New_ok  S3 Xr5) ?_))
 rintro _ w6 ⟨I7, w_r10, rfl, L8, S9, h_r10⟩
 refine cv (yab S9 (cs_qC z_qC zw_qC) 29 z fun b11 w14 S13 => yaa S13 0 (cs_qC r10 w_r10) fun w16 S15 => yac nL2 (yad (rel := RStr) (xs := ([(⟨#[97, 110, 110]⟩ : By8), (⟨#[98, 111, 98]⟩ : By8), (⟨#[99, 121]⟩ : By8)] : List By8)) S15 z kr z 9 1 [[(.string (⟨#[97, 110, 110]⟩ : By8))], [(.string (⟨#[98, 111, 98]⟩ : By8))], [(.string (⟨#[99, 121]⟩ : By8))]] kr z ((Elr.cons z (Elr.cons z (Elr.cons z Elr.nil)))) tv ?_))
 intro a20 C18 w22 S21 ho19
 obtain ⟨I24, L25, S27, hp26⟩ := yae ho19 S21
 refine ya 1 1 z (yb (W.seq (yg [0] (ya 0 1 z (yb (ym (bsk D fun s31 hloop33 D => have hlt38 := (hp26).len_lt; W.wk (yay (m := 3) hloop33 (fun (i32 : Nat) (s31 : qC) fr w => ∃ I29 w_s31, fr = [(0, Pt b1 0), (1, Pt b11 0), (2, .slice a20 3 3), (3, Nv i32)] ∧ I24.Le I29 ∧ St E w I29 (bC b1 z_qC zw_qC :: (bC b11 s31 w_s31) :: Os) ∧ ok_qC I29 s31 w_s31) ⟨I24, w_r10, rfl, lr, S27.front1, (h_r10.mono L25)⟩ ?_ ?_))))))))
 rintro i32 s31 _ w35 hi39 ⟨I29, w_s31, rfl, L30, S36, h_s31⟩ x37 R1
 refine W.seq (yg nL4 (ya 0 4 z (yb (yat fun _ => W.skip (ye (W.seq (ym (W.seq (bsk R1 fun j40 R2 R1 => yaz (J := (fun fr w => ∃ (s61 : qC) (s62 : Int), ∃ I42 w_s61 b_s61, (s61, s62) = j40 ∧ fr = [(0, Pt b1 0), (1, Pt b11 0), (2, .slice a20 3 3), (3, Nv i32), (4, Pt b_s61 0), (5, Iv s62)] ∧ I29.Le I42 ∧ St E w I42 (bC b1 z_qC zw_qC :: (bC b11 s31 w_s31) :: (bC b_s61 s61 w_s61) :: Os) ∧ ok_qC I42 s61 w_s61)) ?_ ?_)))))))))
 have S44 := S36.drew
 refine W.draws (.split 10 5 (.leaf [0, 1, 2, 3, 4, 10, 5, 6, 7, 8, 9, 11, 12]) (.split 10 6 (.leaf [0, 1, 2, 3, 4, 5, 10, 6, 7, 8, 9, 11, 12]) (.leaf nL13))) 11 (KR I29 [bC b11 s31 w_s31]) qR (.ords nL13 [0, 1, 2, 3, 4, 5, 6, 7, 8, 10, 11, 9, 12] kr kr kr kr kr) kr (yo (S44.rd m1) (y7 S44.im)) ?_
 generalize World.drew _ = w45 at *
 refine ⟨?_, ?_⟩
 show WO _ _ _ _ _ _ _ [0, 1, 2, 3, 4, 10, 5, 6, 7, 8, 9, 11, 12] _ _
 refine y6 ((cs_qC s31 w_s31)) (rd_c m0 (S44.rd m1)) z (ya 1 2 z (y8 18 z (show Value.slice a20 3 3 = Value.slice a20 ([(⟨#[97, 110, 110]⟩ : By8), (⟨#[98, 111, 98]⟩ : By8), (⟨#[99, 121]⟩ : By8)] : List By8).length 3 from z) ?_))
 obtain ⟨x46, R2, Hx46, _, rfl, Zx46⟩ := sx I29 hp26 R2
 refine y0 9 1 Hx46 z (yan Zx46 (rd_i S44.im) z (ybk S44 z kr z (.cells (cs_qC z_qC zw_qC).toArray 29 (0, 0)) (fun b => .pointer (some ⟨b, 0, none⟩)) kr (fun b47 w50 S49 => (yo (S49.rd m2) (y7 S49.im))) ?_))
 intro b47 w50 S49
 refine yaf 5 22 (.agg (cs_qS ({ z_qS with Kind := 10, Name := x46 }) zw_qS).toArray) ?_
 have hk51 : ok_qS I29 ({ z_qS with Kind := 10, Name := x46 }) zw_qS := ⟨SlAt.nil, SlAt.nil, SlAt.nil, SlAt.nil, zok_qS.Where, SlAt.nil, SlAt.nil, SlAt.nil⟩
 obtain ⟨⟨r57, r58⟩, Xr52, R2⟩ := bsm R2
 refine yai (r19_Make_ok h_s31 hk51 S49 Xr52) ?_
 rintro _ w53 ⟨I54, w_r57, rfl, L55, S56, h_r57⟩
 refine ⟨_, rfl, (yo (S56.rd m2) (y7 (S56.im.of_le L55))), ?_⟩
 exact ya 7 3 z (WO.tail z (yaa S56 0 (cs_qC r57 w_r57) fun w60 S59 => ya 12 1 z (yt (yv ⟨r57, r58, I54, w_r57, b47, sj R2, rfl, L55, S59.front2.front2, h_r57⟩))))
 refine ⟨?_, ?_⟩
 show WO _ _ _ _ _ _ _ [0, 1, 2, 3, 4, 5, 10, 6, 7, 8, 9, 11, 12] _ _
 refine y6 ((cs_qC s31 w_s31)) (rd_c m0 (S44.rd m1)) z (ya 1 2 z (y8 18 z (show Value.slice a20 3 3 = Value.slice a20 ([(⟨#[97, 110, 110]⟩ : By8), (⟨#[98, 111, 98]⟩ : By8), (⟨#[99, 121]⟩ : By8)] : List By8).length 3 from z) ?_))
 obtain ⟨x65, R2, Hx65, _, rfl, Zx65⟩ := sx I29 hp26 R2
 refine y0 9 1 Hx65 z (yan Zx65 (rd_i S44.im) z (yaf 5 22 (.agg (cs_qS ({ z_qS with Kind := 10, Name := x65 }) zw_qS).toArray) (ybk S44 z kr z (.cells (cs_qC z_qC zw_qC).toArray 29 (0, 0)) (fun b => .pointer (some ⟨b, 0, none⟩)) kr (fun b66 w69 S68 => (yo (S68.rd m2) (y7 S68.im))) ?_)))
 intro b66 w69 S68
 have hk70 : ok_qS I29 ({ z_qS with Kind := 10, Name := x65 }) zw_qS := ⟨SlAt.nil, SlAt.nil, SlAt.nil, SlAt.nil, zok_qS.Where, SlAt.nil, SlAt.nil, SlAt.nil⟩
 obtain ⟨⟨r76, r77⟩, Xr71, R2⟩ := bsm R2
 refine yai (r19_Make_ok h_s31 hk70 S68 Xr71) ?_
 rintro _ w72 ⟨I73, w_r76, rfl, L74, S75, h_r76⟩
 refine ⟨_, rfl, (yo (S75.rd m2) (y7 (S75.im.of_le L74))), ?_⟩
 exact ya 7 3 z (WO.tail z (yaa S75 0 (cs_qC r76 w_r76) fun w79 S78 => ya 12 1 z (yt (yv ⟨r76, r77, I73, w_r76, b66, sj R2, rfl, L74, S78.front2.front2, h_r76⟩))))
 show WO _ _ _ _ _ _ _ nL13 _ _
 refine y6 ((cs_qC s31 w_s31)) (rd_c m0 (S44.rd m1)) z (ya 1 2 z (y8 18 z (show Value.slice a20 3 3 = Value.slice a20 ([(⟨#[97, 110, 110]⟩ : By8), (⟨#[98, 111, 98]⟩ : By8), (⟨#[99, 121]⟩ : By8)] : List By8).length 3 from z) ?_))
 obtain ⟨x82, R2, Hx82, _, rfl, Zx82⟩ := sx I29 hp26 R2
 refine y0 9 1 Hx82 z (yan Zx82 (rd_i S44.im) z (yaf 5 22 (.agg (cs_qS ({ z_qS with Kind := 10, Name := x82 }) zw_qS).toArray) ?_))
 have hk83 : ok_qS I29 ({ z_qS with Kind := 10, Name := x82 }) zw_qS := ⟨SlAt.nil, SlAt.nil, SlAt.nil, SlAt.nil, zok_qS.Where, SlAt.nil, SlAt.nil, SlAt.nil⟩
 obtain ⟨⟨r89, r90⟩, Xr84, R2⟩ := bsm R2
 refine yai (r19_Make_ok h_s31 hk83 S44 Xr84) ?_
 rintro _ w85 ⟨I86, w_r89, rfl, L87, S88, h_r89⟩
 refine ⟨_, rfl, (yo (S88.rd m1) (y7 (S88.im.of_le L87))), ?_⟩
 refine ya 7 3 z (ybk S88 z kr z (.cells (cs_qC z_qC zw_qC).toArray 29 (0, 0)) (fun b => .pointer (some ⟨b, 0, none⟩)) kr (fun b91 w94 S93 => (yo (S93.rd m2) (y7 (S93.im.of_le L87)))) ?_)
 intro b91 w94 S93
 exact WO.tail z (yaa S93 0 (cs_qC r89 w_r89) fun w96 S95 => ya 12 1 z (yt (yv ⟨r89, r90, I86, w_r89, b91, sj R2, rfl, L87, S95.front2.front2, h_r89⟩)))
 rintro _ w99 ⟨s61, s62, I42, w_s61, b_s61, rfl, rfl, L43, S100, h_s61⟩
 refine ye (yg nL2 (ya 0 2 z (yb (bsk R1 fun j101 R2 R1 => yaz (J := (fun fr w => ∃ I103 w_j101, fr = [(0, Pt b1 0), (1, Pt b11 0), (2, .slice a20 3 3), (3, Nv i32)] ∧ I42.Le I103 ∧ St E w I103 (bC b1 z_qC zw_qC :: (bC b11 j101 w_j101) :: Os) ∧ ok_qC I103 j101 w_j101)) ?_ ?_))))
 refine yz R2 (fun G R2 => ?_) (fun G R2 => ?_)
 exact yah nL2 (y6 ((cs_qC s61 w_s61)) (S100.rf m2) z (yaa S100.front1 0 (cs_qC s61 w_s61) fun w107 S106 => yt (sj R2 ▸ yv ⟨I42, w_s61, rfl, lr, S106.front2.drop.front1, h_s61⟩)))
 exact W.skip (sj R2 ▸ yv ⟨I42, w_s31, rfl, lr, S100.front2.drop, (h_s31.mono L43)⟩)
 rintro _ w113 ⟨I103, w_j101, rfl, L104, S114, h_j101⟩
 exact yl (ye (yah nL3 (ya 0 1 z (yao i32 z (ya 2 1 z (yt (sj R1 ▸ yv ⟨I103, w_j101, rfl, le, S114, h_j101⟩)))))))
 rintro _ w115 ⟨I29, w_s31, rfl, L30, S116, h_s31⟩
 refine W.seq (yg nL4 (ya 0 4 z (yb (yas fun _ => W.exit (yn (yq (yu (ye (yg nL11 (y6 ((cs_qC s31 w_s31)) (S116.rf m1) z (yaf 1 31 (.agg (cs_qL ({ z_qL with Name := (⟨#[97]⟩ : By8), Type_ := 1 })).toArray) (yad (rel := R_qL) (xs := ([{ z_qL with Name := (⟨#[97]⟩ : By8), Type_ := 1 }] : List qL)) S116 z kr z 111 3 [(cs_qL ({ z_qL with Name := (⟨#[97]⟩ : By8), Type_ := 1 }))] kr z ((Elr.cons z Elr.nil)) tv ?_))))))))))))
 intro a120 C118 w122 S121 ho119
 obtain ⟨I124, L125, S127, hp126⟩ := yae ho119 S121
 refine yaf 3 33 (.agg #[(Iv 1), (.string (⟨#[116]⟩ : By8)), (.string eB), (.string eB), (.slice a120 1 1), (.slice none 0 0), (.slice none 0 0), (.slice none 0 0), (Iv 0), (Iv 0), (Iv 0), (Iv 0), (.string eB), (.string eB), (.slice none 0 0), (.slice none 0 0), (.slice none 0 0), (Iv 0), (Iv 0), (.bool false), (.slice none 0 0)]) ?_
 have hk128 : ok_qS I124 ({ z_qS with Kind := 1, Table := (⟨#[116]⟩ : By8), Cols := ([{ z_qL with Name := (⟨#[97]⟩ : By8), Type_ := 1 }] : List qL) }) ({ zw_qS with Cols := ⟨a120, 1⟩ }) := ⟨hp126, SlAt.nil, SlAt.nil, SlAt.nil, zok_qS.Where, SlAt.nil, SlAt.nil, SlAt.nil⟩
 obtain ⟨⟨r134, r135⟩, Xr129, D⟩ := bsm D
 refine yai (r17_Make_ok (h_s31.mono L125) hk128 S127 Xr129) ?_
 rintro _ w130 ⟨I131, w_r134, rfl, L132, S133, h_r134⟩
 refine cv (ya 5 3 z (yab S133 (cs_qC z_qC zw_qC) 29 z fun b136 w139 S138 => yaa S138 0 (cs_qC r134 w_r134) fun w141 S140 => ya 10 1 z (yb (W.seq (yg nL2 (ya 0 2 z (yb (bsk D fun j142 R1 D => yaz (J := (fun fr w => ∃ I144 w_j142, fr = [(0, Pt b1 0), (1, Pt b11 0)] ∧ I131.Le I144 ∧ St E w I144 (bC b1 z_qC zw_qC :: (bC b11 j142 w_j142) :: Os) ∧ ok_qC I144 j142 w_j142)) ?_ ?_))))))))
 refine yz R1 (fun G R1 => ?_) (fun G R1 => ?_)
 exact yah nL2 (y6 ((cs_qC r134 w_r134)) (S140.rf m0) z (yaa S140.front2 0 (cs_qC r134 w_r134) fun w148 S147 => yt (sj R1 ▸ yv ⟨I131, w_r134, rfl, lr, S147.front1.drop.front1, h_r134⟩)))
 exact W.skip (sj R1 ▸ yv ⟨I131, w_s31, rfl, lr, S140.drop, (h_s31.mono le)⟩)
 rintro _ w153 ⟨I144, w_j142, rfl, L145, S154, h_j142⟩
 exact ye (yg nL2 (y6 ((cs_qC j142 w_j142)) (S154.rf m1) z (yaa S154 0 (cs_qC j142 w_j142) fun w156 S155 => yb (yp (sj D ▸ En.c1 _ (S155.rd m0) ⟨I144, w_j142, rfl, le, S155.d2, h_j142⟩)))))
noncomputable def law19_Next (p0 : qC) (p1 : law19_Act) : Option (qC × Int) := (r19_Make p0 p1.S p1.By 1000).bind (fun (r18, r19) => ((bif (decide (p1.S.Kind < 10)) then (r17_Make p0 p1.S p1.By 1000).bind (fun (r35, r36) => some (r36, r35)) else some (r19, r18))).bind (fun ((s39, s40) : Int × qC) => (bif (s39 != 0) then some (p0, s39) else some (s40, s39))))
theorem law19_Next_ok {p0 : qC} {p1 : law19_Act} {w_p0 : W_qC} {w_p1 : W_law19_Act} (h_p0 : ok_qC I p0 w_p0) (h_p1 : ok_law19_Act I p1 w_p1) (hS : St E w I Os) {r : qC × Int} (D : law19_Next p0 p1 = some r) :
    Calls P 9 #[(vC p0 w_p0), (.agg (cs_law19_Act p1 w_p1).toArray)] w (fun e w' => ∃ I' w_rw0, e = .returned (.tuple #[(vC r.1 w_rw0), (Iv r.2)]) ∧ I.Le I' ∧ St E w' I' Os ∧ ok_qC I' r.1 w_rw0) := by
 refine calls_W (fn := Tryz.f9) rfl rfl rfl ?_
 unfold law19_Next at D
 refine yg nL4 (yab hS (cs_qC p0 w_p0) 29 z fun b1 w4 S3 => yab S3 (cs_law19_Act p1 w_p1) 48 z fun b5 w8 S7 => yab S7 (cs_qC z_qC zw_qC) 29 z fun b9 w12 S11 => ya 3 1 z (yac nL12 (y6 ((cs_qC p0 w_p0)) (S11.rf m2) z (yf 1 1 [0] z (y6 ((cs_qS p1.S w_p1.S)) (S11.rf m1) z (yf 3 1 [21] z (yj (S11.rf m1) z ?_)))))))
 obtain ⟨⟨r18, r19⟩, Xr13, D⟩ := bsm D
 refine yai (r19_Make_ok h_p0 h_p1.S S11 Xr13) ?_
 rintro _ w14 ⟨I15, w_r18, rfl, L16, S17, h_r18⟩
 refine cv (ya 6 3 z (yab S17 (cs_qC z_qC zw_qC) 29 z fun b20 w23 S22 => yaa S22 0 (cs_qC r18 w_r18) fun w25 S24 => ya 11 1 z (yb (W.seq (yg nL4 (yf 0 2 [0, 0] z (yj (S24.rf m2) z (ya 3 1 z (yb (bsk D fun j26 R1 D => yaz (J := (fun fr w => ∃ (s39 : Int) (s40 : qC), ∃ I28 w_s40, (s39, s40) = j26 ∧ fr = [(2, Pt b1 0), (4, Pt b9 0), (6, Pt b20 0), (7, Iv s39)] ∧ I15.Le I28 ∧ St E w I28 (bC b1 p0 w_p0 :: (bC b9 z_qC zw_qC) :: (bC b20 s40 w_s40) :: Os) ∧ ok_qC I28 s40 w_s40)) ?_ ?_))))))))))
 refine yz R1 (fun G R1 => ?_) (fun G R1 => ?_)
 refine yah nL11 (y6 ((cs_qC p0 w_p0)) (S24.rf m3) z (yf 1 1 [0] z (y6 ((cs_qS p1.S w_p1.S)) (S24.rf m2) z (yf 3 1 [21] z (yj (S24.rf m2) z ?_)))))
 obtain ⟨⟨r35, r36⟩, Xr30, R1⟩ := bsm R1
 refine yai (r17_Make_ok (h_p0.mono L16) (h_p1.S.mono L16) S24 Xr30) ?_
 rintro _ w31 ⟨I32, w_r35, rfl, L33, S34, h_r35⟩
 exact cv (ya 6 3 z (yaa S34 0 (cs_qC r35 w_r35) fun w38 S37 => ya 10 1 z (yt (yv ⟨r36, r35, I32, w_r35, sj R1, rfl, L33, S37.front2.drop.front1.front2, h_r35⟩))))
 exact W.skip (yv ⟨r19, r18, I15, w_r18, sj R1, rfl, lr, S24.front2.drop.front1.front2, h_r18⟩)
 rintro _ w49 ⟨s39, s40, I28, w_s40, rfl, rfl, L29, S50, h_s40⟩
 refine ye (W.seq (yg nL2 (ya 0 2 z (yb (yz D (fun G D => ?_) (fun G D => ?_))))))
 exact yg nL4 (y6 ((cs_qC p0 w_p0)) (S50.rf m0) z (ya 1 1 z (yaa S50.front1 0 (cs_qC p0 w_p0) fun w53 S52 => ya 3 1 z (yb (yp (yh (sj D ▸ ya6 _ (S52.rd m0) ⟨I28, w_p0, rfl, le, S52.d3, (h_p0.mono le)⟩)))))))
 exact W.skip (ye (yg nL4 (y6 ((cs_qC s40 w_s40)) (S50.rf m2) z (ya 1 1 z (yaa S50.front1 0 (cs_qC s40 w_s40) fun w59 S58 => ya 3 1 z (yb (yp (sj D ▸ ya6 _ (S58.rd m0) ⟨I28, w_s40, rfl, le, S58.d3, h_s40⟩))))))))
noncomputable def law19_Grown (p0 : List law19_Act) : Option qC := (law19_first).bind (fun r10 => (forE (fun (i21 : Nat) (s20 : qC) => (idx p0 (i21 : Int)).bind (fun x31 => (law19_Next s20 x31).bind (fun (r37, r38) => some r37))) p0.length 0 r10).bind (fun s20 => some s20))
theorem law19_Grown_ok {p0 : List law19_Act} {a_p0 : Option Addr} {c_p0 : Nat} (h_p0 : RSl 22 R_law19_Act I a_p0 c_p0 p0) (hS : St E w I Os) {r : qC} (D : law19_Grown p0 = some r) :
    Calls P 8 #[(Sl a_p0 p0 c_p0)] w (fun e w' => ∃ I' w_rw0, e = .returned (vC r w_rw0) ∧ I.Le I' ∧ St E w' I' Os ∧ ok_qC I' r w_rw0) := by
 refine calls_W (fn := Tryz.f8) rfl rfl rfl ?_
 unfold law19_Grown at D
 refine yg [0] (yab hS (cs_qC z_qC zw_qC) 29 z fun b1 w4 S3 => yac nL3 (bsk D fun r10 Xr5 D => yai (law19_first_ok  S3 Xr5) ?_))
 rintro _ w6 ⟨I7, w_r10, rfl, L8, S9, h_r10⟩
 refine cv (yab S9 (cs_qC z_qC zw_qC) 29 z fun b11 w14 S13 => yaa S13 0 (cs_qC r10 w_r10) fun w16 S15 => yb (W.seq (yg [0] (ya 0 1 z (yb (ym (bsk D fun s20 hloop22 D => have hlt27 := ((RSl.mono h_p0 L8)).len_lt; W.wk (yay (m := p0.length) hloop22 (fun (i21 : Nat) (s20 : qC) fr w => ∃ I18 w_s20, fr = [(0, Sl a_p0 p0 c_p0), (2, Pt b1 0), (3, Pt b11 0), (4, Nv i21)] ∧ I7.Le I18 ∧ St E w I18 (bC b1 z_qC zw_qC :: (bC b11 s20 w_s20) :: Os) ∧ ok_qC I18 s20 w_s20) ⟨I7, w_r10, rfl, lr, S15.front1, h_r10⟩ ?_ ?_))))))))
 rintro i21 s20 _ w24 hi28 ⟨I18, w_s20, rfl, L19, S25, h_s20⟩ x26 R1
 refine W.seq (yg nL4 (ya 0 4 z (yb (yat fun _ => W.skip (ye (W.seq (ym (have S29 := S25.drew; ybj (l := nL10) kr 9 (KR I18 [bC b11 s20 w_s20]) qR (.ords nL10 [0, 1, 2, 3, 4, 5, 6, 7, 9, 8] kr kr kr kr kr) kr (yo (S29.rd m1) (y7 S29.im)) ?_))))))))
 generalize World.drew _ = w30 at *
 refine y6 ((cs_qC s20 w_s20)) (rd_c m0 (S29.rd m1)) z (ya 1 2 z ?_)
 obtain ⟨x31, R1, Hx31, _, ⟨w_x31, rfl, h_x31⟩, Zx31⟩ := sx I18 h_p0 R1
 refine y0 48 22 Hx31 z (yaw ((cs_law19_Act x31 w_x31)) Zx31 0 (rd_i S29.im) z ?_)
 obtain ⟨⟨r37, r38⟩, Xr32, R1⟩ := bsm R1
 refine yai (law19_Next_ok h_s20 h_x31 S29 Xr32) ?_
 rintro _ w33 ⟨I34, w_r37, rfl, L35, S36, h_r37⟩
 refine ⟨_, rfl, (yo (S36.rd m1) (y7 (S36.im.of_le L35))), ?_⟩
 exact ya 6 3 z (WO.tail z (yaa S36.front1 0 (cs_qC r37 w_r37) fun w41 S40 => yt (yl (ye (yah nL3 (ya 0 1 z (yao i21 z (ya 2 1 z (yt (sj R1 ▸ yv ⟨I34, w_r37, rfl, le, S40.front1, h_r37⟩))))))))))
 rintro _ w43 ⟨I18, w_s20, rfl, L19, S44, h_s20⟩
 exact W.seq (yg nL4 (ya 0 4 z (yb (yas fun _ => W.exit (yn (yq (yu (ye (yg nL2 (y6 ((cs_qC s20 w_s20)) (S44.rf m1) z (yaa S44 0 (cs_qC s20 w_s20) fun w46 S45 => yb (yp (sj D ▸ En.c1 _ (S45.rd m0) ⟨I18, w_s20, rfl, le, S45.d2, h_s20⟩)))))))))))))
noncomputable def r22_into (p0 : List By8) (p1 : By8) : Option (List By8) := (loopO (fun (s4 : Int) => ((bif (decide (s4 < (p0.length : Int))) then (idx p0 s4).bind (fun x13 => some (sLt x13 p1)) else some false)).bind (fun (j9 : Bool) => (bif j9 then some (.inl (w64 (s4 + 1))) else some (.inr s4)))) 0).bind (fun (s17 : Int) => ((bif (decide (s17 < (p0.length : Int))) then (idx p0 s17).bind (fun x22 => some (sEq x22 p1)) else some false)).bind (fun (j18 : Bool) => (bif j18 then some p0 else (sub p0 0 s17).bind (fun x25 => (app 16 ([] : List By8) x25).bind (fun x28 => (app 16 x28 ([p1] : List By8)).bind (fun x43 => (sub p0 s17 (p0.length : Int)).bind (fun x52 => (app 16 x43 x52).bind (fun x53 => some x53))))))))
theorem r22_into_ok {p0 : List By8} {p1 : By8} {a_p0 : Option Addr} {c_p0 : Nat} (h_p0 : RSl 1 RStr I a_p0 c_p0 p0) (hS : St E w I Os) {r : (List By8)} (D : r22_into p0 p1 = some r) :
    Calls P 38 #[(Sl a_p0 p0 c_p0), (.string p1)] w (fun e w' => ∃ (I' : Mem) (ra0 : Option Addr) (rc0 : Nat), e = .returned (Sl ra0 r rc0) ∧ I.Le I' ∧ St E w' I' Os ∧ RSl 1 RStr I' ra0 rc0 r) := by
 refine calls_W (fn := Tryz.f38) rfl rfl rfl ?_
 unfold r22_into at D
 refine yg [0] (yaf 0 4 (.slice none 0 0) (yac [0] (ya 0 1 z (yb (W.seq (ym (bsk D fun t1 hloop5 D => W.wk (ya8 hloop5 (fun (s4 : Int) => JI E I [(0, Sl a_p0 p0 c_p0), (1, .string p1), (5, Iv s4)] Os) ⟨I, rfl, lr, hS⟩ ?_))))))))
 rintro s4 _ w6 ⟨I2, rfl, L3, S7⟩ x8 R1 hext1
 refine W.seq (yg nL12 (ya 0 5 z (bsk R1 fun j9 R2 R1 => yal (l1 := [5, 6, 7, 8, 9, 10, 11]) (J := JI E I2 [(0, Sl a_p0 p0 c_p0), (1, .string p1), (5, Iv s4), (18, .bool j9)] Os) ?_ ?_)))
 refine yak R2 (fun G R2 => ?_) (fun G R2 => ?_)
 refine yy 11 G (ya 5 2 z ?_)
 obtain ⟨x13, R2, Hx13, _, rfl, Zx13⟩ := sx I2 h_p0 R2
 exact y0 9 1 Hx13 z (yan Zx13 S7.rm z (ya 9 1 z (yaf 10 17 (.bool (sLt x13 p1)) (ya 11 1 z (sj R2 ▸ yx ⟨I2, rfl, lr, S7⟩)))))
 refine yy 11 G ?_
 iterate 6 refine yaj ?_
 exact ya 11 1 z (sj R2 ▸ yx ⟨I2, rfl, lr, S7⟩)
 rintro _ w14 ⟨I11, rfl, L12, S15⟩
 refine yb (yz R1 (fun G R1 => ?_) (fun G R1 => ?_))
 exact W.skip (ye (ym (yah nL3 (ya 0 3 z (yt (yl (yv ⟨(w64 (s4 + 1)), (sj R1).symm, I11, rfl, le, S15⟩)))))))
 refine W.exit (yn (yq ?_))
 obtain rfl := hext1 _ (sj R1).symm
 refine yu (ye (W.seq (yg nL12 (ya 0 5 z (bsk D fun j64 R1 D => yal (l1 := [5, 6, 7, 8, 9, 10, 11]) (J := JI E I11 [(0, Sl a_p0 p0 c_p0), (1, .string p1), (5, Iv s4), (32, .bool j64)] Os) ?_ ?_)))))
 refine yak R1 (fun G R1 => ?_) (fun G R1 => ?_)
 refine yy 25 G (ya 5 2 z ?_)
 obtain ⟨x68, R1, Hx68, _, rfl, Zx68⟩ := sx I11 h_p0 R1
 exact y0 9 1 Hx68 z (yan Zx68 S15.rm z (ya 9 3 z (sj R1 ▸ yx ⟨I11, rfl, lr, S15⟩)))
 refine yy 25 G ?_
 iterate 6 refine yaj ?_
 exact ya 11 1 z (sj R1 ▸ yx ⟨I11, rfl, lr, S15⟩)
 rintro _ w69 ⟨I66, rfl, L67, S70⟩
 refine yb (yz D (fun G D => ?_) (fun G D => ?_))
 exact yg nL2 (ya 0 2 z (yb (yp (yh (sj D ▸ yw ⟨I66, a_p0, c_p0, rfl, le, S70, (up h_p0)⟩)))))
 refine W.skip (ye (yg [0] (yaf 0 6 (.slice none 0 0) (yac nL6 (ya 0 3 z ?_)))))
 obtain ⟨x71, Xx71, D⟩ := bsm D
 obtain ⟨h0_x71, h1_x71, h2_x71, he_x71⟩ := sub_some Xx71
 have hl_x71 : (s4 : Int) ≤ (c_p0 : Int) := Int.le_trans h2_x71 (Int.ofNat_le.2 ((RSl.mono h_p0 ((L3.trans L12).trans L67))).le)
 refine ya1 (e := 9) (sz := 1) z kr kr kr z (0 : Int) (s4 : Int) h0_x71 (.inl ⟨rfl, rfl⟩) (.inr ⟨_, _, rfl, rfl⟩) h1_x71 hl_x71 ?_
 obtain ⟨a_x71, c_x71, h_x71, ev_x71⟩ := sub_ok ((RSl.mono h_p0 ((L3.trans L12).trans L67))) h0_x71 h1_x71 h2_x71 he_x71
 refine y8 37 z ev_x71 ?_
 have S73 := S70.no
 refine apk D fun x74 h0_x74 he_x74 D => ya3 (e' := 9) (b := 16) (zs := #[(.string eB)]) S73 (OwnSl.nil (T := 9) (rel := RStr) (I := I66)) z kr z kr kr kr z z z z h_x71 S73.im h0_x74 he_x74 tv ?_
 intro a75 c76 w77 C78 S79 ho80
 refine ya 5 1 z (yac nL5 (ya 0 2 z (yad (rel := RStr) (xs := ([p1] : List By8)) S79 z kr z 9 1 [[(.string p1)]] kr z ((Elr.cons z Elr.nil)) tv ?_)))
 intro a84 C82 w86 S85 ho83
 have S88 := S85.front1
 refine apk D fun x89 h0_x89 he_x89 D => yav 9 16 [(.string eB)] S88 ho80 ho83.sl (S88.rd m1) h0_x89 he_x89 z fun a90 c91 w92 C93 S94 ho95 => have S97 := S94.front1.drop; ya 4 1 z (yac nL6 (ya 0 3 z ?_))
 obtain ⟨x98, Xx98, D⟩ := bsm D
 obtain ⟨h0_x98, h1_x98, h2_x98, he_x98⟩ := sub_some Xx98
 have hl_x98 : ((p0.length : Int) : Int) ≤ (c_p0 : Int) := Int.le_trans h2_x98 (Int.ofNat_le.2 ((RSl.mono h_p0 ((L3.trans L12).trans L67))).le)
 refine ya1 (e := 9) (sz := 1) z kr kr kr z (s4 : Int) ((p0.length : Int) : Int) h0_x98 (.inr ⟨_, _, rfl, rfl⟩) (.inl ⟨rfl, rfl⟩) h1_x98 hl_x98 ?_
 obtain ⟨a_x98, c_x98, h_x98, ev_x98⟩ := sub_ok ((RSl.mono h_p0 ((L3.trans L12).trans L67))) h0_x98 h1_x98 h2_x98 he_x98
 refine y8 46 z ev_x98 ?_
 refine apk D fun x99 h0_x99 he_x99 D => yav 9 16 [(.string eB)] S97 ho95 h_x98 S97.im h0_x99 he_x99 z ?_
 intro a100 c101 w102 C103 S104 ho105
 obtain ⟨I106, L107, S109, hp108⟩ := yae ho105 S104
 exact ya 5 1 z (yb (yp (sj D ▸ yw ⟨I106, a100, c101, rfl, le, S109, hp108⟩)))
noncomputable def r18_Same (p0 : List qJ) (p1 : List qJ) : Option Bool := (bif ((p0.length : Int) != (p1.length : Int)) then some false else (forN (fun (i4 : Nat) (_s : Unit) => (idx p0 (i4 : Int)).bind (fun x13 => (idx p1 (i4 : Int)).bind (fun x14 => ((bif (!sEq x13.Name x14.Name) then some true else (idx p0 (i4 : Int)).bind (fun x19 => (idx p1 (i4 : Int)).bind (fun x20 => some ((x19.In.length : Int) != (x20.In.length : Int)))))).bind (fun (j15 : Bool) => (bif j15 then some (.inr false) else (loopO (fun (s28 : Int) => (idx p0 (i4 : Int)).bind (fun x33 => (bif (decide (s28 < (x33.In.length : Int))) then (idx p0 (i4 : Int)).bind (fun x36 => (idx x36.In s28).bind (fun x37 => (idx p1 (i4 : Int)).bind (fun x38 => (idx x38.In s28).bind (fun x39 => (bif (!sEq x37 x39) then some (.inr (.inl false)) else some (.inl (w64 (s28 + 1)))))))) else some (.inr (.inr ()))))) 0).bind (fun (t : Bool ⊕ Unit) => match t with | (.inl s41) => some (.inr s41) | (.inr ()) => some (.inl ()))))))) p0.length 0 ()).bind (fun (t : Unit ⊕ (Bool)) => match t with | .inl _ => some true | .inr s24 => some s24))
theorem r18_Same_ok {p0 : List qJ} {p1 : List qJ} {a_p0 : Option Addr} {c_p0 : Nat} {a_p1 : Option Addr} {c_p1 : Nat} (h_p0 : RSl 2 R_qJ I a_p0 c_p0 p0) (h_p1 : RSl 2 R_qJ I a_p1 c_p1 p1) (hS : St E w I Os) {r : Bool} (D : r18_Same p0 p1 = some r) :
    Calls P 39 #[(Sl a_p0 p0 c_p0), (Sl a_p1 p1 c_p1)] w (RT E I Os (.bool r)) := by
 refine calls_W (fn := Tryz.f39) rfl rfl rfl ?_
 unfold r18_Same at D
 refine yg [0] (ya 0 1 z (yb (W.seq (yg nL5 (ya 0 5 z (yb (yz D (fun G D => ?_) (fun G D => ?_))))))))
 exact yg [0] (ya 0 1 z (yb (yp (yh (sj D ▸ yw ⟨I, rfl, lr, hS⟩)))))
 refine W.skip (ye (W.seq (yg [0] (ya 0 1 z (yb (ym (bsk D fun t1 hloop5 D => have hlt9 := (h_p0).len_lt; W.wk (yaq (m := p0.length) hloop5 (fun (i4 : Nat) (_s : Unit) => JI E I [(0, Sl a_p0 p0 c_p0), (1, Sl a_p1 p1 c_p1), (5, Nv i4)] Os) ⟨I, rfl, lr, hS⟩ ?_ ?_))))))))
 rintro i4 _ _ w6 hi10 ⟨I2, rfl, L3, S7⟩ x8 R1 hext1
 refine W.seq (yg nL4 (ya 0 4 z (yb (yat fun _ => W.skip (ye (W.seq (ym (W.seq (W.seq (have S11 := S7.drew; ya4 nL26 26 (y7 S11.im) ?_))))))))))
 generalize World.drew _ = w12 at *
 refine ya 0 2 z ?_
 obtain ⟨x13, R1, Hx13, _, ⟨w_x13, rfl, h_x13⟩, Zx13⟩ := sx I2 h_p0 R1
 refine y0 107 2 Hx13 z (yf 3 1 [0] z (yan Zx13 (rd_i S11.im) z (ya 5 2 z ?_)))
 obtain ⟨x14, R1, Hx14, _, ⟨w_x14, rfl, h_x14⟩, Zx14⟩ := sx I2 h_p1 R1
 refine y0 107 2 Hx14 z (yf 8 1 [0] z (yan Zx14 (rd_i S11.im) z (ya 10 2 z (bsk R1 fun j15 R2 R1 => yal (l1 := [12, 13, 14, 15, 16, 17, 18, 19, 20, 21, 22, 23, 24, 25]) (J := JI E I2 [(0, Sl a_p0 p0 c_p0), (1, Sl a_p1 p1 c_p1), (5, Nv i4), (43, .bool j15)] Os) ?_ ?_))))
 refine yak R2 (fun G R2 => ?_) (fun G R2 => ?_)
 refine yy 29 G ?_
 iterate 13 refine yaj ?_
 exact ya 25 1 z (sj R2 ▸ yx ⟨I2, rfl, lr, S11⟩)
 refine yy 29 G (ya 12 2 z ?_)
 obtain ⟨x19, R2, Hx19, _, ⟨w_x19, rfl, h_x19⟩, Zx19⟩ := sx I2 h_p0 R2
 refine y0 107 2 Hx19 z (yf 15 1 [1] z (yar Zx19 1 (rd_i S11.im) z (ya 17 3 z ?_)))
 obtain ⟨x20, R2, Hx20, _, ⟨w_x20, rfl, h_x20⟩, Zx20⟩ := sx I2 h_p1 R2
 exact y0 107 2 Hx20 z (yf 21 1 [1] z (yar Zx20 1 (rd_i S11.im) z (ya 23 3 z (sj R2 ▸ yx ⟨I2, rfl, lr, S11⟩))))
 rintro _ w21 ⟨I17, rfl, L18, S22⟩
 refine yb (yz R1 (fun G R1 => ?_) (fun G R1 => ?_))
 refine yg [0] (ya 0 1 z (yb (yp (yh (yk (yh (yr ?_)))))))
 obtain rfl := hext1 _ (sj R1).symm
 exact yk (yh (sj D ▸ yw ⟨I17, rfl, le, S22⟩))
 refine W.skip (ye (yg [0] (ya 0 1 z (yb (ym (bsk R1 fun t25 hloop29 R1 => W.wk (ya8 hloop29 (fun (s28 : Int) => JI E I17 [(0, Sl a_p0 p0 c_p0), (1, Sl a_p1 p1 c_p1), (5, Nv i4), (6, Iv s28)] Os) ⟨I17, rfl, lr, S22⟩ ?_)))))))
 rintro s28 _ w30 ⟨I26, rfl, L27, S31⟩ x32 R2 hext25
 refine W.seq (yg nL8 (ya 0 3 z ?_))
 obtain ⟨x33, R2, Hx33, _, ⟨w_x33, rfl, h_x33⟩, Zx33⟩ := sx I26 h_p0 R2
 refine y0 107 2 Hx33 z (yf 4 1 [1] z (yar Zx33 1 S31.rm z (ya 6 2 z (yb (yz R2 (fun G R2 => ?_) (fun G R2 => ?_))))))
 refine W.skip (ye (W.seq (ym (W.seq (have S34 := S31.drew; ya4 nL17 16 (y7 S34.im) ?_)))))
 generalize World.drew _ = w35 at *
 refine ya 0 2 z ?_
 obtain ⟨x36, R2, Hx36, _, ⟨w_x36, rfl, h_x36⟩, Zx36⟩ := sx I26 h_p0 R2
 refine y0 107 2 Hx36 z (yf 3 1 [1] z (yar Zx36 1 (rd_i S34.im) z (ya 5 1 z ?_)))
 obtain ⟨x37, R2, Hx37, _, rfl, Zx37⟩ := sl_ix (h_x36.In) R2
 refine y0 9 1 Hx37 z (yan Zx37 (rd_i S34.im) z (ya 8 2 z ?_))
 obtain ⟨x38, R2, Hx38, _, ⟨w_x38, rfl, h_x38⟩, Zx38⟩ := sx I26 h_p1 R2
 refine y0 107 2 Hx38 z (yf 11 1 [1] z (yar Zx38 1 (rd_i S34.im) z (ya 13 1 z ?_)))
 obtain ⟨x39, R2, Hx39, _, rfl, Zx39⟩ := sl_ix (h_x38.In) R2
 refine y0 9 1 Hx39 z (yan Zx39 (rd_i S34.im) z (WO.tail z (ya 16 1 z (yb (yz R2 (fun G R2 => ?_) (fun G R2 => ?_))))))
 refine yg [0] (ya 0 1 z (yb (yp (yk (yh (yr ?_))))))
 obtain rfl := hext25 _ (sj R2).symm
 refine yk (yk (yh (yr ?_)))
 obtain rfl := hext1 _ (sj R1).symm
 exact yk (yh (sj D ▸ yw ⟨I26, rfl, le, S34⟩))
 exact W.skip (yl (ye (yah nL3 (ya 0 3 z (yt (yv ⟨(w64 (s28 + 1)), (sj R2).symm, I26, rfl, L27, S34⟩))))))
 refine W.exit (yn (yq ?_))
 obtain rfl := hext25 _ (sj R2).symm
 exact yu (yl (ye (yah nL3 (ya 0 1 z (yao i4 z (ya 2 1 z (yt (yv ⟨(), (sj R1).symm, I26, rfl, le, S31⟩))))))))
 rintro _ _ w43 ⟨I2, rfl, L3, S44⟩ he
 cases he
 exact W.seq (yg nL4 (ya 0 4 z (yb (yas fun _ => W.exit (yn (yq (yu (ye (yg [0] (ya 0 1 z (yb (yp (sj D ▸ yw ⟨I2, rfl, L3, S44⟩)))))))))))))
def r19_Same (p0 : List qG) (p1 : List qG) : Option Bool := (bif ((p0.length : Int) != (p1.length : Int)) then some false else (forN (fun (i4 : Nat) (_s : Unit) => (idx p0 (i4 : Int)).bind (fun x13 => (idx p1 (i4 : Int)).bind (fun x14 => (bif (!(sEq x13.To x14.To && (sEq x13.By x14.By && (sEq x13.Table x14.Table && ((x13.Priv == x14.Priv) && (x13.Option == x14.Option)))))) then some (.inr false) else some (.inl ()))))) p0.length 0 ()).bind (fun (t : Unit ⊕ (Bool)) => match t with | .inl _ => some true | .inr s16 => some s16))
theorem r19_Same_ok {p0 : List qG} {p1 : List qG} {a_p0 : Option Addr} {c_p0 : Nat} {a_p1 : Option Addr} {c_p1 : Nat} (h_p0 : RSl 5 R_qG I a_p0 c_p0 p0) (h_p1 : RSl 5 R_qG I a_p1 c_p1 p1) (hS : St E w I Os) {r : Bool} (D : r19_Same p0 p1 = some r) :
    Calls P 40 #[(Sl a_p0 p0 c_p0), (Sl a_p1 p1 c_p1)] w (RT E I Os (.bool r)) := by
 refine calls_W (fn := Tryz.f40) rfl rfl rfl ?_
 unfold r19_Same at D
 refine yg [0] (ya 0 1 z (yb (W.seq (yg nL5 (ya 0 5 z (yb (yz D (fun G D => ?_) (fun G D => ?_))))))))
 exact yg [0] (ya 0 1 z (yb (yp (yh (sj D ▸ yw ⟨I, rfl, lr, hS⟩)))))
 refine W.skip (ye (W.seq (yg [0] (ya 0 1 z (yb (ym (bsk D fun t1 hloop5 D => have hlt9 := (h_p0).len_lt; W.wk (yaq (m := p0.length) hloop5 (fun (i4 : Nat) (_s : Unit) => JI E I [(0, Sl a_p0 p0 c_p0), (1, Sl a_p1 p1 c_p1), (5, Nv i4)] Os) ⟨I, rfl, lr, hS⟩ ?_ ?_))))))))
 rintro i4 _ _ w6 hi10 ⟨I2, rfl, L3, S7⟩ x8 R1 hext1
 refine W.seq (yg nL4 (ya 0 4 z (yb (yat fun _ => W.skip (ye (W.seq (ym (W.seq (have S11 := S7.drew; ya4 nL9 8 (y7 S11.im) ?_)))))))))
 generalize World.drew _ = w12 at *
 refine ya 0 2 z ?_
 obtain ⟨x13, R1, Hx13, _, rfl, Zx13⟩ := sx I2 h_p0 R1
 refine y0 92 5 Hx13 z (yaw ((cs_qG x13)) Zx13 0 (rd_i S11.im) z (ya 4 2 z ?_))
 obtain ⟨x14, R1, Hx14, _, rfl, Zx14⟩ := sx I2 h_p1 R1
 refine y0 92 5 Hx14 z (yaw ((cs_qG x14)) Zx14 0 (rd_i S11.im) z (WO.tail z (ybi z kr z z kr 50 z (b := (sEq x13.To x14.To && (sEq x13.By x14.By && (sEq x13.Table x14.Table && ((x13.Priv == x14.Priv) && ((x13.Option == x14.Option) && true)))))) kr (!(sEq x13.To x14.To && (sEq x13.By x14.By && (sEq x13.Table x14.Table && ((x13.Priv == x14.Priv) && (x13.Option == x14.Option)))))) (.inr ⟨rfl, by simp only [Bool.and_true]⟩) ?_)))
 refine yb (yz R1 (fun G R1 => ?_) (fun G R1 => ?_))
 refine yg [0] (ya 0 1 z (yb (yp (yk (yh (yr ?_))))))
 obtain rfl := hext1 _ (sj R1).symm
 exact yk (yh (sj D ▸ yw ⟨I2, rfl, L3, S11⟩))
 exact W.skip (yl (ye (yah nL3 (ya 0 1 z (yao i4 z (ya 2 1 z (yt (yv ⟨(), (sj R1).symm, I2, rfl, L3, S11⟩))))))))
 rintro _ _ w17 ⟨I2, rfl, L3, S18⟩ he
 cases he
 exact W.seq (yg nL4 (ya 0 4 z (yb (yas fun _ => W.exit (yn (yq (yu (ye (yg [0] (ya 0 1 z (yb (yp (sj D ▸ yw ⟨I2, rfl, L3, S18⟩)))))))))))))
noncomputable def r22_Changed (p0 : qC) (p1 : qC) : Option (List By8) := (app 112 ([] : List qT) p0.Tables).bind (fun x18 => (app 112 x18 p1.Tables).bind (fun x25 => (forE (fun (i40 : Nat) (s39 : List By8) => (idx x25 (i40 : Int)).bind (fun x48 => (r17_At p0 x48.Name).bind (fun r56 => (r17_At p1 x48.Name).bind (fun r62 => ((bif ((decide (r56 < 0)) || (decide (r62 < 0))) then some true else ((bif (decide ((i40 : Int) < (p0.Tables.length : Int))) then (idx p1.Tables r62).bind (fun x76 => (idx x25 (i40 : Int)).bind (fun x77 => ((bif (x76.Version != x77.Version) then some true else (idx p1.Tables r62).bind (fun x82 => (idx x25 (i40 : Int)).bind (fun x83 => some (!sEq x82.Owner x83.Owner))))).bind (fun (j78 : Bool) => some j78))) else some false)).bind (fun (j72 : Bool) => some j72))).bind (fun (j68 : Bool) => ((bif j68 then some true else ((bif (decide ((i40 : Int) ≥ (p0.Tables.length : Int))) then (idx p0.Tables r56).bind (fun x98 => (idx x25 (i40 : Int)).bind (fun x99 => ((bif (x98.Version != x99.Version) then some true else (idx p0.Tables r56).bind (fun x104 => (idx x25 (i40 : Int)).bind (fun x105 => some (!sEq x104.Owner x105.Owner))))).bind (fun (j100 : Bool) => some j100))) else some false)).bind (fun (j94 : Bool) => some j94))).bind (fun (j90 : Bool) => ((bif j90 then (r22_into s39 x48.Name).bind (fun r121 => some r121) else some s39)).bind (fun (j112 : List By8) => some j112))))))) x25.length 0 ([] : List By8)).bind (fun s39 => (r18_Same p0.Roles p1.Roles).bind (fun r131 => ((bif (!r131) then some true else (r19_Same p0.Grants p1.Grants).bind (fun r143 => some (!r143)))).bind (fun (j132 : Bool) => ((bif j132 then (r22_into s39 (⟨#[36]⟩ : By8)).bind (fun r157 => some r157) else some s39)).bind (fun (j148 : List By8) => some j148))))))
theorem r22_Changed_ok {p0 : qC} {p1 : qC} {w_p0 : W_qC} {w_p1 : W_qC} (h_p0 : ok_qC I p0 w_p0) (h_p1 : ok_qC I p1 w_p1) (hS : St E w I Os) {r : (List By8)} (D : r22_Changed p0 p1 = some r) :
    Calls P 13 #[(vC p0 w_p0), (vC p1 w_p1)] w (fun e w' => ∃ (I' : Mem) (ra0 : Option Addr) (rc0 : Nat), e = .returned (Sl ra0 r rc0) ∧ I.Le I' ∧ St E w' I' Os ∧ RSl 1 RStr I' ra0 rc0 r) := by
 refine calls_W (fn := Tryz.f13) rfl rfl rfl ?_
 unfold r22_Changed at D
 refine yg nL3 (yab hS (cs_qC p0 w_p0) 29 z fun b1 w4 S3 => yab S3 (cs_qC p1 w_p1) 29 z fun b5 w8 S7 => yaf 2 4 (.slice none 0 0) (yac [0] (yaf 0 5 (.slice none 0 0) (yb (W.seq (have S9 := S7.drew; ya4 nL8 6 (yo (S9.rd m0) (yo (S9.rd m1) (y7 S9.im))) ?_))))))
 generalize World.drew _ = w10 at *
 refine yad (rel := R_qT) (xs := ([] : List qT)) S9 z kr z 78 6 [] kr z (Elr.nil) (fun C12 w16 S15 => (yo (S15.rd m1) (yo (S15.rd m2) (y7 S15.im)))) ?_
 intro a14 C12 w16 S15 ho13
 refine yf 1 1 [1] z (yj (rd_c m1 (S15.rd m2)) z (apk D fun x18 h0_x18 he_x18 D => ya3 (e' := 78) (b := 112) (zs := (cs_qT z_qT zw_qT).toArray) S15 ho13 z kr z kr kr kr z z z z h_p0.Tables S15.im h0_x18 he_x18 (fun w21 C22 S23 => (yo (S23.rd m1) (yo (S23.rd m2) (y7 S23.im)))) ?_))
 intro a19 c20 w21 C22 S23 ho24
 refine yf 4 1 [1] z (yj (rd_c m0 (S23.rd m1)) z (WO.tail z (apk D fun x25 h0_x25 he_x25 D => yav 78 112 (cs_qT z_qT zw_qT) S23 ho24 h_p1.Tables S23.im h0_x25 he_x25 z ?_)))
 intro a26 c27 w28 C29 S30 ho31
 obtain ⟨I32, L33, S35, hp34⟩ := yae ho31 S30
 refine ya 7 1 z (yb (W.seq (yg [0] (ya 0 1 z (yb (ym (bsk D fun s39 hloop41 D => have hlt46 := (hp34).len_lt; W.wk (yay (m := x25.length) hloop41 (fun (i40 : Nat) (s39 : List By8) fr w => ∃ I37 a_s39 c_s39, fr = [(2, Pt b1 0), (3, Pt b5 0), (5, Sl a_s39 s39 c_s39), (6, Sl a26 x25 c27), (7, Nv i40)] ∧ I32.Le I37 ∧ St E w I37 (bC b1 p0 w_p0 :: (bC b5 p1 w_p1) :: Os) ∧ RSl 1 RStr I37 a_s39 c_s39 s39) ⟨I32, none, 0, rfl, lr, S35.front1, SlAt.nil⟩ ?_ ?_))))))))
 rintro i40 s39 _ w43 hi47 ⟨I37, a_s39, c_s39, rfl, L38, S44, h_s39⟩ x45 R1
 refine W.seq (yg nL4 (ya 0 4 z (yb (yat fun _ => W.skip (ye (W.seq (ym (yg nL6 (ya 0 2 z ?_)))))))))
 obtain ⟨x48, R1, Hx48, _, ⟨w_x48, rfl, h_x48⟩, Zx48⟩ := sx I37 hp34 R1
 refine y0 78 6 Hx48 z (yf 3 1 [0] z (yan Zx48 S44.rm z (ya 5 1 z (yb (W.seq (have S49 := S44.drew; ybj (l := nL8) kr 5 (KR I37 [bC b1 p0 w_p0, bC b5 p1 w_p1]) qR (.ords nL8 nL8 kr kr kr kr kr) kr (yo (S49.rd m0) (yo (S49.rd m1) (y7 S49.im))) ?_))))))
 generalize World.drew _ = w50 at *
 refine y6 ((cs_qC p0 w_p0)) (rd_c m0 (S49.rd m0)) z (ya 1 1 z (bsk R1 fun r56 Xr51 R1 => yai (r17_At_ok (h_p0.mono le) S49 Xr51) ?_))
 rintro _ w52 ⟨I53, rfl, L54, S55⟩
 refine ⟨_, rfl, (yo (S55.rd m0) (yo (S55.rd m1) (y7 (S55.im.of_le L54)))), ?_⟩
 refine y6 ((cs_qC p1 w_p1)) (rd_c m1 (S55.rd m1)) z (ya 4 1 z (WO.tail z (bsk R1 fun r62 Xr57 R1 => WO.c1 (r17_At_ok (h_p1.mono le) S55 Xr57) z fun I59 w58 L60 S61 => ya 6 2 z (yb (W.seq (have S63 := S61.drew; ya4 [0, 1, 2, 3, 4, 5, 6, 7, 8, 9, 10, 11, 12, 13, 14, 15, 16, 17, 18, 19, 20, 21, 22, 23, 24, 25, 26, 27, 28, 29, 30, 31, 32, 33, 34, 35, 36, 37, 38, 39, 40, 41, 42, 43, 44, 45, 46, 47, 48, 49, 50, 51, 52, 53, 54, 55, 56, 57, 58, 59, 60, 61, 62, 63, 64, 65, 66, 67, 68, 69, 70, 71, 72, 73, 74, 75] 76 (yo (S63.rd m0) (yo (S63.rd m1) (y7 S63.im))) ?_))))))
 generalize World.drew _ = w65 at *
 refine ya 0 3 z (ya2 [3, 4] 5 37 40 (.refl ((decide (r56 < 0)) || (decide (r62 < 0)))) (fun _ => ya 3 3 z yam) (ya 6 1 z (bsk R1 fun j68 R2 R1 => yal (l1 := [7, 8, 9, 10, 11, 12, 13, 14, 15, 16, 17, 18, 19, 20, 21, 22, 23, 24, 25, 26, 27, 28, 29, 30, 31, 32, 33, 34, 35, 36, 37, 38, 39, 40]) (J := JI E I59 [(2, Pt b1 0), (3, Pt b5 0), (5, Sl a_s39 s39 c_s39), (6, Sl a26 x25 c27), (7, Nv i40), (8, .string x48.Name), (9, Iv r56), (75, .bool j68)] (bC b1 p0 w_p0 :: (bC b5 p1 w_p1) :: Os)) ?_ ?_)))
 refine yak R2 (fun G R2 => ?_) (fun G R2 => ?_)
 refine yy 41 G ?_
 iterate 33 refine yaj ?_
 exact ya 40 1 z (sj R2 ▸ yx ⟨I59, rfl, lr, S63⟩)
 refine yy 41 G (yf 7 2 [1] z (yj (rd_c m0 (S63.rd m0)) z (ya 10 3 z (bsk R2 fun j72 R3 R2 => yal (l1 := [13, 14, 15, 16, 17, 18, 19, 20, 21, 22, 23, 24, 25, 26, 27, 28, 29, 30, 31, 32, 33, 34, 35, 36, 37, 38, 39]) (J := JI E I59 [(2, Pt b1 0), (3, Pt b5 0), (5, Sl a_s39 s39 c_s39), (6, Sl a26 x25 c27), (7, Nv i40), (8, .string x48.Name), (9, Iv r56), (41, .bool false), (74, .bool j72)] (bC b1 p0 w_p0 :: (bC b5 p1 w_p1) :: Os)) ?_ ?_))))
 refine yak R3 (fun G R3 => ?_) (fun G R3 => ?_)
 refine yy 47 G (yf 13 1 [1] z (yj (rd_c m1 (S63.rd m1)) z (ya 15 1 z ?_)))
 obtain ⟨x76, R3, Hx76, _, ⟨w_x76, rfl, h_x76⟩, Zx76⟩ := sx I59 h_p1.Tables R3
 refine y0 78 6 Hx76 z (yf 17 1 [2] z (yar Zx76 2 (rd_i S63.im) z (ya 19 2 z ?_)))
 obtain ⟨x77, R3, Hx77, _, ⟨w_x77, rfl, h_x77⟩, Zx77⟩ := sx I59 hp34 R3
 refine y0 78 6 Hx77 z (yf 22 1 [2] z (yar Zx77 2 (rd_i S63.im) z (ya 24 2 z (bsk R3 fun j78 R4 R3 => yal (l1 := [26, 27, 28, 29, 30, 31, 32, 33, 34, 35, 36, 37, 38]) (J := JI E I59 [(2, Pt b1 0), (3, Pt b5 0), (5, Sl a_s39 s39 c_s39), (6, Sl a26 x25 c27), (7, Nv i40), (8, .string x48.Name), (9, Iv r56), (41, .bool false), (47, .bool true), (73, .bool j78)] (bC b1 p0 w_p0 :: (bC b5 p1 w_p1) :: Os)) ?_ ?_))))
 refine yak R4 (fun G R4 => ?_) (fun G R4 => ?_)
 refine yy 60 G ?_
 iterate 12 refine yaj ?_
 exact ya 38 1 z (sj R4 ▸ yx ⟨I59, rfl, lr, S63⟩)
 refine yy 60 G (yf 26 1 [1] z (yj (rd_c m1 (S63.rd m1)) z (ya 28 1 z ?_)))
 obtain ⟨x82, R4, Hx82, _, ⟨w_x82, rfl, h_x82⟩, Zx82⟩ := sx I59 h_p1.Tables R4
 refine y0 78 6 Hx82 z (yf 30 1 [1] z (yar Zx82 1 (rd_i S63.im) z (ya 32 2 z ?_)))
 obtain ⟨x83, R4, Hx83, _, ⟨w_x83, rfl, h_x83⟩, Zx83⟩ := sx I59 hp34 R4
 exact y0 78 6 Hx83 z (yf 35 1 [1] z (yar Zx83 1 (rd_i S63.im) z (ya 37 2 z (sj R4 ▸ yx ⟨I59, rfl, lr, S63⟩))))
 rintro _ w84 ⟨I80, rfl, L81, S85⟩
 exact ya 39 1 z (sj R3 ▸ yx ⟨I80, rfl, L81, S85⟩)
 refine yy 47 G ?_
 iterate 26 refine yaj ?_
 exact ya 39 1 z (sj R3 ▸ yx ⟨I59, rfl, lr, S63⟩)
 rintro _ w86 ⟨I74, rfl, L75, S87⟩
 exact ya 40 1 z (sj R2 ▸ yx ⟨I74, rfl, L75, S87⟩)
 rintro _ w88 ⟨I70, rfl, L71, S89⟩
 refine ya 41 1 z (bsk R1 fun j90 R2 R1 => yal (l1 := [42, 43, 44, 45, 46, 47, 48, 49, 50, 51, 52, 53, 54, 55, 56, 57, 58, 59, 60, 61, 62, 63, 64, 65, 66, 67, 68, 69, 70, 71, 72, 73, 74, 75]) (J := JI E I70 [(2, Pt b1 0), (3, Pt b5 0), (5, Sl a_s39 s39 c_s39), (6, Sl a26 x25 c27), (7, Nv i40), (8, .string x48.Name), (110, .bool j90)] (bC b1 p0 w_p0 :: (bC b5 p1 w_p1) :: Os)) ?_ ?_)
 refine yak R2 (fun G R2 => ?_) (fun G R2 => ?_)
 refine yy 76 G ?_
 iterate 33 refine yaj ?_
 exact ya 75 1 z (sj R2 ▸ yx ⟨I70, rfl, lr, S89⟩)
 refine yy 76 G (yf 42 2 [1] z (yj (rd_c m0 (S89.rd m0)) z (ya 45 3 z (bsk R2 fun j94 R3 R2 => yal (l1 := [48, 49, 50, 51, 52, 53, 54, 55, 56, 57, 58, 59, 60, 61, 62, 63, 64, 65, 66, 67, 68, 69, 70, 71, 72, 73, 74]) (J := JI E I70 [(2, Pt b1 0), (3, Pt b5 0), (5, Sl a_s39 s39 c_s39), (6, Sl a26 x25 c27), (7, Nv i40), (8, .string x48.Name), (76, .bool false), (109, .bool j94)] (bC b1 p0 w_p0 :: (bC b5 p1 w_p1) :: Os)) ?_ ?_))))
 refine yak R3 (fun G R3 => ?_) (fun G R3 => ?_)
 refine yy 82 G (yf 48 1 [1] z (yj (rd_c m0 (S89.rd m0)) z (ya 50 1 z ?_)))
 obtain ⟨x98, R3, Hx98, _, ⟨w_x98, rfl, h_x98⟩, Zx98⟩ := sx I59 h_p0.Tables R3
 refine y0 78 6 Hx98 z (yf 52 1 [2] z (yar Zx98 2 (rd_i (S89.im.of_le L71)) z (ya 54 2 z ?_)))
 obtain ⟨x99, R3, Hx99, _, ⟨w_x99, rfl, h_x99⟩, Zx99⟩ := sx I59 hp34 R3
 refine y0 78 6 Hx99 z (yf 57 1 [2] z (yar Zx99 2 (rd_i (S89.im.of_le L71)) z (ya 59 2 z (bsk R3 fun j100 R4 R3 => yal (l1 := [61, 62, 63, 64, 65, 66, 67, 68, 69, 70, 71, 72, 73]) (J := JI E I70 [(2, Pt b1 0), (3, Pt b5 0), (5, Sl a_s39 s39 c_s39), (6, Sl a26 x25 c27), (7, Nv i40), (8, .string x48.Name), (76, .bool false), (82, .bool true), (108, .bool j100)] (bC b1 p0 w_p0 :: (bC b5 p1 w_p1) :: Os)) ?_ ?_))))
 refine yak R4 (fun G R4 => ?_) (fun G R4 => ?_)
 refine yy 95 G ?_
 iterate 12 refine yaj ?_
 exact ya 73 1 z (sj R4 ▸ yx ⟨I70, rfl, lr, S89⟩)
 refine yy 95 G (yf 61 1 [1] z (yj (rd_c m0 (S89.rd m0)) z (ya 63 1 z ?_)))
 obtain ⟨x104, R4, Hx104, _, ⟨w_x104, rfl, h_x104⟩, Zx104⟩ := sx I59 h_p0.Tables R4
 refine y0 78 6 Hx104 z (yf 65 1 [1] z (yar Zx104 1 (rd_i (S89.im.of_le L71)) z (ya 67 2 z ?_)))
 obtain ⟨x105, R4, Hx105, _, ⟨w_x105, rfl, h_x105⟩, Zx105⟩ := sx I59 hp34 R4
 exact y0 78 6 Hx105 z (yf 70 1 [1] z (yar Zx105 1 (rd_i (S89.im.of_le L71)) z (ya 72 2 z (sj R4 ▸ yx ⟨I70, rfl, lr, S89⟩))))
 rintro _ w106 ⟨I102, rfl, L103, S107⟩
 exact ya 74 1 z (sj R3 ▸ yx ⟨I102, rfl, L103, S107⟩)
 refine yy 82 G ?_
 iterate 26 refine yaj ?_
 exact ya 74 1 z (sj R3 ▸ yx ⟨I70, rfl, lr, S89⟩)
 rintro _ w108 ⟨I96, rfl, L97, S109⟩
 exact ya 75 1 z (sj R2 ▸ yx ⟨I96, rfl, L97, S109⟩)
 rintro _ w110 ⟨I92, rfl, L93, S111⟩
 refine yb (bsk R1 fun j112 R2 R1 => yaz (J := (fun fr w => ∃ I114 a_j112 c_j112, fr = [(2, Pt b1 0), (3, Pt b5 0), (5, Sl a_j112 j112 c_j112), (6, Sl a26 x25 c27), (7, Nv i40)] ∧ I92.Le I114 ∧ St E w I114 (bC b1 p0 w_p0 :: (bC b5 p1 w_p1) :: Os) ∧ RSl 1 RStr I114 a_j112 c_j112 j112)) ?_ ?_)
 refine yz R2 (fun G R2 => ?_) (fun G R2 => ?_)
 refine yah nL4 (ya 0 2 z (bsk R2 fun r121 Xr116 R2 => yai (r22_into_ok (up h_s39) S111 Xr116) ?_))
 rintro _ w117 ⟨I118, a_r121, c_r121, rfl, L119, S120, h_r121⟩
 exact cv (ya 3 1 z (yt (sj R2 ▸ yv ⟨I118, a_r121, c_r121, rfl, L119, S120, h_r121⟩)))
 exact W.skip (sj R2 ▸ yv ⟨I92, a_s39, c_s39, rfl, lr, S111, (up h_s39)⟩)
 rintro _ w122 ⟨I114, a_j112, c_j112, rfl, L115, S123, h_j112⟩
 exact yl (ye (yah nL3 (ya 0 1 z (yao i40 z (ya 2 1 z (yt (sj R1 ▸ yv ⟨I114, a_j112, c_j112, rfl, le, S123, h_j112⟩)))))))
 rintro _ w124 ⟨I37, a_s39, c_s39, rfl, L38, S125, h_s39⟩
 refine W.seq (yg nL4 (ya 0 4 z (yb (yas fun _ => W.exit (yn (yq (yu (ye (W.seq (yg nL14 (yf 0 1 [2] z (yj (S125.rf m0) z (yf 2 1 [2] z (yj (S125.rf m1) z (bsk D fun r131 Xr126 D => WO.c1 (r18_Same_ok (up h_p0.Roles) (up h_p1.Roles) S125 Xr126) z fun I128 w127 L129 S130 => ya 5 2 z (bsk D fun j132 R1 D => yal (l1 := [7, 8, 9, 10, 11, 12, 13]) (J := JI E I128 [(5, Sl a_s39 s39 c_s39), (127, .bool j132)] Os) ?_ ?_))))))))))))))))
 refine yak R1 (fun G R1 => ?_) (fun G R1 => ?_)
 refine yy 120 G ?_
 iterate 6 refine yaj ?_
 exact ya 13 1 z (sj R1 ▸ yx ⟨I128, rfl, lr, S130.d2⟩)
 exact yy 120 G (yf 7 1 [3] z (yj (S130.rf m0) z (yf 9 1 [3] z (yj (S130.rf m1) z (bsk R1 fun r143 Xr138 R1 => WO.c1 (r19_Same_ok (up h_p0.Grants) (up h_p1.Grants) S130 Xr138) z fun I140 w139 L141 S142 => ya 12 2 z (sj R1 ▸ yx ⟨I140, rfl, L141, S142.d2⟩))))))
 rintro _ w146 ⟨I134, rfl, L135, S147⟩
 refine yb (bsk D fun j148 R1 D => yaz (J := (fun fr w => ∃ I150 a_j148 c_j148, fr = [(5, Sl a_j148 j148 c_j148)] ∧ I134.Le I150 ∧ St E w I150 Os ∧ RSl 1 RStr I150 a_j148 c_j148 j148)) ?_ ?_)
 refine yz R1 (fun G R1 => ?_) (fun G R1 => ?_)
 refine yah nL3 (ya 0 1 z (bsk R1 fun r157 Xr152 R1 => yai (r22_into_ok (up h_s39) S147 Xr152) ?_))
 rintro _ w153 ⟨I154, a_r157, c_r157, rfl, L155, S156, h_r157⟩
 exact cv (ya 2 1 z (yt (sj R1 ▸ yv ⟨I154, a_r157, c_r157, rfl, L155, S156, h_r157⟩)))
 exact W.skip (sj R1 ▸ yv ⟨I134, a_s39, c_s39, rfl, lr, S147, (up h_s39)⟩)
 rintro _ w158 ⟨I150, a_j148, c_j148, rfl, L151, S159, h_j148⟩
 exact ye (yg nL2 (ya 0 2 z (yb (yp (sj D ▸ yw ⟨I150, a_j148, c_j148, rfl, le, S159, h_j148⟩)))))
def r12_SameTexts (p0 : List By8) (p1 : List By8) : Option Bool := (bif ((p0.length : Int) != (p1.length : Int)) then some false else (forN (fun (i4 : Nat) (_s : Unit) => (idx p0 (i4 : Int)).bind (fun x13 => (idx p1 (i4 : Int)).bind (fun x14 => (bif (!sEq x13 x14) then some (.inr false) else some (.inl ()))))) p0.length 0 ()).bind (fun (t : Unit ⊕ (Bool)) => match t with | .inl _ => some true | .inr s16 => some s16))
theorem r12_SameTexts_ok {p0 : List By8} {p1 : List By8} {a_p0 : Option Addr} {c_p0 : Nat} {a_p1 : Option Addr} {c_p1 : Nat} (h_p0 : RSl 1 RStr I a_p0 c_p0 p0) (h_p1 : RSl 1 RStr I a_p1 c_p1 p1) (hS : St E w I Os) {r : Bool} (D : r12_SameTexts p0 p1 = some r) :
    Calls P 12 #[(Sl a_p0 p0 c_p0), (Sl a_p1 p1 c_p1)] w (RT E I Os (.bool r)) := by
 refine calls_W (fn := Tryz.f12) rfl rfl rfl ?_
 unfold r12_SameTexts at D
 refine yg [0] (ya 0 1 z (yb (W.seq (yg nL5 (ya 0 5 z (yb (yz D (fun G D => ?_) (fun G D => ?_))))))))
 exact yg [0] (ya 0 1 z (yb (yp (yh (sj D ▸ yw ⟨I, rfl, lr, hS⟩)))))
 refine W.skip (ye (W.seq (yg [0] (ya 0 1 z (yb (ym (bsk D fun t1 hloop5 D => have hlt9 := (h_p0).len_lt; W.wk (yaq (m := p0.length) hloop5 (fun (i4 : Nat) (_s : Unit) => JI E I [(0, Sl a_p0 p0 c_p0), (1, Sl a_p1 p1 c_p1), (5, Nv i4)] Os) ⟨I, rfl, lr, hS⟩ ?_ ?_))))))))
 rintro i4 _ _ w6 hi10 ⟨I2, rfl, L3, S7⟩ x8 R1 hext1
 refine W.seq (yg nL4 (ya 0 4 z (yb (yat fun _ => W.skip (ye (W.seq (ym (W.seq (have S11 := S7.drew; ya4 nL9 8 (y7 S11.im) ?_)))))))))
 generalize World.drew _ = w12 at *
 refine ya 0 2 z ?_
 obtain ⟨x13, R1, Hx13, _, rfl, Zx13⟩ := sx I2 h_p0 R1
 refine y0 9 1 Hx13 z (yan Zx13 (rd_i S11.im) z (ya 4 2 z ?_))
 obtain ⟨x14, R1, Hx14, _, rfl, Zx14⟩ := sx I2 h_p1 R1
 refine y0 9 1 Hx14 z (yan Zx14 (rd_i S11.im) z (WO.tail z (ya 8 1 z (yb (yz R1 (fun G R1 => ?_) (fun G R1 => ?_))))))
 refine yg [0] (ya 0 1 z (yb (yp (yk (yh (yr ?_))))))
 obtain rfl := hext1 _ (sj R1).symm
 exact yk (yh (sj D ▸ yw ⟨I2, rfl, L3, S11⟩))
 exact W.skip (yl (ye (yah nL3 (ya 0 1 z (yao i4 z (ya 2 1 z (yt (yv ⟨(), (sj R1).symm, I2, rfl, L3, S11⟩))))))))
 rintro _ _ w17 ⟨I2, rfl, L3, S18⟩ he
 cases he
 exact W.seq (yg nL4 (ya 0 4 z (yb (yas fun _ => W.exit (yn (yq (yu (ye (yg [0] (ya 0 1 z (yb (yp (sj D ▸ yw ⟨I2, rfl, L3, S18⟩)))))))))))))
noncomputable def law22_ChainChanges (p0 : List law22_Act) (p1 : List law22_Act) : Option Bool := (law22_few p0).bind (fun r6 => ((bif (!r6) then some true else (law22_few p1).bind (fun r16 => some (!r16)))).bind (fun (j7 : Bool) => (bif j7 then (law22_works).bind (fun r24 => some r24) else (law19_Grown ([] : List law19_Act)).bind (fun r30 => (law19_Grown ([] : List law19_Act)).bind (fun r36 => (forE (fun (i55 : Nat) (s54 : qC) => (idx p0 (i55 : Int)).bind (fun x66 => (law19_Next s54 x66.A).bind (fun (r72, r73) => some r72))) p0.length 0 r30).bind (fun s54 => (forE (fun (i82 : Nat) (s81 : qC) => (idx p1 (i82 : Int)).bind (fun x91 => (law19_Next s81 x91.A).bind (fun (r97, r98) => some r97))) p1.length 0 r36).bind (fun s81 => (chain_New s54).bind (fun r110 => (chain_Chain_Changed r110 s54 s81).bind (fun r120 => (r22_Changed s54 s81).bind (fun r126 => (r12_SameTexts r120 r126).bind (fun r132 => ((bif r132 then (chain_Chain_Changed r110 s81 s54).bind (fun r146 => (r12_SameTexts r146 r120).bind (fun r152 => some r152)) else some false)).bind (fun (j133 : Bool) => ((bif j133 then (chain_Chain_Changed r110 s54 s54).bind (fun r182 => some ((r182.length : Int) == 0)) else some false)).bind (fun (j169 : Bool) => ((bif j169 then (law22_works).bind (fun r204 => some r204) else some false)).bind (fun (j195 : Bool) => some j195))))))))))))))
theorem law22_ChainChanges_ok {p0 : List law22_Act} {p1 : List law22_Act} {a_p0 : Option Addr} {c_p0 : Nat} {a_p1 : Option Addr} {c_p1 : Nat} (h_p0 : RSl 24 R_law22_Act I a_p0 c_p0 p0) (h_p1 : RSl 24 R_law22_Act I a_p1 c_p1 p1) (hS : St E w I Os) {r : Bool} (D : law22_ChainChanges p0 p1 = some r) :
    Calls P 3 #[(Sl a_p0 p0 c_p0), (Sl a_p1 p1 c_p1)] w (RT E I Os (.bool r)) := by
 refine calls_W (fn := Tryz.f3) rfl rfl rfl ?_
 unfold law22_ChainChanges at D
 refine yg [0] (ya 0 1 z (yb (W.seq (yg nL8 (ya 0 1 z (bsk D fun r6 Xr1 D => WO.c1 (law22_few_ok h_p0 hS Xr1) z fun I3 w2 L4 S5 => ya 2 2 z (bsk D fun j7 R1 D => yal (l1 := [4, 5, 6, 7]) (J := JI E I3 [(0, Sl a_p0 p0 c_p0), (1, Sl a_p1 p1 c_p1), (18, .bool j7)] Os) ?_ ?_)))))))
 refine yak R1 (fun G R1 => ?_) (fun G R1 => ?_)
 refine yy 14 G ?_
 iterate 3 refine yaj ?_
 exact ya 7 1 z (sj R1 ▸ yx ⟨I3, rfl, lr, S5⟩)
 exact yy 14 G (ya 4 1 z (bsk R1 fun r16 Xr11 R1 => WO.c1 (law22_few_ok (RSl.mono h_p1 L4) S5 Xr11) z fun I13 w12 L14 S15 => ya 6 2 z (sj R1 ▸ yx ⟨I13, rfl, L14, S15⟩)))
 rintro _ w17 ⟨I9, rfl, L10, S18⟩
 refine yb (yz D (fun G D => ?_) (fun G D => ?_))
 exact yg nL2 (bsk D fun r24 Xr19 D => WO.c1 (law22_works_ok  S18 Xr19) z fun I21 w20 L22 S23 => ya 1 1 z (yb (yp (yh (sj D ▸ yw ⟨I21, rfl, le, S23⟩)))))
 refine W.skip (ye (yg nL6 (bsk D fun r30 Xr25 D => yai (law19_Grown_ok SlAt.nil S18 Xr25) ?_)))
 rintro _ w26 ⟨I27, w_r30, rfl, L28, S29, h_r30⟩
 refine cv (bsk D fun r36 Xr31 D => yai (law19_Grown_ok SlAt.nil S29 Xr31) ?_)
 rintro _ w32 ⟨I33, w_r36, rfl, L34, S35, h_r36⟩
 refine cv (yab S35 (cs_qC z_qC zw_qC) 29 z fun b37 w40 S39 => yab S39 (cs_qC z_qC zw_qC) 29 z fun b41 w44 S43 => yaa S43.front1 0 (cs_qC r30 w_r30) fun w47 S46 => yaa S46.front1 0 (cs_qC r36 w_r36) fun w50 S49 => yb (W.seq (yg [0] (ya 0 1 z (yb (ym (bsk D fun s54 hloop56 D => have hlt61 := ((RSl.mono h_p0 (((L4.trans L10).trans L28).trans L34))).len_lt; W.wk (yay (m := p0.length) hloop56 (fun (i55 : Nat) (s54 : qC) fr w => ∃ I52 w_s54, fr = [(0, Sl a_p0 p0 c_p0), (1, Sl a_p1 p1 c_p1), (5, Pt b37 0), (6, Pt b41 0), (7, Nv i55)] ∧ I33.Le I52 ∧ St E w I52 (bC b37 s54 w_s54 :: (bC b41 r36 w_r36) :: Os) ∧ ok_qC I52 s54 w_s54) ⟨I33, w_r30, rfl, lr, S49.front1, (h_r30.mono L34)⟩ ?_ ?_))))))))
 rintro i55 s54 _ w58 hi62 ⟨I52, w_s54, rfl, L53, S59, h_s54⟩ x60 R1
 refine W.seq (yg nL4 (ya 0 4 z (yb (yat fun _ => W.skip (ye (W.seq (ym (have S63 := S59.drew; ybj (l := nL11) kr 10 (KR I52 [bC b37 s54 w_s54]) qR (.ords nL11 [0, 1, 2, 3, 4, 5, 6, 7, 8, 10, 9] kr kr kr kr kr) kr (yo (S63.rd m0) (y7 S63.im)) ?_))))))))
 generalize World.drew _ = w65 at *
 refine y6 ((cs_qC s54 w_s54)) (rd_c m0 (S63.rd m0)) z (ya 1 2 z ?_)
 obtain ⟨x66, R1, Hx66, _, ⟨w_x66, rfl, h_x66⟩, Zx66⟩ := sx I52 h_p0 R1
 refine y0 50 24 Hx66 z (yf 4 1 [2] z (yaw ((cs_law19_Act x66.A w_x66.A)) Zx66 2 (rd_i S63.im) z ?_))
 obtain ⟨⟨r72, r73⟩, Xr67, R1⟩ := bsm R1
 refine yai (law19_Next_ok h_s54 h_x66.A S63 Xr67) ?_
 rintro _ w68 ⟨I69, w_r72, rfl, L70, S71, h_r72⟩
 refine ⟨_, rfl, (yo (S71.rd m0) (y7 (S71.im.of_le L70))), ?_⟩
 exact ya 7 3 z (WO.tail z (yaa S71 0 (cs_qC r72 w_r72) fun w75 S74 => yt (yl (ye (yah nL3 (ya 0 1 z (yao i55 z (ya 2 1 z (yt (sj R1 ▸ yv ⟨I69, w_r72, rfl, le, S74, h_r72⟩))))))))))
 rintro _ w76 ⟨I52, w_s54, rfl, L53, S77, h_s54⟩
 refine W.seq (yg nL4 (ya 0 4 z (yb (yas fun _ => W.exit (yn (yq (yu (ye (W.seq (yg [0] (ya 0 1 z (yb (ym (bsk D fun s81 hloop83 D => have hlt87 := ((RSl.mono h_p1 ((((L4.trans L10).trans L28).trans L34).trans L53))).len_lt; W.wk (yay (m := p1.length) hloop83 (fun (i82 : Nat) (s81 : qC) fr w => ∃ I79 w_s81, fr = [(1, Sl a_p1 p1 c_p1), (5, Pt b37 0), (6, Pt b41 0), (8, Nv i82)] ∧ I52.Le I79 ∧ St E w I79 (bC b37 s54 w_s54 :: (bC b41 s81 w_s81) :: Os) ∧ ok_qC I79 s81 w_s81) ⟨I52, w_r36, rfl, lr, S77, (h_r36.mono L53)⟩ ?_ ?_)))))))))))))))
 rintro i82 s81 _ w84 hi88 ⟨I79, w_s81, rfl, L80, S85, h_s81⟩ x86 R1
 refine W.seq (yg nL4 (ya 0 4 z (yb (yat fun _ => W.skip (ye (W.seq (ym (have S89 := S85.drew; ybj (l := nL11) kr 10 (KR I79 [bC b41 s81 w_s81]) qR (.ords nL11 [0, 1, 2, 3, 4, 5, 6, 7, 8, 10, 9] kr kr kr kr kr) kr (yo (S89.rd m1) (y7 S89.im)) ?_))))))))
 generalize World.drew _ = w90 at *
 refine y6 ((cs_qC s81 w_s81)) (rd_c m0 (S89.rd m1)) z (ya 1 2 z ?_)
 obtain ⟨x91, R1, Hx91, _, ⟨w_x91, rfl, h_x91⟩, Zx91⟩ := sx I79 h_p1 R1
 refine y0 50 24 Hx91 z (yf 4 1 [2] z (yaw ((cs_law19_Act x91.A w_x91.A)) Zx91 2 (rd_i S89.im) z ?_))
 obtain ⟨⟨r97, r98⟩, Xr92, R1⟩ := bsm R1
 refine yai (law19_Next_ok h_s81 h_x91.A S89 Xr92) ?_
 rintro _ w93 ⟨I94, w_r97, rfl, L95, S96, h_r97⟩
 refine ⟨_, rfl, (yo (S96.rd m1) (y7 (S96.im.of_le L95))), ?_⟩
 exact ya 7 3 z (WO.tail z (yaa S96.front1 0 (cs_qC r97 w_r97) fun w101 S100 => yt (yl (ye (yah nL3 (ya 0 1 z (yao i82 z (ya 2 1 z (yt (sj R1 ▸ yv ⟨I94, w_r97, rfl, le, S100.front1, h_r97⟩))))))))))
 rintro _ w103 ⟨I79, w_s81, rfl, L80, S104, h_s81⟩
 refine W.seq (yg nL4 (ya 0 4 z (yb (yas fun _ => W.exit (yn (yq (yu (ye (yg nL3 (y6 ((cs_qC s54 w_s54)) (S104.rf m0) z (bsk D fun r110 Xr105 D => yai (chain_New_ok (h_s54.mono L80) S104 Xr105) ?_)))))))))))
 rintro _ w106 ⟨I107, b_r110, w_r110, rfl, L108, S109, h_r110⟩
 refine cv (ya 2 1 z (yac nL5 (ya 0 1 z (y6 ((cs_qC s54 w_s54)) (S109.rf m4) z (y6 ((cs_qC s81 w_s81)) (S109.rf m5) z (bsk D fun r120 Xr115 D => yai (chain_Chain_Changed_ok h_r110 (h_s54.mono le) (h_s81.mono L108) S109.front3.front3.front3.front3 Xr115) ?_))))))
 rintro _ w116 ⟨I117, a_r120, c_r120, rfl, L118, S119, h_r120⟩
 refine cv (ya 4 1 z (yac nL25 (ya 0 1 z (y6 ((cs_qC s54 w_s54)) (S119.rf m4) z (y6 ((cs_qC s81 w_s81)) (S119.rf m5) z (bsk D fun r126 Xr121 D => yai (r22_Changed_ok (h_s54.mono le) (h_s81.mono le) S119 Xr121) ?_))))))
 rintro _ w122 ⟨I123, a_r126, c_r126, rfl, L124, S125, h_r126⟩
 refine cv (bsk D fun r132 Xr127 D => WO.c1 (r12_SameTexts_ok (RSl.mono h_r120 L124) h_r126 S125 Xr127) z fun I129 w128 L130 S131 => ya 5 1 z (bsk D fun j133 R1 D => yal (l1 := [6, 7, 8, 9, 10, 11, 12]) (J := JI E I129 [(5, Pt b37 0), (9, Pt b_r110 0), (72, .bool j133)] (bC b37 s54 w_s54 :: (Bx b_r110 (cs_chain_Chain r110 w_r110) 88) :: (w_r110.live.C) :: (w_r110.pins.C) :: (w_r110.news.C) :: Os)) ?_ ?_))
 refine yak R1 (fun G R1 => ?_) (fun G R1 => ?_)
 refine yy 65 G (ya 6 1 z (y6 ((cs_qC s81 w_s81)) (S131.rf m5) z (y6 ((cs_qC s54 w_s54)) (S131.rf m4) z (bsk R1 fun r146 Xr141 R1 => yai (chain_Chain_Changed_ok (h_r110.mono le) (h_s81.mono le) (h_s54.mono le) S131.front3.front3.front3.front3 Xr141) ?_))))
 rintro _ w142 ⟨I143, a_r146, c_r146, rfl, L144, S145, h_r146⟩
 exact cv (ya 10 1 z (bsk R1 fun r152 Xr147 R1 => WO.c1 (r12_SameTexts_ok h_r146 (up h_r120) S145 Xr147) z fun I149 w148 L150 S151 => ya 12 1 z (sj R1 ▸ yx ⟨I149, rfl, le, S151.front5.drop.front3.front3.front3.front3.front4⟩)))
 refine yy 65 G ?_
 iterate 6 refine yaj ?_
 exact ya 12 1 z (sj R1 ▸ yx ⟨I129, rfl, lr, S131.front5.drop.front3.front3.front3.front3.front4⟩)
 rintro _ w167 ⟨I135, rfl, L136, S168⟩
 refine ya 13 1 z (bsk D fun j169 R1 D => yal (l1 := [14, 15, 16, 17, 18, 19, 20]) (J := JI E I135 [(80, .bool j169)] Os) ?_ ?_)
 refine yak R1 (fun G R1 => ?_) (fun G R1 => ?_)
 refine yy 73 G (ya 14 1 z (y6 ((cs_qC s54 w_s54)) (S168.rf m0) z (y6 ((cs_qC s54 w_s54)) (S168.rf m0) z (bsk R1 fun r182 Xr177 R1 => yai (chain_Chain_Changed_ok (h_r110.mono le) (h_s54.mono le) (h_s54.mono le) S168.front4.front4.front4.front4 Xr177) ?_))))
 rintro _ w178 ⟨I179, a_r182, c_r182, rfl, L180, S181, h_r182⟩
 exact cv (ya 18 3 z (sj R1 ▸ yx ⟨I179, rfl, L180, S181.d5⟩))
 refine yy 73 G ?_
 iterate 6 refine yaj ?_
 exact ya 20 1 z (sj R1 ▸ yx ⟨I135, rfl, lr, S168.d5⟩)
 rintro _ w193 ⟨I171, rfl, L172, S194⟩
 refine ya 21 1 z (bsk D fun j195 R1 D => yal (l1 := [22, 23]) (J := JI E I171 [(83, .bool j195)] Os) ?_ ?_)
 refine yak R1 (fun G R1 => ?_) (fun G R1 => ?_)
 exact yy 81 G (bsk R1 fun r204 Xr199 R1 => WO.c1 (law22_works_ok  S194 Xr199) z fun I201 w200 L202 S203 => ya 23 1 z (sj R1 ▸ yx ⟨I201, rfl, L202, S203⟩))
 refine yy 81 G (yaj ?_)
 exact ya 23 1 z (sj R1 ▸ yx ⟨I171, rfl, lr, S194⟩)
 rintro _ w205 ⟨I197, rfl, L198, S206⟩
 exact ya 24 1 z (yb (yp (sj D ▸ yw ⟨I197, rfl, le, S206⟩)))
end Go.Proofs.YtpgmbifboopfmaaGreat
