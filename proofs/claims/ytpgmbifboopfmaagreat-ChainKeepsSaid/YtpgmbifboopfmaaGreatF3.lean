/- What functions of the program come to, each by a plain one. Conditions: none. -/
import Derived.Test.YtpgmbifboopfmaaGreatF2
import Derived.Test.YtpgmbifboopfmaaGreatProg
set_option maxRecDepth 100000
namespace Go.Proofs.YtpgmbifboopfmaaGreat
open Go.Gv
set_option maxHeartbeats 1000000
variable {E w : World} {I : Mem} {Os : List Mem}
noncomputable def r17_refers_nnsl (p0 : qC) (p1 : By8) (p2 : By8) (p3 : By8) (p4 : List By8) : Option Bool := (forN (fun (i8 : Nat) (_s : Unit) => (idx p0.Tables (i8 : Int)).bind (fun x15 => (loopO (fun (s25 : Int) => (some ((decide (s25 < (x15.Cons.length : Int))) && (!sEq x15.Name p2))).bind (fun (q31 : Bool) => (bif q31 then ((idx x15.Cons s25).bind (fun x38 => (bif ((x38.Kind != 3) || (!sEq x38.Table p1)) then some (.inl ()) else (r17_alike x38.Refs p4).bind (fun r53 => (bif r53 then some (.inr true) else some (.inl ())))))).bind (fun (t : Unit ⊕ Bool) => match t with | (.inl ()) => some (.inl (w64 (s25 + 1))) | (.inr s55) => some (.inr (.inl s55))) else some (.inr (.inr ()))))) 0).bind (fun (t : Bool ⊕ Unit) => match t with | (.inl s57) => some (.inr s57) | (.inr ()) => some (.inl ())))) p0.Tables.length 0 ()).bind (fun (t : Unit ⊕ (Bool)) => match t with | .inl _ => some false | .inr s59 => some s59)
theorem r17_refers_nnsl_ok {p0 : qC} {p1 : By8} {p2 : By8} {p3 : By8} {p4 : List By8} {w_p0 : W_qC} {a_p4 : Option Addr} {c_p4 : Nat} (h_p0 : ok_qC I p0 w_p0) (h_p4 : RSl 1 RStr I a_p4 c_p4 p4) (hnn_p4 : a_p4.isNone = false) (hS : St E w I Os) {r : Bool} (D : r17_refers_nnsl p0 p1 p2 p3 p4 = some r) :
    Calls P 59 #[(vC p0 w_p0), (.string p1), (.string p2), (.string p3), (Sl a_p4 p4 c_p4)] w (RT E I Os (.bool r)) := by
 refine calls_W (fn := Tryz.f59) rfl rfl rfl ?_
 unfold r17_refers_nnsl at D
 refine yg nL2 (yab hS (cs_qC p0 w_p0) 29 z fun b1 w4 S3 => ya 1 1 z (yb (W.seq (yg [0] (ya 0 1 z (yb (yn (bsk D fun t5 hloop9 D => have hlt13 := (h_p0.Tables).len_lt; W.wk (yap (m := p0.Tables.length) hloop9 (fun (i8 : Nat) (_s : Unit) => JI E I [(1, .string p1), (2, .string p2), (3, .string p3), (4, Sl a_p4 p4 c_p4), (5, Pt b1 0), (11, Nv i8)] (bC b1 p0 w_p0 :: Os)) ⟨I, rfl, lr, S3⟩ ?_ ?_)))))))))
 rintro i8 _ _ w10 hi14 ⟨I6, rfl, L7, S11⟩ x12 R1 hext5
 refine W.seq (yg nL5 (yf 0 2 [1] z (yj (S11.rf m0) z (ya 3 2 z (yb (yat fun _ => W.skip (ye (W.seq (yn (yg nL7 (yf 0 1 [1] z (yj (S11.rf m0) z (ya 2 1 z ?_)))))))))))))
 obtain ⟨x15, R1, Hx15, _, ⟨w_x15, rfl, h_x15⟩, Zx15⟩ := sx I6 h_p0.Tables R1
 refine y0 78 6 Hx15 z (yaq ((cs_qT x15 w_x15)) Zx15 0 S11.rm z (yab S11 (cs_qT z_qT zw_qT) 78 z fun b16 w19 S18 => yaa S18 0 (cs_qT x15 w_x15) fun w21 S20 => yac [0] (ya 0 1 z (yb (yn (bsk R1 fun t22 hloop26 R1 => W.wk (ya7 hloop26 (fun (s25 : Int) => JI E I6 [(1, .string p1), (2, .string p2), (3, .string p3), (4, Sl a_p4 p4 c_p4), (5, Pt b1 0), (11, Nv i8), (12, Pt b16 0), (13, Iv s25)] (bC b1 p0 w_p0 :: (bT b16 x15 w_x15) :: Os)) ⟨I6, rfl, lr, S20.front1⟩ ?_)))))))
 rintro s25 _ w28 ⟨I23, rfl, L24, S29⟩ x30 R2 hext22
 refine W.seq (yg nL11 (yf 0 2 [4] z (yj (S29.rf m1) z (ya 3 3 z (bsq R2 fun q31 Xq31 R2 => yaw [6, 7, 8, 9] 10 32 37 Xq31 (fun _ => yf 6 1 [0] z (yj (S29.rf m1) z (ya 8 3 z yak))) (yb (y6 R2 (fun G R2 => ?_) (fun G R2 => ?_))))))))
 refine W.skip (ye (W.seq (bsk R2 fun j34 R3 R2 => yay (J := (fun fr w => ∃ I36, (.inl ()) = j34 ∧ fr = [(1, .string p1), (2, .string p2), (3, .string p3), (4, Sl a_p4 p4 c_p4), (5, Pt b1 0), (11, Nv i8), (12, Pt b16 0), (13, Iv s25)] ∧ I23.Le I36 ∧ St E w I36 (bC b1 p0 w_p0 :: (bT b16 x15 w_x15) :: Os))) ?_ ?_)))
 refine yn (yg nL7 (yf 0 1 [4] z (yj (S29.rf m1) z (ya 2 1 z ?_))))
 obtain ⟨x38, R3, Hx38, _, ⟨w_x38, rfl, h_x38⟩, Zx38⟩ := sx I23 h_x15.Cons R3
 refine y0 137 12 Hx38 z (yaq ((cs_qK x38 w_x38)) Zx38 0 S29.rm z (yab S29 (cs_qK z_qK zw_qK) 137 z fun b39 w42 S41 => yaa S41 0 (cs_qK x38 w_x38) fun w44 S43 => yb (W.seq (yg nL9 (yf 0 1 [1] z (yj (S43.rf m0) z (ya 2 2 z (yav [4, 5, 6, 7] 8 48 53 (.refl ((x38.Kind != 3) || (!sEq x38.Table p1))) (fun _ => yf 4 1 [10] z (yj (S43.rf m0) z (ya 6 3 z yak))) (yb (y6 R3 (fun G R3 => ?_) (fun G R3 => ?_)))))))))))
 exact W.exit (yo (yu (yv ⟨I23, sj R3, rfl, lr, S43.drop⟩)))
 refine W.skip (ye (yg nL22 (ya 0 1 z (ybk (e := 9) z kr kr z z ?_))))
 refine y8 55 z (v := .bool false) (by rw [hnn_p4] <;> rfl) ?_
 refine ya 2 1 z ?_
 iterate 8 refine WO.ps ?_
 refine ya 11 3 z (WO.neNil (e := 9) z kr kr z z ?_)
 refine y8 68 z (v := .bool true) (by rw [hnn_p4] <;> rfl) ?_
 refine yf 15 2 [11] z (yj (S43.rf m0) z (ya 18 1 z (bsk R3 fun r53 Xr48 R3 => WO.c1 (r17_alike_ok h_x38.Refs (up h_p4) S43 Xr48) z fun I50 w49 L51 S52 => ya 20 2 z (yb (y6 R3 (fun G R3 => ?_) (fun G R3 => ?_))))))
 refine yg [0] (ya 0 1 z (yb (yp (yk (yr ?_)))))
 obtain rfl := sj R3
 refine yh (yr ?_)
 obtain rfl := hext22 _ (sj R2).symm
 refine yk (yk (yh (yr ?_)))
 obtain rfl := hext5 _ (sj R1).symm
 exact yk (yh (sj D ▸ yw ⟨I50, rfl, le, S52.d3⟩))
 exact W.skip (yl (yv ⟨I50, sj R3, rfl, L51, S52.drop⟩))
 rintro _ w69 ⟨I36, rfl, rfl, L37, S70⟩
 exact ye (yai nL3 (ya 0 3 z (yt (yv ⟨(w64 (s25 + 1)), (sj R2).symm, I36, rfl, le, S70⟩))))
 refine W.exit (yo (yq ?_))
 obtain rfl := hext22 _ (sj R2).symm
 exact yu (yl (ye (yai nL3 (ya 0 1 z (yao i8 z (ya 2 1 z (yt (yv ⟨(), (sj R1).symm, I23, rfl, le, S29.front1.drop⟩))))))))
 rintro _ _ w75 ⟨I6, rfl, L7, S76⟩ he
 cases he
 exact W.seq (yg nL5 (yf 0 2 [1] z (yj (S76.rf m0) z (ya 3 2 z (yb (yas fun _ => W.exit (yo (yq (yu (ye (yg [0] (ya 0 1 z (yb (yp (sj D ▸ yw ⟨I6, rfl, L7, S76.drop⟩)))))))))))))))
noncomputable def r17_dropped (p0 : qC) (p1 : qT) (p2 : By8) : Option (qT × Int) := (forN (fun (i17 : Nat) (s16 : qT) => (idx p1.Cons (i17 : Int)).bind (fun x26 => (bif (!sEq x26.Name p2) then some (.inl s16) else (app 16 ([] : List By8) x26.Cols).bind (fun x41 => ((bif (x26.Kind == 1) then (r17_keys p1 x41).bind (fun r61 => some (r61 == 1)) else some false)).bind (fun (j52 : Bool) => ((bif j52 then (must (!(x41).isEmpty)).bind (fun _ => (r17_refers_nnsl p0 p1.Name eB eB x41).bind (fun r77 => some r77)) else some false)).bind (fun (j67 : Bool) => (bif j67 then some (.inr ((34 : Int), p1)) else (r17_Copy p1).bind (fun r98 => (sub p1.Cons 0 (i17 : Int)).bind (fun x121 => (app 176 ([] : List qK) x121).bind (fun x124 => (sub p1.Cons (w64 ((i17 : Int) + 1)) (p1.Cons.length : Int)).bind (fun x136 => (app 176 x124 x136).bind (fun x138 => some (.inr ((0 : Int), { r98 with Cols := r98.Cols, Cons := x138, Idx := r98.Idx })))))))))))))) p1.Cons.length 0 z_qT).bind (fun (t : qT ⊕ ((Int × qT))) => match t with | .inl s16 => some (p1, 4) | .inr (s86, s87) => some (s87, s86))
theorem r17_dropped_ok {p0 : qC} {p1 : qT} {p2 : By8} {w_p0 : W_qC} {w_p1 : W_qT} (h_p0 : ok_qC I p0 w_p0) (h_p1 : ok_qT I p1 w_p1) (hS : St E w I Os) {r : qT × Int} (D : r17_dropped p0 p1 p2 = some r) :
    Calls P 93 #[(vC p0 w_p0), (vT p1 w_p1), (.string p2)] w (fun e w' => ∃ I' w_rw0, e = .returned (.tuple #[(vT r.1 w_rw0), (Iv r.2)]) ∧ I.Le I' ∧ St E w' I' Os ∧ ok_qT I' r.1 w_rw0) := by
 refine calls_W (fn := Tryz.f93) rfl rfl rfl ?_
 unfold r17_dropped at D
 refine yg nL4 (yab hS (cs_qC p0 w_p0) 29 z fun b1 w4 S3 => yab S3 (cs_qT p1 w_p1) 78 z fun b5 w8 S7 => yab S7 (cs_qT z_qT zw_qT) 78 z fun b9 w12 S11 => ya 3 1 z (yb (W.seq (yg [0] (ya 0 1 z (yb (yn (bsk D fun t13 hloop18 D => have hlt24 := (h_p1.Cons).len_lt; W.wk (yap (m := p1.Cons.length) hloop18 (fun (i17 : Nat) (s16 : qT) fr w => ∃ I14 w_s16, fr = [(2, .string p2), (3, Pt b1 0), (4, Pt b5 0), (6, Pt b9 0), (8, Nv i17)] ∧ I.Le I14 ∧ St E w I14 (bC b1 p0 w_p0 :: (bT b5 p1 w_p1) :: (bT b9 s16 w_s16) :: Os) ∧ ok_qT I14 s16 w_s16) ⟨I, zw_qT, rfl, lr, S11.front1.front2, zok_qT⟩ ?_ ?_)))))))))
 rintro i17 s16 _ w21 hi25 ⟨I14, w_s16, rfl, L15, S22, h_s16⟩ x23 R1 hext13
 refine W.seq (yg nL5 (yf 0 2 [4] z (yj (S22.rf m1) z (ya 3 2 z (yb (yat fun _ => W.skip (ye (W.seq (yn (yg nL7 (yf 0 1 [4] z (yj (S22.rf m1) z (ya 2 1 z ?_)))))))))))))
 obtain ⟨x26, R1, Hx26, _, ⟨w_x26, rfl, h_x26⟩, Zx26⟩ := sx I14 h_p1.Cons R1
 refine y0 137 12 Hx26 z (yaq ((cs_qK x26 w_x26)) Zx26 0 S22.rm z (yab S22 (cs_qK z_qK zw_qK) 137 z fun b27 w30 S29 => yaa S29 0 (cs_qK x26 w_x26) fun w32 S31 => yb (W.seq (yg nL4 (yf 0 1 [0] z (yj (S31.rf m0) z (ya 2 2 z (yb (y6 R1 (fun G R1 => ?_) (fun G R1 => ?_))))))))))
 exact W.exit (yo (yu (ye (yai nL3 (ya 0 1 z (yao i17 z (ya 2 1 z (yt (yv ⟨s16, (sj R1).symm, I14, w_s16, rfl, L15, S31.drop, h_s16⟩)))))))))
 refine W.skip (ye (yg nL5 (yad (rel := RStr) (xs := ([] : List By8)) S31 z kr z 9 1 [] kr z (Elr.nil) tv ?_)))
 intro a37 C35 w39 S38 ho36
 refine yf 1 1 [2] z (yj (S38.rf m1) z (apk R1 fun x41 h0_x41 he_x41 R1 => yau 9 16 [(.string eB)] S38 ho36 h_x26.Cols S38.im h0_x41 he_x41 z ?_))
 intro a42 c43 w44 C45 S46 ho47
 obtain ⟨I48, L49, S51, hp50⟩ := yag ho47 S46
 refine ya 4 1 z (yb (W.seq (yg nL16 (yf 0 1 [1] z (yj (S51.rf m0) z (ya 2 2 z (bsk R1 fun j52 R2 R1 => yam (l1 := [4, 5, 6, 7, 8]) (J := JI E I48 [(3, Pt b1 0), (4, Pt b5 0), (6, Pt b9 0), (8, Nv i17), (10, Sl a42 x41 c43), (40, .bool j52)] (bC b1 p0 w_p0 :: (bT b5 p1 w_p1) :: (bT b9 s16 w_s16) :: Os)) ?_ ?_)))))))
 refine yal R2 (fun G R2 => ?_) (fun G R2 => ?_)
 exact yz 35 G (y7 ((cs_qT p1 w_p1)) (S51.rf m2) z (ya 5 1 z (bsk R2 fun r61 Xr56 R2 => WO.c1 (r17_keys_ok (h_p1.mono le) hp50 S51 Xr56) z fun I58 w57 L59 S60 => ya 7 2 z (sj R2 ▸ yy ⟨I58, rfl, L59, S60.drop⟩))))
 refine yz 35 G ?_
 iterate 4 refine WO.ps ?_
 exact ya 8 1 z (sj R2 ▸ yy ⟨I48, rfl, lr, S51.drop⟩)
 rintro _ w65 ⟨I54, rfl, L55, S66⟩
 refine ya 9 1 z (bsk R1 fun j67 R2 R1 => yam (l1 := [10, 11, 12, 13, 14, 15]) (J := JI E I54 [(4, Pt b5 0), (6, Pt b9 0), (8, Nv i17), (47, .bool j67)] (bT b5 p1 w_p1 :: (bT b9 s16 w_s16) :: Os)) ?_ ?_)
 refine yal R2 (fun G R2 => ?_) (fun G R2 => ?_)
 exact yz 41 G (y7 ((cs_qC p0 w_p0)) (S66.rf m0) z (yf 11 1 [0] z (yj (S66.rf m1) z (ya 13 1 z (bsk R2 fun _ hm71 R2 => have nn_hm71 := nn_of (RSl.mono hp50 L55) (must_some hm71); bsk R2 fun r77 Xr72 R2 => WO.c1 (r17_refers_nnsl_ok (h_p0.mono le) (RSl.mono hp50 L55) nn_hm71 S66 Xr72) z fun I74 w73 L75 S76 => ya 15 1 z (sj R2 ▸ yy ⟨I74, rfl, L75, S76.drop⟩))))))
 refine yz 41 G ?_
 iterate 5 refine WO.ps ?_
 exact ya 15 1 z (sj R2 ▸ yy ⟨I54, rfl, lr, S66.drop⟩)
 rintro _ w80 ⟨I69, rfl, L70, S81⟩
 refine yb (y6 R1 (fun G R1 => ?_) (fun G R1 => ?_))
 refine yg nL3 (y7 ((cs_qT p1 w_p1)) (S81.rf m0) z (yaa S81.front1 0 (cs_qT p1 w_p1) fun w84 S83 => ya 2 1 z (yb (yp (yh (yk (yh (yr ?_))))))))
 obtain rfl := hext13 _ (sj R1).symm
 exact yk (yh (sj D ▸ ya5 _ (S83.rd m0) ⟨I69, w_p1, rfl, le, S83.d2, (h_p1.mono le)⟩))
 refine W.skip (ye (yg nL4 (y7 ((cs_qT p1 w_p1)) (S81.rf m0) z (bsk R1 fun r98 Xr93 R1 => yae (r17_Copy_ok (h_p1.mono le) S81 Xr93) ?_))))
 rintro _ w94 ⟨I95, w_r98, C_r98_3, C_r98_4, C_r98_5, rfl, L96, S97, h_r98_3, h_r98_4, h_r98_5⟩
 refine cv (yab S97 (cs_qT z_qT zw_qT) 78 z ?_)
 intro b99 w102 S101
 obtain ⟨I104, L105, S107, hp106⟩ := yag h_r98_3 S101.front1
 obtain ⟨I109, L110, S112, hp111⟩ := yag (h_r98_5.mono L105) S107.front2
 refine yaa S112 0 (cs_qT ({ r98 with Cols := r98.Cols, Cons := r98.Cons, Idx := r98.Idx }) (⟨⟨w_r98.Cols.a, w_r98.Cols.c⟩, ⟨w_r98.Cons.a, w_r98.Cons.c⟩, ⟨w_r98.Idx.a, w_r98.Idx.c⟩⟩ : W_qT)) fun w114 S113 => yac nL2 (yf 0 1 [4] z (yaa S113 4 (cs_qT ({ r98 with Cols := r98.Cols, Cons := ([] : List qK), Idx := r98.Idx }) (⟨⟨w_r98.Cols.a, w_r98.Cols.c⟩, ⟨none, 0⟩, ⟨w_r98.Idx.a, w_r98.Idx.c⟩⟩ : W_qT)) fun w116 S115 => yb (W.seq (have S119 := S115.front1.drop.drew; ya1 nL9 6 (ym (S119.rd m0) (ym (S119.rd m1) (yx S119.im))) ?_))))
 generalize World.drew _ = w120 at *
 refine yf 0 1 [4] z (yj (rd_c m0 (S119.rd m0)) z (yf 2 1 [4] z (yj (rd_c m1 (S119.rd m1)) z (ya 4 1 z ?_))))
 obtain ⟨x121, Xx121, R1⟩ := bsm R1
 obtain ⟨h0_x121, h1_x121, h2_x121, he_x121⟩ := sub_some Xx121
 have hl_x121 : ((i17 : Int) : Int) ≤ (w_p1.Cons.c : Int) := Int.le_trans h2_x121 (Int.ofNat_le.2 ((RSl.mono h_p1.Cons ((((((L15.trans L49).trans L55).trans L70).trans L96).trans L105).trans L110))).le)
 refine ya3 (e := 137) (sz := 12) z kr kr kr z (0 : Int) ((i17 : Int) : Int) h0_x121 (.inl ⟨rfl, rfl⟩) (.inr ⟨_, _, rfl, rfl⟩) h1_x121 hl_x121 ?_
 obtain ⟨a_x121, c_x121, h_x121, ev_x121⟩ := sub_ok ((RSl.mono h_p1.Cons ((((((L15.trans L49).trans L55).trans L70).trans L96).trans L105).trans L110))) h0_x121 h1_x121 h2_x121 he_x121
 refine y8 57 z ev_x121 ?_
 refine WO.tail z (have S123 := S119.no; apk R1 fun x124 h0_x124 he_x124 R1 => ya6 (e' := 137) (b := 176) (zs := (cs_qK z_qK zw_qK).toArray) S123 (OwnSl.nil (T := 137) (rel := R_qK) (I := I109)) z kr z kr kr kr z z z z h_x121 S123.im h0_x124 he_x124 tv ?_)
 intro a125 c126 w127 C128 S129 ho130
 refine yf 7 1 [4] z (yaa S129.front1 4 (cs_qT ({ r98 with Cols := r98.Cols, Cons := x124, Idx := r98.Idx }) (⟨⟨w_r98.Cols.a, w_r98.Cols.c⟩, ⟨a125, c126⟩, ⟨w_r98.Idx.a, w_r98.Idx.c⟩⟩ : W_qT)) fun w133 S132 => yb (W.seq (have S134 := S132.drew; ya1 nL10 7 (ym (S134.rd m0) (ym (S134.rd m2) (yx S134.im))) ?_)))
 generalize World.drew _ = w135 at *
 refine yf 0 1 [4] z (yj (rd_c m0 (S134.rd m0)) z (yf 2 1 [4] z (yj (rd_c m1 (S134.rd m2)) z (ya 4 2 z ?_))))
 obtain ⟨x136, Xx136, R1⟩ := bsm R1
 obtain ⟨h0_x136, h1_x136, h2_x136, he_x136⟩ := sub_some Xx136
 have hl_x136 : ((p1.Cons.length : Int) : Int) ≤ (w_p1.Cons.c : Int) := Int.le_trans h2_x136 (Int.ofNat_le.2 ((RSl.mono h_p1.Cons ((((((L15.trans L49).trans L55).trans L70).trans L96).trans L105).trans L110))).le)
 refine ya3 (e := 137) (sz := 12) z kr kr kr z ((w64 ((i17 : Int) + 1)) : Int) ((p1.Cons.length : Int) : Int) h0_x136 (.inr ⟨_, _, rfl, rfl⟩) (.inl ⟨rfl, rfl⟩) h1_x136 hl_x136 ?_
 obtain ⟨a_x136, c_x136, h_x136, ev_x136⟩ := sub_ok ((RSl.mono h_p1.Cons ((((((L15.trans L49).trans L55).trans L70).trans L96).trans L105).trans L110))) h0_x136 h1_x136 h2_x136 he_x136
 refine y8 66 z ev_x136 ?_
 refine WO.tail z (have S137 := S134.front1; apk R1 fun x138 h0_x138 he_x138 R1 => yau 137 176 (cs_qK z_qK zw_qK) S137 ho130 h_x136 S137.im h0_x138 he_x138 z fun a139 c140 w141 C142 S143 ho144 => yf 8 1 [4] z (yaa S143.front1 4 (cs_qT ({ r98 with Cols := r98.Cols, Cons := x138, Idx := r98.Idx }) (⟨⟨w_r98.Cols.a, w_r98.Cols.c⟩, ⟨a139, c140⟩, ⟨w_r98.Idx.a, w_r98.Idx.c⟩⟩ : W_qT)) fun w147 S146 => yac nL3 (y7 ((cs_qT ({ r98 with Cols := r98.Cols, Cons := x138, Idx := r98.Idx }) (⟨⟨w_r98.Cols.a, w_r98.Cols.c⟩, ⟨a139, c140⟩, ⟨w_r98.Idx.a, w_r98.Idx.c⟩⟩ : W_qT))) (S146.rf m0) z ?_)))
 obtain ⟨I149, L150, S152, hp151⟩ := yag ho144 S146.front1
 refine yaa S152.front2 0 (cs_qT ({ r98 with Cols := r98.Cols, Cons := x138, Idx := r98.Idx }) (⟨⟨w_r98.Cols.a, w_r98.Cols.c⟩, ⟨a139, c140⟩, ⟨w_r98.Idx.a, w_r98.Idx.c⟩⟩ : W_qT)) fun w155 S154 => ya 2 1 z (yb (yp (yk (yh (yr ?_)))))
 have hk156 : ok_qT I149 ({ r98 with Cols := r98.Cols, Cons := x138, Idx := r98.Idx }) (⟨⟨w_r98.Cols.a, w_r98.Cols.c⟩, ⟨a139, c140⟩, ⟨w_r98.Idx.a, w_r98.Idx.c⟩⟩ : W_qT) := ⟨(RSl.mono hp106 (L110.trans L150)), hp151, (RSl.mono hp111 L150)⟩
 obtain rfl := hext13 _ (sj R1).symm
 refine yk (yh ?_)
 have hk160 : ok_qT I149 ({ r98 with Cols := r98.Cols, Cons := x138, Idx := r98.Idx }) (⟨⟨w_r98.Cols.a, w_r98.Cols.c⟩, ⟨a139, c140⟩, ⟨w_r98.Idx.a, w_r98.Idx.c⟩⟩ : W_qT) := ⟨(RSl.mono hp106 (L110.trans L150)), hp151, (RSl.mono hp111 L150)⟩
 exact sj D ▸ ya5 _ (S154.rd m0) ⟨I149, (⟨⟨w_r98.Cols.a, w_r98.Cols.c⟩, ⟨a139, c140⟩, ⟨w_r98.Idx.a, w_r98.Idx.c⟩⟩ : W_qT), rfl, le, S154.d3, hk160⟩
 rintro s16 _ w161 ⟨I14, w_s16, rfl, L15, S162, h_s16⟩ he
 cases he
 exact W.seq (yg nL5 (yf 0 2 [4] z (yj (S162.rf m1) z (ya 3 2 z (yb (yas fun _ => W.exit (yo (yq (yu (ye (yg nL3 (y7 ((cs_qT p1 w_p1)) (S162.rf m1) z (yaa S162.front2 0 (cs_qT p1 w_p1) fun w165 S164 => ya 2 1 z (yb (yp (sj D ▸ ya5 _ (S164.rd m0) ⟨I14, w_p1, rfl, L15, S164.d3, (h_p1.mono L15)⟩))))))))))))))))
noncomputable def r17_refers_nilsl (p0 : qC) (p1 : By8) (p2 : By8) (p3 : By8) : Option Bool := (forN (fun (i8 : Nat) (_s : Unit) => (idx p0.Tables (i8 : Int)).bind (fun x15 => (loopO (fun (s25 : Int) => (some ((decide (s25 < (x15.Cons.length : Int))) && (!sEq x15.Name p2))).bind (fun (q31 : Bool) => (bif q31 then ((idx x15.Cons s25).bind (fun x38 => (bif ((x38.Kind != 3) || (!sEq x38.Table p1)) then some (.inl ()) else ((bif (sEq p3 eB) then some true else (r14_Has x38.Refs p3).bind (fun r59 => some r59))).bind (fun (j48 : Bool) => ((bif j48 then some true else some false)).bind (fun (j64 : Bool) => (bif j64 then some (.inr true) else some (.inl ()))))))).bind (fun (t : Unit ⊕ Bool) => match t with | (.inl ()) => some (.inl (w64 (s25 + 1))) | (.inr s75) => some (.inr (.inl s75))) else some (.inr (.inr ()))))) 0).bind (fun (t : Bool ⊕ Unit) => match t with | (.inl s77) => some (.inr s77) | (.inr ()) => some (.inl ())))) p0.Tables.length 0 ()).bind (fun (t : Unit ⊕ (Bool)) => match t with | .inl _ => some false | .inr s79 => some s79)
theorem r17_refers_nilsl_ok {p0 : qC} {p1 : By8} {p2 : By8} {p3 : By8} {w_p0 : W_qC} (h_p0 : ok_qC I p0 w_p0) (hS : St E w I Os) {r : Bool} (D : r17_refers_nilsl p0 p1 p2 p3 = some r) :
    Calls P 59 #[(vC p0 w_p0), (.string p1), (.string p2), (.string p3), (.slice none 0 0)] w (RT E I Os (.bool r)) := by
 refine calls_W (fn := Tryz.f59) rfl rfl rfl ?_
 unfold r17_refers_nilsl at D
 refine yg nL2 (yab hS (cs_qC p0 w_p0) 29 z fun b1 w4 S3 => ya 1 1 z (yb (W.seq (yg [0] (ya 0 1 z (yb (yn (bsk D fun t5 hloop9 D => have hlt13 := (h_p0.Tables).len_lt; W.wk (yap (m := p0.Tables.length) hloop9 (fun (i8 : Nat) (_s : Unit) => JI E I [(1, .string p1), (2, .string p2), (3, .string p3), (4, .slice none 0 0), (5, Pt b1 0), (11, Nv i8)] (bC b1 p0 w_p0 :: Os)) ⟨I, rfl, lr, S3⟩ ?_ ?_)))))))))
 rintro i8 _ _ w10 hi14 ⟨I6, rfl, L7, S11⟩ x12 R1 hext5
 refine W.seq (yg nL5 (yf 0 2 [1] z (yj (S11.rf m0) z (ya 3 2 z (yb (yat fun _ => W.skip (ye (W.seq (yn (yg nL7 (yf 0 1 [1] z (yj (S11.rf m0) z (ya 2 1 z ?_)))))))))))))
 obtain ⟨x15, R1, Hx15, _, ⟨w_x15, rfl, h_x15⟩, Zx15⟩ := sx I6 h_p0.Tables R1
 refine y0 78 6 Hx15 z (yaq ((cs_qT x15 w_x15)) Zx15 0 S11.rm z (yab S11 (cs_qT z_qT zw_qT) 78 z fun b16 w19 S18 => yaa S18 0 (cs_qT x15 w_x15) fun w21 S20 => yac [0] (ya 0 1 z (yb (yn (bsk R1 fun t22 hloop26 R1 => W.wk (ya7 hloop26 (fun (s25 : Int) => JI E I6 [(1, .string p1), (2, .string p2), (3, .string p3), (4, .slice none 0 0), (5, Pt b1 0), (11, Nv i8), (12, Pt b16 0), (13, Iv s25)] (bC b1 p0 w_p0 :: (bT b16 x15 w_x15) :: Os)) ⟨I6, rfl, lr, S20.front1⟩ ?_)))))))
 rintro s25 _ w28 ⟨I23, rfl, L24, S29⟩ x30 R2 hext22
 refine W.seq (yg nL11 (yf 0 2 [4] z (yj (S29.rf m1) z (ya 3 3 z (bsq R2 fun q31 Xq31 R2 => yaw [6, 7, 8, 9] 10 32 37 Xq31 (fun _ => yf 6 1 [0] z (yj (S29.rf m1) z (ya 8 3 z yak))) (yb (y6 R2 (fun G R2 => ?_) (fun G R2 => ?_))))))))
 refine W.skip (ye (W.seq (bsk R2 fun j34 R3 R2 => yay (J := (fun fr w => ∃ I36, (.inl ()) = j34 ∧ fr = [(1, .string p1), (2, .string p2), (3, .string p3), (4, .slice none 0 0), (5, Pt b1 0), (11, Nv i8), (12, Pt b16 0), (13, Iv s25)] ∧ I23.Le I36 ∧ St E w I36 (bC b1 p0 w_p0 :: (bT b16 x15 w_x15) :: Os))) ?_ ?_)))
 refine yn (yg nL7 (yf 0 1 [4] z (yj (S29.rf m1) z (ya 2 1 z ?_))))
 obtain ⟨x38, R3, Hx38, _, ⟨w_x38, rfl, h_x38⟩, Zx38⟩ := sx I23 h_x15.Cons R3
 refine y0 137 12 Hx38 z (yaq ((cs_qK x38 w_x38)) Zx38 0 S29.rm z (yab S29 (cs_qK z_qK zw_qK) 137 z fun b39 w42 S41 => yaa S41 0 (cs_qK x38 w_x38) fun w44 S43 => yb (W.seq (yg nL9 (yf 0 1 [1] z (yj (S43.rf m0) z (ya 2 2 z (yav [4, 5, 6, 7] 8 48 53 (.refl ((x38.Kind != 3) || (!sEq x38.Table p1))) (fun _ => yf 4 1 [10] z (yj (S43.rf m0) z (ya 6 3 z yak))) (yb (y6 R3 (fun G R3 => ?_) (fun G R3 => ?_)))))))))))
 exact W.exit (yo (yu (yv ⟨I23, sj R3, rfl, lr, S43.drop⟩)))
 refine W.skip (ye (yg nL22 (ya 0 1 z (ybk (e := 9) z kr kr z z ?_))))
 refine y8 55 z (v := .bool true) z ?_
 refine ya 2 4 z (bsk R3 fun j48 R4 R3 => yam (l1 := [6, 7, 8, 9, 10]) (J := JI E I23 [(1, .string p1), (2, .string p2), (3, .string p3), (4, .slice none 0 0), (5, Pt b1 0), (11, Nv i8), (12, Pt b16 0), (13, Iv s25), (14, Pt b39 0), (56, .bool true), (64, .bool j48)] (bC b1 p0 w_p0 :: (bT b16 x15 w_x15) :: (bK b39 x38 w_x38) :: Os)) ?_ ?_)
 refine yal R4 (fun G R4 => ?_) (fun G R4 => ?_)
 refine yz 59 G ?_
 iterate 4 refine WO.ps ?_
 exact ya 10 1 z (sj R4 ▸ yy ⟨I23, rfl, lr, S43.front2.front2⟩)
 exact yz 59 G (yf 6 1 [11] z (yj (S43.rf m0) z (ya 8 1 z (bsk R4 fun r59 Xr54 R4 => WO.c1 (r14_Has_ok h_x38.Refs S43 Xr54) z fun I56 w55 L57 S58 => ya 10 1 z (sj R4 ▸ yy ⟨I56, rfl, L57, S58.front2.front2⟩)))))
 rintro _ w62 ⟨I50, rfl, L51, S63⟩
 refine ya 11 2 z (bsk R3 fun j64 R4 R3 => yam (l1 := [13, 14, 15, 16, 17, 18, 19, 20, 21]) (J := JI E I50 [(1, .string p1), (2, .string p2), (3, .string p3), (4, .slice none 0 0), (5, Pt b1 0), (11, Nv i8), (12, Pt b16 0), (13, Iv s25), (75, .bool j64)] (bC b1 p0 w_p0 :: (bT b16 x15 w_x15) :: Os)) ?_ ?_)
 refine yal R4 (fun G R4 => ?_) (fun G R4 => ?_)
 refine yz 66 G ?_
 iterate 8 refine WO.ps ?_
 exact ya 21 1 z (sj R4 ▸ yy ⟨I50, rfl, lr, S63.front2.drop⟩)
 refine yz 66 G (ya 13 1 z (WO.neNil (e := 9) z kr kr z z ?_))
 refine y8 68 z (v := .bool false) z ?_
 refine ya 15 1 z ?_
 iterate 4 refine WO.ps ?_
 exact ya 20 2 z (sj R4 ▸ yy ⟨I50, rfl, lr, S63.front2.drop⟩)
 rintro _ w72 ⟨I66, rfl, L67, S73⟩
 refine yb (y6 R3 (fun G R3 => ?_) (fun G R3 => ?_))
 refine yg [0] (ya 0 1 z (yb (yp (yk (yr ?_)))))
 obtain rfl := sj R3
 refine yh (yr ?_)
 obtain rfl := hext22 _ (sj R2).symm
 refine yk (yk (yh (yr ?_)))
 obtain rfl := hext5 _ (sj R1).symm
 exact yk (yh (sj D ▸ yw ⟨I66, rfl, le, S73.d2⟩))
 exact W.skip (yl (yv ⟨I66, sj R3, rfl, le, S73⟩))
 rintro _ w87 ⟨I36, rfl, rfl, L37, S88⟩
 exact ye (yai nL3 (ya 0 3 z (yt (yv ⟨(w64 (s25 + 1)), (sj R2).symm, I36, rfl, le, S88⟩))))
 refine W.exit (yo (yq ?_))
 obtain rfl := hext22 _ (sj R2).symm
 exact yu (yl (ye (yai nL3 (ya 0 1 z (yao i8 z (ya 2 1 z (yt (yv ⟨(), (sj R1).symm, I23, rfl, le, S29.front1.drop⟩))))))))
 rintro _ _ w93 ⟨I6, rfl, L7, S94⟩ he
 cases he
 exact W.seq (yg nL5 (yf 0 2 [1] z (yj (S94.rf m0) z (ya 3 2 z (yb (yas fun _ => W.exit (yo (yq (yu (ye (yg [0] (ya 0 1 z (yb (yp (sj D ▸ yw ⟨I6, rfl, L7, S94.drop⟩)))))))))))))))
noncomputable def r17_turned (p0 : qC) (p1 : qT) (p2 : qS) : Option (qT × Int) := (r17_Copy p1).bind (fun r22 => (r14_Names p1).bind (fun (r34, r35) => ((bif (p2.Kind == 3) then (bif ((p2.Cols.length : Int) != 1) then some (.inl (2, p1)) else (idx p2.Cols 0).bind (fun x64 => (r14_Col p1 x64.Name).bind (fun r70 => (bif (decide (r70 ≥ 0)) then some (.inl (19, p1)) else (idx p2.Cols 0).bind (fun x84 => (app 32 r22.Cols ([x84] : List qL)).bind (fun x93 => some (.inr (z_qT, x93, r22.Cons, r22.Idx)))))))) else ((bif (p2.Kind == 4) then (r14_Col p1 p2.Name).bind (fun r129 => (bif (decide (r129 < 0)) then some (.inl (4, p1)) else ((bif ((p1.Cols.length : Int) == 1) then some true else (r14_Used p1).bind (fun r171 => (r14_Has r171 p2.Name).bind (fun r177 => some r177)))).bind (fun (j154 : Bool) => ((bif j154 then some true else ((bif (!sEq p2.Name eB) then (r17_refers_nilsl p0 p1.Name eB p2.Name).bind (fun r201 => some r201) else some false)).bind (fun (j192 : Bool) => some j192))).bind (fun (j188 : Bool) => (bif j188 then some (.inl (34, p1)) else (sub p1.Cols 0 r129).bind (fun x224 => (app 32 ([] : List qL) x224).bind (fun x227 => (sub p1.Cols (w64 (r129 + 1)) (p1.Cols.length : Int)).bind (fun x239 => (app 32 x227 x239).bind (fun x241 => some (.inr (z_qT, x241, r22.Cons, r22.Idx))))))))))) else ((bif (p2.Kind == 6) then (bif ((p2.Cons.length : Int) != 1) then some (.inl (2, p1)) else (idx p2.Cons 0).bind (fun x292 => (r14_Has r35 x292.Name).bind (fun r298 => (bif r298 then some (.inl (19, p1)) else (bif (decide ((p1.Cons.length : Int) ≥ 6)) then some (.inl (5, p1)) else (idx p2.Cons 0).bind (fun x323 => (app 176 r22.Cons ([x323] : List qK)).bind (fun x332 => some (.inr (z_qT, x332, r22.Idx))))))))) else ((bif (p2.Kind == 8) then (r14_Has r35 p2.Name).bind (fun r367 => (bif r367 then some (.inl (19, p1)) else (bif (decide ((p1.Idx.length : Int) ≥ 3)) then some (.inl (5, p1)) else (app 40 r22.Idx ([(⟨p2.Name, p2.Names⟩ : qI)] : List qI)).bind (fun x410 => some (.inr (z_qT, x410)))))) else (bif (p2.Kind == 7) then (r17_dropped p0 p1 p2.Name).bind (fun (r440, r441) => some (.inl (r441, r440))) else (bif (p2.Kind == 9) then (forN (fun (i458 : Nat) (s : qT × (List qI)) => match s with | (s456, s457) => (idx p1.Idx (i458 : Int)).bind (fun x476 => (bif (sEq x476.Name p2.Name) then (sub p1.Idx 0 (i458 : Int)).bind (fun x484 => (app 40 ([] : List qI) x484).bind (fun x487 => (sub p1.Idx (w64 ((i458 : Int) + 1)) (p1.Idx.length : Int)).bind (fun x499 => (app 40 x487 x499).bind (fun x501 => some (.inr ((0 : Int), { r22 with Cols := r22.Cols, Cons := r22.Cons, Idx := x501 })))))) else some (.inl (s456, s457))))) p1.Idx.length 0 (z_qT, r22.Idx)).bind (fun (t : (qT × (List qI)) ⊕ ((Int × qT))) => match t with | .inl (s456, s457) => some (.inl (4, p1)) | .inr (s530, s531) => some (.inl (s530, s531))) else some (.inr (z_qT, r22.Idx)))))).bind (fun (t : (Int × qT) ⊕ (qT × (List qI))) => match t with | (.inl (s372, s373)) => some (.inl (s372, s373)) | (.inr (s422, s423)) => some (.inr (s422, r22.Cons, s423))))).bind (fun (t : (Int × qT) ⊕ (qT × (List qK) × (List qI))) => match t with | (.inl (s274, s275)) => some (.inl (s274, s275)) | (.inr (s344, s345, s346)) => some (.inr (s344, r22.Cols, s345, s346))))).bind (fun (t : (Int × qT) ⊕ (qT × (List qL) × (List qK) × (List qI))) => match t with | (.inl (s134, s135)) => some (.inl (s134, s135)) | (.inr (s251, s252, s253, s254)) => some (.inr (s251, s252, s253, s254))))).bind (fun (t : (Int × qT) ⊕ (qT × (List qL) × (List qK) × (List qI))) => match t with | (.inl (s44, s45)) => some (s45, s44) | (.inr (s105, s106, s107, s108)) => some ({ r22 with Cols := s106, Cons := s107, Idx := s108 }, 0))))
theorem r17_turned_ok {p0 : qC} {p1 : qT} {p2 : qS} {w_p0 : W_qC} {w_p1 : W_qT} {w_p2 : W_qS} (h_p0 : ok_qC I p0 w_p0) (h_p1 : ok_qT I p1 w_p1) (h_p2 : ok_qS I p2 w_p2) (hS : St E w I Os) {r : qT × Int} (D : r17_turned p0 p1 p2 = some r) :
    Calls P 61 #[(vC p0 w_p0), (vT p1 w_p1), (vS p2 w_p2)] w (fun e w' => ∃ I' w_rw0, e = .returned (.tuple #[(vT r.1 w_rw0), (Iv r.2)]) ∧ I.Le I' ∧ St E w' I' Os ∧ ok_qT I' r.1 w_rw0) := by
 refine calls_W (fn := Tryz.f61) rfl rfl rfl ?_
 unfold r17_turned at D
 refine yg nL5 (yab hS (cs_qC p0 w_p0) 29 z fun b1 w4 S3 => yab S3 (cs_qT p1 w_p1) 78 z fun b5 w8 S7 => yab S7 (cs_qS p2 w_p2) 46 z fun b9 w12 S11 => yab S11 (cs_qT z_qT zw_qT) 78 z fun b13 w16 S15 => ya 4 1 z (yac nL4 (y7 ((cs_qT p1 w_p1)) (S15.rf m2) z (bsk D fun r22 Xr17 D => yae (r17_Copy_ok h_p1 S15 Xr17) ?_))))
 rintro _ w18 ⟨I19, w_r22, C_r22_3, C_r22_4, C_r22_5, rfl, L20, S21, h_r22_3, h_r22_4, h_r22_5⟩
 refine cv (yab S21 (cs_qT z_qT zw_qT) 78 z fun b23 w26 S25 => yaa S25 0 (cs_qT ({ r22 with Cols := r22.Cols, Cons := r22.Cons, Idx := r22.Idx }) (⟨⟨w_r22.Cols.a, w_r22.Cols.c⟩, ⟨w_r22.Cons.a, w_r22.Cons.c⟩, ⟨w_r22.Idx.a, w_r22.Idx.c⟩⟩ : W_qT)) fun w28 S27 => yac nL7 (y7 ((cs_qT p1 w_p1)) (S27.rf m6) z ?_))
 obtain ⟨⟨r34, r35⟩, Xr29, D⟩ := bsm D
 refine yae (r14_Names_ok (h_p1.mono L20) S27 Xr29) ?_
 rintro _ w30 ⟨I31, a_r34, c_r34, a_r35, c_r35, rfl, L32, S33, h_r34, h_r35⟩
 refine cv (ya 2 5 z (yb (W.seq (yg nL2 (yf 0 1 [0] z (yj (S33.rf m5) z (yb (yn (yg nL2 (ya 0 2 z (yb (bsk D fun j36 R1 D => yay (J := (fun fr w => ∃ (s105 : qT) (s106 : List qL) (s107 : List qK) (s108 : List qI), ∃ I38 w_s105 a_s106 c_s106 C_s106 a_s107 c_s107 C_s107 a_s108 c_s108 C_s108, (.inr (s105, s106, s107, s108)) = j36 ∧ fr = [(6, Pt b13 0), (8, Pt b23 0)] ∧ I31.Le I38 ∧ St E w I38 (bT b13 s105 w_s105 :: (Bx b23 (cs_qT ({ r22 with Cols := s106, Cons := s107, Idx := s108 }) (⟨⟨a_s106, c_s106⟩, ⟨a_s107, c_s107⟩, ⟨a_s108, c_s108⟩⟩ : W_qT)) 78) :: (C_s106) :: (C_s107) :: (C_s108) :: Os) ∧ ok_qT I38 s105 w_s105 ∧ OwnSl 111 3 R_qL I38 C_s106 a_s106 c_s106 s106 ∧ OwnSl 137 12 R_qK I38 C_s107 a_s107 c_s107 s107 ∧ OwnSl 139 2 R_qI I38 C_s108 a_s108 c_s108 s108)) ?_ ?_))))))))))))
 refine y6 R1 (fun G R1 => ?_) (fun G R1 => ?_)
 refine W.seq (yg nL4 (yf 0 1 [4] z (yj (S33.rf m5) z (ya 2 2 z (yb (y6 R1 (fun G R1 => ?_) (fun G R1 => ?_)))))))
 refine yg nL3 (y7 ((cs_qT p1 w_p1)) (S33.rf m6) z (yaa S33.front4 0 (cs_qT p1 w_p1) fun w42 S41 => ya 2 1 z (yb (yp (yh (yr ?_))))))
 obtain rfl := sj R1
 exact yk (yh (sj D ▸ ya5 _ (S41.rd m0) ⟨I31, w_p1, rfl, le, S41.d8, (h_p1.mono le)⟩))
 refine W.skip (ye (W.seq (W.seq (have S62 := S33.drew; ya1 nL8 6 (ym (S62.rd m5) (ym (S62.rd m6) (yx S62.im))) ?_))))
 generalize World.drew _ = w63 at *
 refine y7 ((cs_qT p1 w_p1)) (rd_c m1 (S62.rd m6)) z (yf 1 1 [4] z (yj (rd_c m0 (S62.rd m5)) z ?_))
 obtain ⟨x64, R1, Hx64, _, rfl, Zx64⟩ := sx I31 h_p2.Cols R1
 refine y0 111 3 Hx64 z (yf 4 1 [0] z (yan Zx64 (rd_i S62.im) z (WO.tail z (bsk R1 fun r70 Xr65 R1 => WO.c1 (r14_Col_ok (h_p1.mono le) S62 Xr65) z fun I67 w66 L68 S69 => ya 7 1 z (yb (y6 R1 (fun G R1 => ?_) (fun G R1 => ?_)))))))
 refine yg nL3 (y7 ((cs_qT p1 w_p1)) (S69.rf m6) z (yaa S69.front4 0 (cs_qT p1 w_p1) fun w73 S72 => ya 2 1 z (yb (yp (yh (yr ?_))))))
 obtain rfl := sj R1
 exact yk (yh (sj D ▸ ya5 _ (S72.rd m0) ⟨I67, w_p1, rfl, le, S72.d8, (h_p1.mono le)⟩))
 refine W.skip (ye (have S82 := S69.drew; ya1 nL10 7 (ym (S82.rd m0) (ym (S82.rd m5) (yx S82.im))) ?_))
 generalize World.drew _ = w83 at *
 refine yf 0 1 [3] z (yj (rd_c m0 (S82.rd m0)) z (yf 2 1 [4] z (yj (rd_c m1 (S82.rd m5)) z ?_)))
 obtain ⟨x84, R1, Hx84, _, rfl, Zx84⟩ := sx I67 h_p2.Cols R1
 refine y0 111 3 Hx84 z (yaq ((cs_qL x84)) Zx84 0 (rd_i S82.im) z (yad (rel := R_qL) (xs := ([x84] : List qL)) S82 z kr z 111 3 [(cs_qL x84)] kr z ((Elr.cons z Elr.nil)) (fun C86 w90 S89 => (ym (S89.rd m1) (ym (S89.rd m6) (yx S89.im)))) ?_))
 intro a88 C86 w90 S89 ho87
 exact WO.tail z (have S92 := S89.front2; apk R1 fun x93 h0_x93 he_x93 R1 => yau 111 32 (cs_qL z_qL) S92 (OwnSl.mono h_r22_3 le) ho87.sl (S92.rd m1) h0_x93 he_x93 z fun a94 c95 w96 C97 S98 ho99 => yf 8 1 [3] z (yaa S98.front1.drop.front1 3 (cs_qT ({ r22 with Cols := x93, Cons := r22.Cons, Idx := r22.Idx }) (⟨⟨a94, c95⟩, ⟨w_r22.Cons.a, w_r22.Cons.c⟩, ⟨w_r22.Idx.a, w_r22.Idx.c⟩⟩ : W_qT)) fun w104 S103 => yt (yv ⟨z_qT, x93, r22.Cons, r22.Idx, I67, zw_qT, a94, c95, C97, w_r22.Cons.a, w_r22.Cons.c, C_r22_4, w_r22.Idx.a, w_r22.Idx.c, C_r22_5, sj R1, rfl, L68, S103.front5.drop.front5.drop.front5.drop.front3.front3.front3.front3.front4, zok_qT, ho99, (OwnSl.mono h_r22_4 le), (OwnSl.mono h_r22_5 le)⟩)))
 refine yg nL2 (ya 0 2 z (yb (bsk R1 fun j120 R2 R1 => yay (J := (fun fr w => ∃ (s251 : qT) (s252 : List qL) (s253 : List qK) (s254 : List qI), ∃ I122 w_s251 a_s252 c_s252 C_s252 a_s253 c_s253 C_s253 a_s254 c_s254 C_s254, (.inr (s251, s252, s253, s254)) = j120 ∧ fr = [(6, Pt b13 0), (8, Pt b23 0)] ∧ I31.Le I122 ∧ St E w I122 (bT b13 s251 w_s251 :: (Bx b23 (cs_qT ({ r22 with Cols := s252, Cons := s253, Idx := s254 }) (⟨⟨a_s252, c_s252⟩, ⟨a_s253, c_s253⟩, ⟨a_s254, c_s254⟩⟩ : W_qT)) 78) :: (C_s252) :: (C_s253) :: (C_s254) :: Os) ∧ ok_qT I122 s251 w_s251 ∧ OwnSl 111 3 R_qL I122 C_s252 a_s252 c_s252 s252 ∧ OwnSl 137 12 R_qK I122 C_s253 a_s253 c_s253 s253 ∧ OwnSl 139 2 R_qI I122 C_s254 a_s254 c_s254 s254)) ?_ ?_)))
 refine y6 R2 (fun G R2 => ?_) (fun G R2 => ?_)
 refine yg nL5 (y7 ((cs_qT p1 w_p1)) (S33.rf m6) z (yf 1 1 [2] z (yj (S33.rf m5) z (bsk R2 fun r129 Xr124 R2 => WO.c1 (r14_Col_ok (h_p1.mono le) S33 Xr124) z fun I126 w125 L127 S128 => ya 4 1 z (yb (W.seq (yg nL2 (ya 0 2 z (yb (y6 R2 (fun G R2 => ?_) (fun G R2 => ?_)))))))))))
 refine yg nL3 (y7 ((cs_qT p1 w_p1)) (S128.rf m6) z (yaa S128.front4 0 (cs_qT p1 w_p1) fun w132 S131 => ya 2 1 z (yb (yp (yh (yr ?_))))))
 obtain rfl := sj R2
 refine yr ?_
 obtain rfl := sj R1
 exact yk (yh (sj D ▸ ya5 _ (S131.rd m0) ⟨I126, w_p1, rfl, le, S131.d8, (h_p1.mono le)⟩))
 refine W.skip (ye (W.seq (W.seq (have S152 := S128.drew; ya1 nL24 24 (ym (S152.rd m5) (ym (S152.rd m6) (ym (S152.rd m7) (yx S152.im)))) ?_))))
 generalize World.drew _ = w153 at *
 refine yf 0 1 [3] z (yj (rd_c m1 (S152.rd m6)) z (ya 2 3 z (bsk R2 fun j154 R3 R2 => yam (l1 := [5, 6, 7, 8, 9, 10]) (J := JI E I126 [(3, Pt b1 0), (4, Pt b5 0), (5, Pt b9 0), (6, Pt b13 0), (8, Pt b23 0), (11, Iv r129), (66, .bool j154)] (bC b1 p0 w_p0 :: (bT b5 p1 w_p1) :: (bS b9 p2 w_p2) :: (bT b13 z_qT zw_qT) :: (Bx b23 (cs_qT ({ r22 with Cols := r22.Cols, Cons := r22.Cons, Idx := r22.Idx }) (⟨⟨w_r22.Cols.a, w_r22.Cols.c⟩, ⟨w_r22.Cons.a, w_r22.Cons.c⟩, ⟨w_r22.Idx.a, w_r22.Idx.c⟩⟩ : W_qT)) 78) :: (C_r22_3) :: (C_r22_4) :: (C_r22_5) :: Os)) ?_ ?_)))
 refine yal R3 (fun G R3 => ?_) (fun G R3 => ?_)
 refine yz 60 G ?_
 iterate 5 refine WO.ps ?_
 exact ya 10 1 z (sj R3 ▸ yy ⟨I126, rfl, lr, S152.front3.front3.front3.front3.front4.front5.front6.front7⟩)
 refine yz 60 G (y7 ((cs_qT p1 w_p1)) (rd_c m1 (S152.rd m6)) z (bsk R3 fun r171 Xr166 R3 => yae (r14_Used_ok (h_p1.mono le) S152 Xr166) ?_))
 rintro _ w167 ⟨I168, a_r171, c_r171, rfl, L169, S170, h_r171⟩
 refine ⟨_, rfl, (ym (S170.rd m5) (ym (S170.rd m6) (ym (S170.rd m7) (yx (S170.im.of_le L169))))), ?_⟩
 refine yf 7 1 [2] z (yj (rd_c m0 (S170.rd m5)) z (bsk R3 fun r177 Xr172 R3 => yae (r14_Has_ok h_r171 S170 Xr172) ?_))
 rintro _ w173 ⟨I174, rfl, L175, S176⟩
 refine ⟨_, rfl, (ym (S176.rd m5) (ym (S176.rd m6) (ym (S176.rd m7) (yx (S176.im.of_le le))))), ?_⟩
 exact ya 10 1 z (sj R3 ▸ yy ⟨I174, rfl, le, S176.front3.front3.front3.front3.front4.front5.front6.front7⟩)
 rintro _ w186 ⟨I156, rfl, L157, S187⟩
 refine ya 11 1 z (bsk R2 fun j188 R3 R2 => yam (l1 := [12, 13, 14, 15, 16, 17, 18, 19, 20, 21, 22, 23]) (J := JI E I156 [(4, Pt b5 0), (6, Pt b13 0), (8, Pt b23 0), (11, Iv r129), (79, .bool j188)] (bC b1 p0 w_p0 :: (bT b5 p1 w_p1) :: (bS b9 p2 w_p2) :: (bT b13 z_qT zw_qT) :: (Bx b23 (cs_qT ({ r22 with Cols := r22.Cols, Cons := r22.Cons, Idx := r22.Idx }) (⟨⟨w_r22.Cols.a, w_r22.Cols.c⟩, ⟨w_r22.Cons.a, w_r22.Cons.c⟩, ⟨w_r22.Idx.a, w_r22.Idx.c⟩⟩ : W_qT)) 78) :: (C_r22_3) :: (C_r22_4) :: (C_r22_5) :: Os)) ?_ ?_)
 refine yal R3 (fun G R3 => ?_) (fun G R3 => ?_)
 refine yz 67 G ?_
 iterate 11 refine WO.ps ?_
 exact ya 23 1 z (sj R3 ▸ yy ⟨I156, rfl, lr, S187⟩)
 refine yz 67 G (yf 12 1 [2] z (yj (rd_c m0 (S187.rd m2)) z (ya 14 2 z (bsk R3 fun j192 R4 R3 => yam (l1 := [16, 17, 18, 19, 20, 21, 22]) (J := JI E I156 [(4, Pt b5 0), (6, Pt b13 0), (8, Pt b23 0), (11, Iv r129), (67, .bool false), (78, .bool j192)] (bC b1 p0 w_p0 :: (bT b5 p1 w_p1) :: (bS b9 p2 w_p2) :: (bT b13 z_qT zw_qT) :: (Bx b23 (cs_qT ({ r22 with Cols := r22.Cols, Cons := r22.Cons, Idx := r22.Idx }) (⟨⟨w_r22.Cols.a, w_r22.Cols.c⟩, ⟨w_r22.Cons.a, w_r22.Cons.c⟩, ⟨w_r22.Idx.a, w_r22.Idx.c⟩⟩ : W_qT)) 78) :: (C_r22_3) :: (C_r22_4) :: (C_r22_5) :: Os)) ?_ ?_))))
 refine yal R4 (fun G R4 => ?_) (fun G R4 => ?_)
 refine yz 71 G (y7 ((cs_qC p0 w_p0)) (rd_c m2 (S187.rd m0)) z (yf 17 1 [0] z (yj (rd_c m1 (S187.rd m1)) z (yf 19 1 [2] z (yj (rd_c m0 (S187.rd m2)) z (bsk R4 fun r201 Xr196 R4 => yae (r17_refers_nilsl_ok (h_p0.mono le) S187 Xr196) ?_))))))
 rintro _ w197 ⟨I198, rfl, L199, S200⟩
 refine ⟨_, rfl, (ym (S200.rd m2) (ym (S200.rd m1) (ym (S200.rd m0) (yx (S200.im.of_le le))))), ?_⟩
 exact ya 22 1 z (sj R4 ▸ yy ⟨I198, rfl, L199, S200⟩)
 refine yz 71 G ?_
 iterate 6 refine WO.ps ?_
 exact ya 22 1 z (sj R4 ▸ yy ⟨I156, rfl, lr, S187⟩)
 rintro _ w202 ⟨I194, rfl, L195, S203⟩
 exact ya 23 1 z (sj R3 ▸ yy ⟨I194, rfl, L195, S203⟩)
 rintro _ w204 ⟨I190, rfl, L191, S205⟩
 refine yb (y6 R2 (fun G R2 => ?_) (fun G R2 => ?_))
 refine yg nL3 (y7 ((cs_qT p1 w_p1)) (S205.rf m1) z (yaa S205.front3 0 (cs_qT p1 w_p1) fun w208 S207 => ya 2 1 z (yb (yp (yh (yr ?_))))))
 obtain rfl := sj R2
 refine yr ?_
 obtain rfl := sj R1
 exact yk (yh (sj D ▸ ya5 _ (S207.rd m0) ⟨I190, w_p1, rfl, le, S207.d8, (h_p1.mono le)⟩))
 refine W.skip (ye (yg nL2 (yf 0 1 [3] z (yaa S205.front4 3 (cs_qT ({ r22 with Cols := ([] : List qL), Cons := r22.Cons, Idx := r22.Idx }) (⟨⟨none, 0⟩, ⟨w_r22.Cons.a, w_r22.Cons.c⟩, ⟨w_r22.Idx.a, w_r22.Idx.c⟩⟩ : W_qT)) fun w219 S218 => yb (W.seq (have S222 := S218.front5.drop.drew; ya1 nL9 6 (ym (S222.rd m0) (ym (S222.rd m2) (yx S222.im))) ?_))))))
 generalize World.drew _ = w223 at *
 refine yf 0 1 [3] z (yj (rd_c m0 (S222.rd m0)) z (yf 2 1 [3] z (yj (rd_c m1 (S222.rd m2)) z (ya 4 1 z ?_))))
 obtain ⟨x224, Xx224, R2⟩ := bsm R2
 obtain ⟨h0_x224, h1_x224, h2_x224, he_x224⟩ := sub_some Xx224
 have hl_x224 : (r129 : Int) ≤ (w_p1.Cols.c : Int) := Int.le_trans h2_x224 (Int.ofNat_le.2 ((RSl.mono h_p1.Cols ((((L20.trans L32).trans L127).trans L157).trans L191))).le)
 refine ya3 (e := 111) (sz := 3) z kr kr kr z (0 : Int) (r129 : Int) h0_x224 (.inl ⟨rfl, rfl⟩) (.inr ⟨_, _, rfl, rfl⟩) h1_x224 hl_x224 ?_
 obtain ⟨a_x224, c_x224, h_x224, ev_x224⟩ := sub_ok ((RSl.mono h_p1.Cols ((((L20.trans L32).trans L127).trans L157).trans L191))) h0_x224 h1_x224 h2_x224 he_x224
 refine y8 87 z ev_x224 ?_
 refine WO.tail z (have S226 := S222.no; apk R2 fun x227 h0_x227 he_x227 R2 => ya6 (e' := 111) (b := 32) (zs := (cs_qL z_qL).toArray) S226 (OwnSl.nil (T := 111) (rel := R_qL) (I := I190)) z kr z kr kr kr z z z z h_x224 S226.im h0_x227 he_x227 tv ?_)
 intro a228 c229 w230 C231 S232 ho233
 refine yf 7 1 [3] z (yaa S232.front1 3 (cs_qT ({ r22 with Cols := x227, Cons := r22.Cons, Idx := r22.Idx }) (⟨⟨a228, c229⟩, ⟨w_r22.Cons.a, w_r22.Cons.c⟩, ⟨w_r22.Idx.a, w_r22.Idx.c⟩⟩ : W_qT)) fun w236 S235 => yb (have S237 := S235.drew; ya1 nL10 7 (ym (S237.rd m0) (ym (S237.rd m3) (yx S237.im))) ?_))
 generalize World.drew _ = w238 at *
 refine yf 0 1 [3] z (yj (rd_c m0 (S237.rd m0)) z (yf 2 1 [3] z (yj (rd_c m1 (S237.rd m3)) z (ya 4 2 z ?_))))
 obtain ⟨x239, Xx239, R2⟩ := bsm R2
 obtain ⟨h0_x239, h1_x239, h2_x239, he_x239⟩ := sub_some Xx239
 have hl_x239 : ((p1.Cols.length : Int) : Int) ≤ (w_p1.Cols.c : Int) := Int.le_trans h2_x239 (Int.ofNat_le.2 ((RSl.mono h_p1.Cols ((((L20.trans L32).trans L127).trans L157).trans L191))).le)
 refine ya3 (e := 111) (sz := 3) z kr kr kr z ((w64 (r129 + 1)) : Int) ((p1.Cols.length : Int) : Int) h0_x239 (.inr ⟨_, _, rfl, rfl⟩) (.inl ⟨rfl, rfl⟩) h1_x239 hl_x239 ?_
 obtain ⟨a_x239, c_x239, h_x239, ev_x239⟩ := sub_ok ((RSl.mono h_p1.Cols ((((L20.trans L32).trans L127).trans L157).trans L191))) h0_x239 h1_x239 h2_x239 he_x239
 refine y8 96 z ev_x239 ?_
 exact WO.tail z (have S240 := S237.front1; apk R2 fun x241 h0_x241 he_x241 R2 => yau 111 32 (cs_qL z_qL) S240 ho233 h_x239 S240.im h0_x241 he_x241 z fun a242 c243 w244 C245 S246 ho247 => yf 8 1 [3] z (yaa S246.front1 3 (cs_qT ({ r22 with Cols := x241, Cons := r22.Cons, Idx := r22.Idx }) (⟨⟨a242, c243⟩, ⟨w_r22.Cons.a, w_r22.Cons.c⟩, ⟨w_r22.Idx.a, w_r22.Idx.c⟩⟩ : W_qT)) fun w250 S249 => yt (yv ⟨z_qT, x241, r22.Cons, r22.Idx, I190, zw_qT, a242, c243, C245, w_r22.Cons.a, w_r22.Cons.c, C_r22_4, w_r22.Idx.a, w_r22.Idx.c, C_r22_5, sj R2, rfl, le, S249.front2.drop.front2.drop.front2.drop.front4.front4.front3.front3.front4, zok_qT, ho247, (OwnSl.mono h_r22_4 le), (OwnSl.mono h_r22_5 le)⟩)))
 refine yg nL2 (ya 0 2 z (yb (bsk R2 fun j266 R3 R2 => yay (J := (fun fr w => ∃ (s344 : qT) (s345 : List qK) (s346 : List qI), ∃ I268 w_s344 a_s345 c_s345 C_s345 a_s346 c_s346 C_s346, (.inr (s344, s345, s346)) = j266 ∧ fr = [(6, Pt b13 0), (8, Pt b23 0)] ∧ I31.Le I268 ∧ St E w I268 (bT b13 s344 w_s344 :: (Bx b23 (cs_qT ({ r22 with Cols := r22.Cols, Cons := s345, Idx := s346 }) (⟨⟨w_r22.Cols.a, w_r22.Cols.c⟩, ⟨a_s345, c_s345⟩, ⟨a_s346, c_s346⟩⟩ : W_qT)) 78) :: (C_r22_3) :: (C_s345) :: (C_s346) :: Os) ∧ ok_qT I268 s344 w_s344 ∧ OwnSl 137 12 R_qK I268 C_s345 a_s345 c_s345 s345 ∧ OwnSl 139 2 R_qI I268 C_s346 a_s346 c_s346 s346)) ?_ ?_)))
 refine y6 R3 (fun G R3 => ?_) (fun G R3 => ?_)
 refine W.seq (yg nL4 (yf 0 1 [5] z (yj (S33.rf m5) z (ya 2 2 z (yb (y6 R3 (fun G R3 => ?_) (fun G R3 => ?_)))))))
 refine yg nL3 (y7 ((cs_qT p1 w_p1)) (S33.rf m6) z (yaa S33.front4 0 (cs_qT p1 w_p1) fun w272 S271 => ya 2 1 z (yb (yp (yh (yr ?_))))))
 obtain rfl := sj R3
 refine yr ?_
 obtain rfl := sj R2
 refine yr ?_
 obtain rfl := sj R1
 exact yk (yh (sj D ▸ ya5 _ (S271.rd m0) ⟨I31, w_p1, rfl, le, S271.d8, (h_p1.mono le)⟩))
 refine W.skip (ye (W.seq (yg nL7 (yf 0 2 [5] z (yj (S33.rf m5) z ?_)))))
 obtain ⟨x292, R3, Hx292, _, ⟨w_x292, rfl, h_x292⟩, Zx292⟩ := sx I31 h_p2.Cons R3
 refine y0 137 12 Hx292 z (yf 4 1 [0] z (yan Zx292 S33.rm z (bsk R3 fun r298 Xr293 R3 => WO.c1 (r14_Has_ok h_r35 S33 Xr293) z fun I295 w294 L296 S297 => yb (y6 R3 (fun G R3 => ?_) (fun G R3 => ?_)))))
 refine yg nL3 (y7 ((cs_qT p1 w_p1)) (S297.rf m6) z (yaa S297.front4 0 (cs_qT p1 w_p1) fun w301 S300 => ya 2 1 z (yb (yp (yh (yr ?_))))))
 obtain rfl := sj R3
 refine yr ?_
 obtain rfl := sj R2
 refine yr ?_
 obtain rfl := sj R1
 exact yk (yh (sj D ▸ ya5 _ (S300.rd m0) ⟨I295, w_p1, rfl, le, S300.d8, (h_p1.mono le)⟩))
 refine W.skip (ye (W.seq (yg nL4 (yf 0 1 [4] z (yj (S297.rf m6) z (ya 2 2 z (yb (y6 R3 (fun G R3 => ?_) (fun G R3 => ?_)))))))))
 refine yg nL3 (y7 ((cs_qT p1 w_p1)) (S297.rf m6) z (yaa S297.front4 0 (cs_qT p1 w_p1) fun w312 S311 => ya 2 1 z (yb (yp (yh (yr ?_))))))
 obtain rfl := sj R3
 refine yr ?_
 obtain rfl := sj R2
 refine yr ?_
 obtain rfl := sj R1
 exact yk (yh (sj D ▸ ya5 _ (S311.rd m0) ⟨I295, w_p1, rfl, le, S311.d8, (h_p1.mono le)⟩))
 refine W.skip (ye (have S321 := S297.drew; ya1 nL10 7 (ym (S321.rd m0) (ym (S321.rd m5) (yx S321.im))) ?_))
 generalize World.drew _ = w322 at *
 refine yf 0 1 [4] z (yj (rd_c m0 (S321.rd m0)) z (yf 2 1 [5] z (yj (rd_c m1 (S321.rd m5)) z ?_)))
 obtain ⟨x323, R3, Hx323, _, ⟨w_x323, rfl, h_x323⟩, Zx323⟩ := sx I295 h_p2.Cons R3
 refine y0 137 12 Hx323 z (yaq ((cs_qK x323 w_x323)) Zx323 0 (rd_i S321.im) z (yad (rel := R_qK) (xs := ([x323] : List qK)) S321 z kr z 137 12 [(cs_qK x323 w_x323)] kr z ((Elr.cons ⟨w_x323, rfl, h_x323⟩ Elr.nil)) (fun C325 w329 S328 => (ym (S328.rd m1) (ym (S328.rd m6) (yx S328.im)))) ?_))
 intro a327 C325 w329 S328 ho326
 exact WO.tail z (have S331 := S328.front3; apk R3 fun x332 h0_x332 he_x332 R3 => yau 137 176 (cs_qK z_qK zw_qK) S331 (OwnSl.mono h_r22_4 le) ho326.sl (S331.rd m1) h0_x332 he_x332 z fun a333 c334 w335 C336 S337 ho338 => yf 8 1 [4] z (yaa S337.front1.drop.front1 4 (cs_qT ({ r22 with Cols := r22.Cols, Cons := x332, Idx := r22.Idx }) (⟨⟨w_r22.Cols.a, w_r22.Cols.c⟩, ⟨a333, c334⟩, ⟨w_r22.Idx.a, w_r22.Idx.c⟩⟩ : W_qT)) fun w343 S342 => yt (yv ⟨z_qT, x332, r22.Idx, I295, zw_qT, a333, c334, C336, w_r22.Idx.a, w_r22.Idx.c, C_r22_5, sj R3, rfl, L296, S342.front5.drop.front5.drop.front5.drop.front3.front2.front3.front3.front4, zok_qT, ho338, (OwnSl.mono h_r22_5 le)⟩)))
 refine yg nL2 (ya 0 2 z (yb (bsk R3 fun j358 R4 R3 => yay (J := (fun fr w => ∃ (s422 : qT) (s423 : List qI), ∃ I360 w_s422 a_s423 c_s423 C_s423, (.inr (s422, s423)) = j358 ∧ fr = [(6, Pt b13 0), (8, Pt b23 0)] ∧ I31.Le I360 ∧ St E w I360 (bT b13 s422 w_s422 :: (Bx b23 (cs_qT ({ r22 with Cols := r22.Cols, Cons := r22.Cons, Idx := s423 }) (⟨⟨w_r22.Cols.a, w_r22.Cols.c⟩, ⟨w_r22.Cons.a, w_r22.Cons.c⟩, ⟨a_s423, c_s423⟩⟩ : W_qT)) 78) :: (C_r22_3) :: (C_r22_4) :: (C_s423) :: Os) ∧ ok_qT I360 s422 w_s422 ∧ OwnSl 139 2 R_qI I360 C_s423 a_s423 c_s423 s423)) ?_ ?_)))
 refine y6 R4 (fun G R4 => ?_) (fun G R4 => ?_)
 refine W.seq (yg nL4 (yf 0 2 [2] z (yj (S33.rf m5) z (bsk R4 fun r367 Xr362 R4 => WO.c1 (r14_Has_ok h_r35 S33 Xr362) z fun I364 w363 L365 S366 => yb (y6 R4 (fun G R4 => ?_) (fun G R4 => ?_))))))
 refine yg nL3 (y7 ((cs_qT p1 w_p1)) (S366.rf m6) z (yaa S366.front4 0 (cs_qT p1 w_p1) fun w370 S369 => ya 2 1 z (yb (yp (yh (yr ?_))))))
 obtain rfl := sj R4
 refine yr ?_
 obtain rfl := sj R3
 refine yr ?_
 obtain rfl := sj R2
 refine yr ?_
 obtain rfl := sj R1
 exact yk (yh (sj D ▸ ya5 _ (S369.rd m0) ⟨I364, w_p1, rfl, le, S369.d8, (h_p1.mono le)⟩))
 refine W.skip (ye (W.seq (yg nL4 (yf 0 1 [5] z (yj (S366.rf m6) z (ya 2 2 z (yb (y6 R4 (fun G R4 => ?_) (fun G R4 => ?_)))))))))
 refine yg nL3 (y7 ((cs_qT p1 w_p1)) (S366.rf m6) z (yaa S366.front4 0 (cs_qT p1 w_p1) fun w392 S391 => ya 2 1 z (yb (yp (yh (yr ?_))))))
 obtain rfl := sj R4
 refine yr ?_
 obtain rfl := sj R3
 refine yr ?_
 obtain rfl := sj R2
 refine yr ?_
 obtain rfl := sj R1
 exact yk (yh (sj D ▸ ya5 _ (S391.rd m0) ⟨I364, w_p1, rfl, le, S391.d8, (h_p1.mono le)⟩))
 refine W.skip (ye (yai nL11 (yf 0 1 [5] z (yj (S366.rf m0) z (yf 2 1 [2] z (yj (S366.rf m5) z (yf 4 1 [6] z (yj (S366.rf m5) z (yaf 6 146 (.agg (cs_qI (⟨p2.Name, p2.Names⟩ : qI) (⟨⟨w_p2.Names.a, w_p2.Names.c⟩⟩ : W_qI)).toArray) ?_)))))))))
 have hk408 : ok_qI I364 (⟨p2.Name, p2.Names⟩ : qI) (⟨⟨w_p2.Names.a, w_p2.Names.c⟩⟩ : W_qI) := ⟨(RSl.mono h_p2.Names ((L20.trans L32).trans L365))⟩
 refine yad (rel := R_qI) (xs := ([(⟨p2.Name, p2.Names⟩ : qI)] : List qI)) S366 z kr z 139 2 [(cs_qI (⟨p2.Name, p2.Names⟩ : qI) (⟨⟨w_p2.Names.a, w_p2.Names.c⟩⟩ : W_qI))] kr z ((Elr.cons ⟨(⟨⟨w_p2.Names.a, w_p2.Names.c⟩⟩ : W_qI), rfl, hk408⟩ Elr.nil)) tv ?_
 intro a404 C402 w406 S405 ho403
 have S409 := S405.front4
 exact apk R4 fun x410 h0_x410 he_x410 R4 => yau 139 40 (cs_qI z_qI zw_qI) S409 (OwnSl.mono h_r22_5 le) ho403.sl (S409.rd m1) h0_x410 he_x410 z fun a411 c412 w413 C414 S415 ho416 => yf 9 1 [5] z (yaa S415.front1.drop.front1 5 (cs_qT ({ r22 with Cols := r22.Cols, Cons := r22.Cons, Idx := x410 }) (⟨⟨w_r22.Cols.a, w_r22.Cols.c⟩, ⟨w_r22.Cons.a, w_r22.Cons.c⟩, ⟨a411, c412⟩⟩ : W_qT)) fun w421 S420 => yt (yv ⟨z_qT, x410, I364, zw_qT, a411, c412, C414, sj R4, rfl, L365, S420.front5.drop.front5.drop.front5.drop.front1.front3.front3.front3.front4, zok_qT, ho416⟩))
 refine yg nL2 (ya 0 2 z (yb (y6 R4 (fun G R4 => ?_) (fun G R4 => ?_))))
 refine yg nL9 (y7 ((cs_qC p0 w_p0)) (S33.rf m7) z (y7 ((cs_qT p1 w_p1)) (S33.rf m6) z (yf 2 1 [2] z (yj (S33.rf m5) z ?_))))
 obtain ⟨⟨r440, r441⟩, Xr435, R4⟩ := bsm R4
 refine yae (r17_dropped_ok (h_p0.mono le) (h_p1.mono le) S33 Xr435) ?_
 rintro _ w436 ⟨I437, w_r440, rfl, L438, S439, h_r440⟩
 refine cv (ya 5 2 z (yaa S439.front4 0 (cs_qT r440 w_r440) fun w444 S443 => ya 8 1 z (yb (yp (yr ?_)))))
 obtain rfl := sj R4
 refine yr ?_
 obtain rfl := sj R3
 refine yr ?_
 obtain rfl := sj R2
 refine yr ?_
 obtain rfl := sj R1
 exact yk (yh (sj D ▸ ya5 _ (S443.rd m0) ⟨I437, w_r440, rfl, le, S443.d8, h_r440⟩))
 refine yg nL2 (ya 0 2 z (yb (y6 R4 (fun G R4 => ?_) (fun G R4 => ?_))))
 refine W.seq (yg [0] (ya 0 1 z (yb (yn (bsk R4 fun t453 hloop459 R4 => have hlt472 := ((RSl.mono h_p1.Idx (L20.trans L32))).len_lt; W.wk (yap (m := p1.Idx.length) hloop459 (fun (i458 : Nat) (s : qT × (List qI)) fr w => match s with | (s456, s457) => ∃ I454 w_s456 a_s457 c_s457 C_s457, fr = [(4, Pt b5 0), (5, Pt b9 0), (6, Pt b13 0), (8, Pt b23 0), (12, Nv i458)] ∧ I31.Le I454 ∧ St E w I454 (bT b5 p1 w_p1 :: (bS b9 p2 w_p2) :: (bT b13 s456 w_s456) :: (Bx b23 (cs_qT ({ r22 with Cols := r22.Cols, Cons := r22.Cons, Idx := s457 }) (⟨⟨w_r22.Cols.a, w_r22.Cols.c⟩, ⟨w_r22.Cons.a, w_r22.Cons.c⟩, ⟨a_s457, c_s457⟩⟩ : W_qT)) 78) :: (C_r22_3) :: (C_r22_4) :: (C_s457) :: Os) ∧ ok_qT I454 s456 w_s456 ∧ OwnSl 139 2 R_qI I454 C_s457 a_s457 c_s457 s457) ⟨I31, zw_qT, w_r22.Idx.a, w_r22.Idx.c, C_r22_5, rfl, lr, S33.front7.drop.front3.front3.front3.front3.front4.front5.front6, zok_qT, (OwnSl.mono h_r22_5 L32)⟩ ?_ ?_))))))
 rintro i458 ⟨s456, s457⟩ _ w469 hi473 ⟨I454, w_s456, a_s457, c_s457, C_s457, rfl, L455, S470, h_s456, h_s457⟩ x471 R5 hext453
 refine W.seq (yg nL5 (yf 0 2 [5] z (yj (S470.rf m0) z (ya 3 2 z (yb (yat fun _ => W.skip (ye (W.seq (yn (W.seq (have S474 := S470.drew; ya1 nL9 8 (ym (S474.rd m0) (ym (S474.rd m1) (yx S474.im))) ?_)))))))))))
 generalize World.drew _ = w475 at *
 refine yf 0 1 [5] z (yj (rd_c m0 (S474.rd m0)) z (ya 2 1 z ?_))
 obtain ⟨x476, R5, Hx476, _, ⟨w_x476, rfl, h_x476⟩, Zx476⟩ := sx I454 h_p1.Idx R5
 refine y0 139 2 Hx476 z (yf 4 1 [0] z (yan Zx476 (rd_i S474.im) z (yf 6 1 [2] z (yj (rd_c m1 (S474.rd m1)) z (WO.tail z (ya 8 1 z (yb (y6 R5 (fun G R5 => ?_) (fun G R5 => ?_)))))))))
 refine yg nL2 (yf 0 1 [5] z (yaa S474.front3 5 (cs_qT ({ r22 with Cols := r22.Cols, Cons := r22.Cons, Idx := ([] : List qI) }) (⟨⟨w_r22.Cols.a, w_r22.Cols.c⟩, ⟨w_r22.Cons.a, w_r22.Cons.c⟩, ⟨none, 0⟩⟩ : W_qT)) fun w479 S478 => yb (W.seq (have S482 := S478.front6.drop.drew; ya1 nL9 6 (ym (S482.rd m0) (ym (S482.rd m1) (yx S482.im))) ?_))))
 generalize World.drew _ = w483 at *
 refine yf 0 1 [5] z (yj (rd_c m0 (S482.rd m0)) z (yf 2 1 [5] z (yj (rd_c m1 (S482.rd m1)) z (ya 4 1 z ?_))))
 obtain ⟨x484, Xx484, R5⟩ := bsm R5
 obtain ⟨h0_x484, h1_x484, h2_x484, he_x484⟩ := sub_some Xx484
 have hl_x484 : ((i458 : Int) : Int) ≤ (w_p1.Idx.c : Int) := Int.le_trans h2_x484 (Int.ofNat_le.2 ((RSl.mono h_p1.Idx ((L20.trans L32).trans L455))).le)
 refine ya3 (e := 139) (sz := 2) z kr kr kr z (0 : Int) ((i458 : Int) : Int) h0_x484 (.inl ⟨rfl, rfl⟩) (.inr ⟨_, _, rfl, rfl⟩) h1_x484 hl_x484 ?_
 obtain ⟨a_x484, c_x484, h_x484, ev_x484⟩ := sub_ok ((RSl.mono h_p1.Idx ((L20.trans L32).trans L455))) h0_x484 h1_x484 h2_x484 he_x484
 refine y8 183 z ev_x484 ?_
 refine WO.tail z (have S486 := S482.no; apk R5 fun x487 h0_x487 he_x487 R5 => ya6 (e' := 139) (b := 40) (zs := (cs_qI z_qI zw_qI).toArray) S486 (OwnSl.nil (T := 139) (rel := R_qI) (I := I454)) z kr z kr kr kr z z z z h_x484 S486.im h0_x487 he_x487 tv ?_)
 intro a488 c489 w490 C491 S492 ho493
 refine yf 7 1 [5] z (yaa S492.front1 5 (cs_qT ({ r22 with Cols := r22.Cols, Cons := r22.Cons, Idx := x487 }) (⟨⟨w_r22.Cols.a, w_r22.Cols.c⟩, ⟨w_r22.Cons.a, w_r22.Cons.c⟩, ⟨a488, c489⟩⟩ : W_qT)) fun w496 S495 => yb (W.seq (have S497 := S495.drew; ya1 nL10 7 (ym (S497.rd m0) (ym (S497.rd m2) (yx S497.im))) ?_)))
 generalize World.drew _ = w498 at *
 refine yf 0 1 [5] z (yj (rd_c m0 (S497.rd m0)) z (yf 2 1 [5] z (yj (rd_c m1 (S497.rd m2)) z (ya 4 2 z ?_))))
 obtain ⟨x499, Xx499, R5⟩ := bsm R5
 obtain ⟨h0_x499, h1_x499, h2_x499, he_x499⟩ := sub_some Xx499
 have hl_x499 : ((p1.Idx.length : Int) : Int) ≤ (w_p1.Idx.c : Int) := Int.le_trans h2_x499 (Int.ofNat_le.2 ((RSl.mono h_p1.Idx ((L20.trans L32).trans L455))).le)
 refine ya3 (e := 139) (sz := 2) z kr kr kr z ((w64 ((i458 : Int) + 1)) : Int) ((p1.Idx.length : Int) : Int) h0_x499 (.inr ⟨_, _, rfl, rfl⟩) (.inl ⟨rfl, rfl⟩) h1_x499 hl_x499 ?_
 obtain ⟨a_x499, c_x499, h_x499, ev_x499⟩ := sub_ok ((RSl.mono h_p1.Idx ((L20.trans L32).trans L455))) h0_x499 h1_x499 h2_x499 he_x499
 refine y8 192 z ev_x499 ?_
 refine WO.tail z (have S500 := S497.front1; apk R5 fun x501 h0_x501 he_x501 R5 => yau 139 40 (cs_qI z_qI zw_qI) S500 ho493 h_x499 S500.im h0_x501 he_x501 z fun a502 c503 w504 C505 S506 ho507 => yf 8 1 [5] z (yaa S506.front1 5 (cs_qT ({ r22 with Cols := r22.Cols, Cons := r22.Cons, Idx := x501 }) (⟨⟨w_r22.Cols.a, w_r22.Cols.c⟩, ⟨w_r22.Cons.a, w_r22.Cons.c⟩, ⟨a502, c503⟩⟩ : W_qT)) fun w510 S509 => yac nL3 (y7 ((cs_qT ({ r22 with Cols := r22.Cols, Cons := r22.Cons, Idx := x501 }) (⟨⟨w_r22.Cols.a, w_r22.Cols.c⟩, ⟨w_r22.Cons.a, w_r22.Cons.c⟩, ⟨a502, c503⟩⟩ : W_qT))) (S509.rf m0) z ?_)))
 obtain ⟨I512, L513, S515, hp514⟩ := yag (h_r22_3.mono (L32.trans L455)) S509.front5
 obtain ⟨I517, L518, S520, hp519⟩ := yag (h_r22_4.mono ((L32.trans L455).trans L513)) S515.front5
 obtain ⟨I522, L523, S525, hp524⟩ := yag (ho507.mono (L513.trans L518)) S520.front1
 refine yaa S525.front3 0 (cs_qT ({ r22 with Cols := r22.Cols, Cons := r22.Cons, Idx := x501 }) (⟨⟨w_r22.Cols.a, w_r22.Cols.c⟩, ⟨w_r22.Cons.a, w_r22.Cons.c⟩, ⟨a502, c503⟩⟩ : W_qT)) fun w528 S527 => ya 2 1 z (yb (yp (yk (yh (yr ?_)))))
 have hk540 : ok_qT I522 ({ r22 with Cols := r22.Cols, Cons := r22.Cons, Idx := x501 }) (⟨⟨w_r22.Cols.a, w_r22.Cols.c⟩, ⟨w_r22.Cons.a, w_r22.Cons.c⟩, ⟨a502, c503⟩⟩ : W_qT) := ⟨(RSl.mono hp514 (L518.trans L523)), (RSl.mono hp519 L523), hp524⟩
 obtain rfl := hext453 _ (sj R5).symm
 refine yk (yh (yr ?_))
 have hk541 : ok_qT I522 ({ r22 with Cols := r22.Cols, Cons := r22.Cons, Idx := x501 }) (⟨⟨w_r22.Cols.a, w_r22.Cols.c⟩, ⟨w_r22.Cons.a, w_r22.Cons.c⟩, ⟨a502, c503⟩⟩ : W_qT) := ⟨(RSl.mono hp514 (L518.trans L523)), (RSl.mono hp519 L523), hp524⟩
 obtain rfl := sj R4
 refine yr ?_
 have hk542 : ok_qT I522 ({ r22 with Cols := r22.Cols, Cons := r22.Cons, Idx := x501 }) (⟨⟨w_r22.Cols.a, w_r22.Cols.c⟩, ⟨w_r22.Cons.a, w_r22.Cons.c⟩, ⟨a502, c503⟩⟩ : W_qT) := ⟨(RSl.mono hp514 (L518.trans L523)), (RSl.mono hp519 L523), hp524⟩
 obtain rfl := sj R3
 refine yr ?_
 have hk543 : ok_qT I522 ({ r22 with Cols := r22.Cols, Cons := r22.Cons, Idx := x501 }) (⟨⟨w_r22.Cols.a, w_r22.Cols.c⟩, ⟨w_r22.Cons.a, w_r22.Cons.c⟩, ⟨a502, c503⟩⟩ : W_qT) := ⟨(RSl.mono hp514 (L518.trans L523)), (RSl.mono hp519 L523), hp524⟩
 obtain rfl := sj R2
 refine yr ?_
 have hk544 : ok_qT I522 ({ r22 with Cols := r22.Cols, Cons := r22.Cons, Idx := x501 }) (⟨⟨w_r22.Cols.a, w_r22.Cols.c⟩, ⟨w_r22.Cons.a, w_r22.Cons.c⟩, ⟨a502, c503⟩⟩ : W_qT) := ⟨(RSl.mono hp514 (L518.trans L523)), (RSl.mono hp519 L523), hp524⟩
 obtain rfl := sj R1
 refine yk (yh ?_)
 have hk549 : ok_qT I522 ({ r22 with Cols := r22.Cols, Cons := r22.Cons, Idx := x501 }) (⟨⟨w_r22.Cols.a, w_r22.Cols.c⟩, ⟨w_r22.Cons.a, w_r22.Cons.c⟩, ⟨a502, c503⟩⟩ : W_qT) := ⟨(RSl.mono hp514 (L518.trans L523)), (RSl.mono hp519 L523), hp524⟩
 exact sj D ▸ ya5 _ (S527.rd m0) ⟨I522, (⟨⟨w_r22.Cols.a, w_r22.Cols.c⟩, ⟨w_r22.Cons.a, w_r22.Cons.c⟩, ⟨a502, c503⟩⟩ : W_qT), rfl, le, S527.d4, hk549⟩
 exact W.skip (yl (ye (yai nL3 (ya 0 1 z (yao i458 z (ya 2 1 z (yt (yv ⟨(s456, s457), (sj R5).symm, I454, w_s456, a_s457, c_s457, C_s457, rfl, L455, S474, h_s456, h_s457⟩))))))))
 rintro ⟨s456, s457⟩ _ w550 ⟨I454, w_s456, a_s457, c_s457, C_s457, rfl, L455, S551, h_s456, h_s457⟩ he
 cases he
 refine W.seq (yg nL5 (yf 0 2 [5] z (yj (S551.rf m0) z (ya 3 2 z (yb (yas fun _ => W.exit (yo (yq (yu (ye (yg nL3 (y7 ((cs_qT p1 w_p1)) (S551.rf m0) z (yaa S551.front2 0 (cs_qT p1 w_p1) fun w554 S553 => ya 2 1 z (yb (yp (yr ?_))))))))))))))))
 obtain rfl := sj R4
 refine yr ?_
 obtain rfl := sj R3
 refine yr ?_
 obtain rfl := sj R2
 refine yr ?_
 obtain rfl := sj R1
 exact yk (yh (sj D ▸ ya5 _ (S553.rd m0) ⟨I454, w_p1, rfl, le, S553.d7, (h_p1.mono le)⟩))
 exact W.skip (yv ⟨z_qT, r22.Idx, I31, zw_qT, w_r22.Idx.a, w_r22.Idx.c, C_r22_5, sj R4, rfl, lr, S33.front5.drop.front5.drop.front5.drop.front3.front3.front3.front3.front4, zok_qT, (OwnSl.mono h_r22_5 L32)⟩)
 rintro _ w573 ⟨s422, s423, I360, w_s422, a_s423, c_s423, C_s423, rfl, rfl, L361, S574, h_s422, h_s423⟩
 exact yv ⟨s422, r22.Cons, s423, I360, w_s422, w_r22.Cons.a, w_r22.Cons.c, C_r22_4, a_s423, c_s423, C_s423, sj R3, rfl, L361, S574, h_s422, (OwnSl.mono h_r22_4 le), h_s423⟩
 rintro _ w575 ⟨s344, s345, s346, I268, w_s344, a_s345, c_s345, C_s345, a_s346, c_s346, C_s346, rfl, rfl, L269, S576, h_s344, h_s345, h_s346⟩
 exact yv ⟨s344, r22.Cols, s345, s346, I268, w_s344, w_r22.Cols.a, w_r22.Cols.c, C_r22_3, a_s345, c_s345, C_s345, a_s346, c_s346, C_s346, sj R2, rfl, L269, S576, h_s344, (OwnSl.mono h_r22_3 le), h_s345, h_s346⟩
 rintro _ w577 ⟨s251, s252, s253, s254, I122, w_s251, a_s252, c_s252, C_s252, a_s253, c_s253, C_s253, a_s254, c_s254, C_s254, rfl, rfl, L123, S578, h_s251, h_s252, h_s253, h_s254⟩
 exact yv ⟨s251, s252, s253, s254, I122, w_s251, a_s252, c_s252, C_s252, a_s253, c_s253, C_s253, a_s254, c_s254, C_s254, sj R1, rfl, L123, S578, h_s251, h_s252, h_s253, h_s254⟩
 rintro _ w579 ⟨s105, s106, s107, s108, I38, w_s105, a_s106, c_s106, C_s106, a_s107, c_s107, C_s107, a_s108, c_s108, C_s108, rfl, rfl, L39, S580, h_s105, h_s106, h_s107, h_s108⟩
 refine yl (ye (yg nL3 (y7 ((cs_qT ({ r22 with Cols := s106, Cons := s107, Idx := s108 }) (⟨⟨a_s106, c_s106⟩, ⟨a_s107, c_s107⟩, ⟨a_s108, c_s108⟩⟩ : W_qT))) (S580.rf m1) z ?_)))
 obtain ⟨I582, L583, S585, hp584⟩ := yag h_s106 S580.front2
 obtain ⟨I587, L588, S590, hp589⟩ := yag (h_s107.mono L583) S585.front2
 obtain ⟨I592, L593, S595, hp594⟩ := yag (h_s108.mono (L583.trans L588)) S590.front2
 refine yaa S595 0 (cs_qT ({ r22 with Cols := s106, Cons := s107, Idx := s108 }) (⟨⟨a_s106, c_s106⟩, ⟨a_s107, c_s107⟩, ⟨a_s108, c_s108⟩⟩ : W_qT)) fun w597 S596 => ya 2 1 z (yb (yp ?_))
 have hk600 : ok_qT I592 ({ r22 with Cols := s106, Cons := s107, Idx := s108 }) (⟨⟨a_s106, c_s106⟩, ⟨a_s107, c_s107⟩, ⟨a_s108, c_s108⟩⟩ : W_qT) := ⟨(RSl.mono hp584 (L588.trans L593)), (RSl.mono hp589 L593), hp594⟩
 exact sj D ▸ ya5 _ (S596.rd m0) ⟨I592, (⟨⟨a_s106, c_s106⟩, ⟨a_s107, c_s107⟩, ⟨a_s108, c_s108⟩⟩ : W_qT), rfl, le, S596.d2, hk600⟩
def r14_twice (p0 : List By8) : Option Bool := (forN (fun (i4 : Nat) (_s : Unit) => (sub p0 0 (i4 : Int)).bind (fun x13 => (idx p0 (i4 : Int)).bind (fun x14 => (r14_Has x13 x14).bind (fun r20 => (bif r20 then some (.inr true) else some (.inl ())))))) p0.length 0 ()).bind (fun (t : Unit ⊕ (Bool)) => match t with | .inl _ => some false | .inr s22 => some s22)
theorem r14_twice_ok {p0 : List By8} {a_p0 : Option Addr} {c_p0 : Nat} (h_p0 : RSl 1 RStr I a_p0 c_p0 p0) (hS : St E w I Os) {r : Bool} (D : r14_twice p0 = some r) :
    Calls P 151 #[(Sl a_p0 p0 c_p0)] w (RT E I Os (.bool r)) := by
 refine calls_W (fn := Tryz.f151) rfl rfl rfl ?_
 unfold r14_twice at D
 refine yg [0] (ya 0 1 z (yb (W.seq (yg [0] (ya 0 1 z (yb (yn (bsk D fun t1 hloop5 D => have hlt9 := (h_p0).len_lt; W.wk (yap (m := p0.length) hloop5 (fun (i4 : Nat) (_s : Unit) => JI E I [(0, Sl a_p0 p0 c_p0), (3, Nv i4)] Os) ⟨I, rfl, lr, hS⟩ ?_ ?_)))))))))
 rintro i4 _ _ w6 hi10 ⟨I2, rfl, L3, S7⟩ x8 R1 hext1
 refine W.seq (yg nL4 (ya 0 4 z (yb (yat fun _ => W.skip (ye (W.seq (yn (W.seq (have S11 := S7.drew; ya1 nL8 7 (yx S11.im) ?_)))))))))
 generalize World.drew _ = w12 at *
 refine ya 0 2 z ?_
 obtain ⟨x13, Xx13, R1⟩ := bsm R1
 obtain ⟨h0_x13, h1_x13, h2_x13, he_x13⟩ := sub_some Xx13
 have hl_x13 : ((i4 : Int) : Int) ≤ (c_p0 : Int) := Int.le_trans h2_x13 (Int.ofNat_le.2 ((RSl.mono h_p0 L3)).le)
 refine ya3 (e := 9) (sz := 1) z kr kr kr z (0 : Int) ((i4 : Int) : Int) h0_x13 (.inl ⟨rfl, rfl⟩) (.inr ⟨_, _, rfl, rfl⟩) h1_x13 hl_x13 ?_
 obtain ⟨a_x13, c_x13, h_x13, ev_x13⟩ := sub_ok ((RSl.mono h_p0 L3)) h0_x13 h1_x13 h2_x13 he_x13
 refine y8 12 z ev_x13 ?_
 refine ya 3 2 z ?_
 obtain ⟨x14, R1, Hx14, _, rfl, Zx14⟩ := sx I2 h_p0 R1
 refine y0 9 1 Hx14 z (yan Zx14 (rd_i S11.im) z (WO.tail z (bsk R1 fun r20 Xr15 R1 => WO.c1 (r14_Has_ok h_x13 S11 Xr15) z fun I17 w16 L18 S19 => yb (y6 R1 (fun G R1 => ?_) (fun G R1 => ?_)))))
 refine yg [0] (ya 0 1 z (yb (yp (yk (yh (yr ?_))))))
 obtain rfl := hext1 _ (sj R1).symm
 exact yk (yh (sj D ▸ yw ⟨I17, rfl, le, S19⟩))
 exact W.skip (yl (ye (yai nL3 (ya 0 1 z (yao i4 z (ya 2 1 z (yt (yv ⟨(), (sj R1).symm, I17, rfl, le, S19⟩))))))))
 rintro _ _ w23 ⟨I2, rfl, L3, S24⟩ he
 cases he
 exact W.seq (yg nL4 (ya 0 4 z (yb (yas fun _ => W.exit (yo (yq (yu (ye (yg [0] (ya 0 1 z (yb (yp (sj D ▸ yw ⟨I2, rfl, L3, S24⟩)))))))))))))
noncomputable def r14_wrong (p0 : qT) : Option Int := (r14_Names p0).bind (fun (r10, r11) => (app 16 ([p0.Name, p0.Owner] : List By8) r10).bind (fun x19 => (app 16 x19 r11).bind (fun x26 => (forN (fun (i40 : Nat) (_s : Unit) => (idx x26 (i40 : Int)).bind (fun x47 => (r09_IsName x47).bind (fun r53 => (bif (!r53) then some (.inr (18 : Int)) else some (.inl ()))))) x26.length 0 ()).bind (fun (t : Unit ⊕ (Int)) => match t with | .inl _ => (bif (decide (p0.Version < 0)) then some 2 else (forN (fun (i64 : Nat) (_s : Unit) => (idx p0.Cols (i64 : Int)).bind (fun x71 => ((bif (decide (x71.Type_ < 1)) then some true else (idx p0.Cols (i64 : Int)).bind (fun x76 => some (decide (x76.Type_ > 3))))).bind (fun (j72 : Bool) => (bif j72 then some (.inr (2 : Int)) else some (.inl ()))))) p0.Cols.length 0 ()).bind (fun (t : Unit ⊕ (Int)) => match t with | .inl _ => (forN (fun (i88 : Nat) (_s : Unit) => (idx p0.Cons (i88 : Int)).bind (fun x95 => ((bif (decide (x95.Kind < 1)) then some true else (idx p0.Cons (i88 : Int)).bind (fun x100 => some (decide (x100.Kind > 3))))).bind (fun (j96 : Bool) => (bif j96 then some (.inr (2 : Int)) else some (.inl ()))))) p0.Cons.length 0 ()).bind (fun (t : Unit ⊕ (Int)) => match t with | .inl _ => (some ((decide ((p0.Cols.length : Int) < 1)) || (decide ((p0.Cols.length : Int) > 6)))).bind (fun (q109 : Bool) => (some ((q109 || (decide ((p0.Cons.length : Int) > 6))) || (decide ((p0.Idx.length : Int) > 3)))).bind (fun (q114 : Bool) => (bif q114 then some 3 else (r14_lists p0).bind (fun r123 => (forN (fun (i127 : Nat) (_s : Unit) => ((bif (decide ((i127 : Int) < (p0.Cons.length : Int))) then (idx p0.Cons (i127 : Int)).bind (fun x138 => some (x138.Kind == 2)) else some false)).bind (fun (j134 : Bool) => ((bif (!j134) then (idx r123 (i127 : Int)).bind (fun x145 => ((bif (decide ((x145.length : Int) < 1)) then some true else (idx r123 (i127 : Int)).bind (fun x150 => some (decide ((x150.length : Int) > 3))))).bind (fun (j146 : Bool) => some j146)) else some false)).bind (fun (j141 : Bool) => (bif j141 then some (.inr (3 : Int)) else ((bif (decide ((i127 : Int) < (p0.Cons.length : Int))) then (idx p0.Cons (i127 : Int)).bind (fun x163 => some (x163.Kind == 3)) else some false)).bind (fun (j159 : Bool) => ((bif j159 then (idx p0.Cons (i127 : Int)).bind (fun x170 => ((bif (decide ((x170.Refs.length : Int) < 1)) then some true else (idx p0.Cons (i127 : Int)).bind (fun x175 => some (decide ((x175.Refs.length : Int) > 3))))).bind (fun (j171 : Bool) => some j171)) else some false)).bind (fun (j166 : Bool) => (bif j166 then some (.inr (3 : Int)) else some (.inl ())))))))) r123.length 0 ()).bind (fun (t : Unit ⊕ (Int)) => match t with | .inl _ => (r14_twice r10).bind (fun r188 => ((bif r188 then some true else (r14_twice r11).bind (fun r198 => some r198))).bind (fun (j189 : Bool) => (bif j189 then some 19 else (forN (fun (i205 : Nat) (_s : Unit) => (idx r123 (i205 : Int)).bind (fun x212 => (r14_twice x212).bind (fun r218 => ((bif r218 then some true else ((bif (decide ((i205 : Int) < (p0.Cons.length : Int))) then (idx p0.Cons (i205 : Int)).bind (fun x227 => (r14_twice x227.Refs).bind (fun r233 => some r233)) else some false)).bind (fun (j223 : Bool) => some j223))).bind (fun (j219 : Bool) => (bif j219 then some (.inr (19 : Int)) else some (.inl ())))))) r123.length 0 ()).bind (fun (t : Unit ⊕ (Int)) => match t with | .inl _ => some 0 | .inr s239 => some s239)))) | .inr s156 => some s156))))) | .inr s104 => some s104) | .inr s80 => some s80)) | .inr s55 => some s55))))
theorem r14_wrong_ok {p0 : qT} {w_p0 : W_qT} (h_p0 : ok_qT I p0 w_p0) (hS : St E w I Os) {r : Int} (D : r14_wrong p0 = some r) :
    Calls P 117 #[(vT p0 w_p0)] w (RT E I Os (Iv r)) := by
 refine calls_W (fn := Tryz.f117) rfl rfl rfl ?_
 unfold r14_wrong at D
 refine yg nL2 (yab hS (cs_qT p0 w_p0) 78 z fun b1 w4 S3 => ya 1 1 z (yac nL7 (y7 ((cs_qT p0 w_p0)) (S3.rf m0) z ?_)))
 obtain ⟨⟨r10, r11⟩, Xr5, D⟩ := bsm D
 refine yae (r14_Names_ok h_p0 S3 Xr5) ?_
 rintro _ w6 ⟨I7, a_r10, c_r10, a_r11, c_r11, rfl, L8, S9, h_r10, h_r11⟩
 refine cv (ya 2 5 z (yac nL10 (yf 0 1 [0] z (yj (S9.rf m0) z (yf 2 1 [1] z (yj (S9.rf m0) z (yad (rel := RStr) (xs := ([p0.Name, p0.Owner] : List By8)) S9 z kr z 9 1 [[(.string p0.Name)], [(.string p0.Owner)]] kr z ((Elr.cons z (Elr.cons z Elr.nil))) tv ?_)))))))
 intro a15 C13 w17 S16 ho14
 refine ya 5 1 z (apk D fun x19 h0_x19 he_x19 D => yau 9 16 [(.string eB)] S16 ho14 h_r10 S16.im h0_x19 he_x19 z fun a20 c21 w22 C23 S24 ho25 => ya 7 1 z (apk D fun x26 h0_x26 he_x26 D => yau 9 16 [(.string eB)] S24 ho25 h_r11 S24.im h0_x26 he_x26 z ?_))
 intro a27 c28 w29 C30 S31 ho32
 obtain ⟨I33, L34, S36, hp35⟩ := yag ho32 S31
 refine ya 9 1 z (yb (W.seq (yg [0] (ya 0 1 z (yb (yn (bsk D fun t37 hloop41 D => have hlt45 := (hp35).len_lt; W.wk (yap (m := x26.length) hloop41 (fun (i40 : Nat) (_s : Unit) => JI E I33 [(1, Pt b1 0), (3, Sl a_r10 r10 c_r10), (4, Sl a_r11 r11 c_r11), (5, Sl a27 x26 c28), (6, Nv i40)] (bT b1 p0 w_p0 :: Os)) ⟨I33, rfl, lr, S36⟩ ?_ ?_))))))))
 rintro i40 _ _ w42 hi46 ⟨I38, rfl, L39, S43⟩ x44 R1 hext37
 refine W.seq (yg nL4 (ya 0 4 z (yb (yat fun _ => W.skip (ye (W.seq (yn (yg nL6 (ya 0 2 z ?_)))))))))
 obtain ⟨x47, R1, Hx47, _, rfl, Zx47⟩ := sx I38 hp35 R1
 refine y0 9 1 Hx47 z (yan Zx47 S43.rm z (bsk R1 fun r53 Xr48 R1 => WO.c1 (r09_IsName_ok  S43 Xr48) z fun I50 w49 L51 S52 => ya 5 1 z (yb (y6 R1 (fun G R1 => ?_) (fun G R1 => ?_)))))
 refine yg [0] (ya 0 1 z (yb (yp (yk (yh (yr ?_))))))
 obtain rfl := hext37 _ (sj R1).symm
 exact yk (yh (sj D ▸ yw ⟨I50, rfl, le, S52.drop⟩))
 exact W.skip (yl (ye (yai nL3 (ya 0 1 z (yao i40 z (ya 2 1 z (yt (yv ⟨(), (sj R1).symm, I50, rfl, le, S52⟩))))))))
 rintro _ _ w58 ⟨I38, rfl, L39, S59⟩ he
 cases he
 refine W.seq (yg nL4 (ya 0 4 z (yb (yas fun _ => W.exit (yo (yq (yu (ye (W.seq (yg nL3 (yf 0 1 [2] z (yj (S59.rf m0) z (ya 2 1 z (yb (y6 D (fun G D => ?_) (fun G D => ?_))))))))))))))))
 exact yg [0] (ya 0 1 z (yb (yp (yh (sj D ▸ yw ⟨I38, rfl, le, S59.drop⟩)))))
 refine W.skip (ye (W.seq (yg [0] (ya 0 1 z (yb (yn (bsk D fun t61 hloop65 D => have hlt69 := ((RSl.mono h_p0.Cols ((L8.trans L34).trans L39))).len_lt; W.wk (yap (m := p0.Cols.length) hloop65 (fun (i64 : Nat) (_s : Unit) => JI E I38 [(1, Pt b1 0), (3, Sl a_r10 r10 c_r10), (4, Sl a_r11 r11 c_r11), (7, Nv i64)] (bT b1 p0 w_p0 :: Os)) ⟨I38, rfl, lr, S59⟩ ?_ ?_))))))))
 rintro i64 _ _ w66 hi70 ⟨I62, rfl, L63, S67⟩ x68 R1 hext61
 refine W.seq (yg nL5 (yf 0 2 [3] z (yj (S67.rf m0) z (ya 3 2 z (yb (yat fun _ => W.skip (ye (W.seq (yn (yg nL16 (yf 0 1 [3] z (yj (S67.rf m0) z (ya 2 1 z ?_)))))))))))))
 obtain ⟨x71, R1, Hx71, _, rfl, Zx71⟩ := sx I62 h_p0.Cols R1
 refine y0 111 3 Hx71 z (yf 4 1 [1] z (yar Zx71 1 S67.rm z (ya 6 2 z (bsk R1 fun j72 R2 R1 => yam (l1 := [8, 9, 10, 11, 12, 13, 14, 15]) (J := JI E I62 [(1, Pt b1 0), (3, Sl a_r10 r10 c_r10), (4, Sl a_r11 r11 c_r11), (7, Nv i64), (64, .bool j72)] (bT b1 p0 w_p0 :: Os)) ?_ ?_))))
 refine yal R2 (fun G R2 => ?_) (fun G R2 => ?_)
 refine yz 56 G ?_
 iterate 7 refine WO.ps ?_
 exact ya 15 1 z (sj R2 ▸ yy ⟨I62, rfl, lr, S67⟩)
 refine yz 56 G (yf 8 1 [3] z (yj (S67.rf m0) z (ya 10 1 z ?_)))
 obtain ⟨x76, R2, Hx76, _, rfl, Zx76⟩ := sx I62 h_p0.Cols R2
 exact y0 111 3 Hx76 z (yf 12 1 [1] z (yar Zx76 1 S67.rm z (ya 14 2 z (sj R2 ▸ yy ⟨I62, rfl, lr, S67⟩))))
 rintro _ w77 ⟨I74, rfl, L75, S78⟩
 refine yb (y6 R1 (fun G R1 => ?_) (fun G R1 => ?_))
 refine yg [0] (ya 0 1 z (yb (yp (yk (yh (yr ?_))))))
 obtain rfl := hext61 _ (sj R1).symm
 exact yk (yh (sj D ▸ yw ⟨I74, rfl, le, S78.drop⟩))
 exact W.skip (yl (ye (yai nL3 (ya 0 1 z (yao i64 z (ya 2 1 z (yt (yv ⟨(), (sj R1).symm, I74, rfl, le, S78⟩))))))))
 rintro _ _ w83 ⟨I62, rfl, L63, S84⟩ he
 cases he
 refine W.seq (yg nL5 (yf 0 2 [3] z (yj (S84.rf m0) z (ya 3 2 z (yb (yas fun _ => W.exit (yo (yq (yu (ye (W.seq (yg [0] (ya 0 1 z (yb (yn (bsk D fun t85 hloop89 D => have hlt93 := ((RSl.mono h_p0.Cons (((L8.trans L34).trans L39).trans L63))).len_lt; W.wk (yap (m := p0.Cons.length) hloop89 (fun (i88 : Nat) (_s : Unit) => JI E I62 [(1, Pt b1 0), (3, Sl a_r10 r10 c_r10), (4, Sl a_r11 r11 c_r11), (8, Nv i88)] (bT b1 p0 w_p0 :: Os)) ⟨I62, rfl, lr, S84⟩ ?_ ?_)))))))))))))))))
 rintro i88 _ _ w90 hi94 ⟨I86, rfl, L87, S91⟩ x92 R1 hext85
 refine W.seq (yg nL5 (yf 0 2 [4] z (yj (S91.rf m0) z (ya 3 2 z (yb (yat fun _ => W.skip (ye (W.seq (yn (yg nL16 (yf 0 1 [4] z (yj (S91.rf m0) z (ya 2 1 z ?_)))))))))))))
 obtain ⟨x95, R1, Hx95, _, ⟨w_x95, rfl, h_x95⟩, Zx95⟩ := sx I86 h_p0.Cons R1
 refine y0 137 12 Hx95 z (yf 4 1 [1] z (yar Zx95 1 S91.rm z (ya 6 2 z (bsk R1 fun j96 R2 R1 => yam (l1 := [8, 9, 10, 11, 12, 13, 14, 15]) (J := JI E I86 [(1, Pt b1 0), (3, Sl a_r10 r10 c_r10), (4, Sl a_r11 r11 c_r11), (8, Nv i88), (87, .bool j96)] (bT b1 p0 w_p0 :: Os)) ?_ ?_))))
 refine yal R2 (fun G R2 => ?_) (fun G R2 => ?_)
 refine yz 79 G ?_
 iterate 7 refine WO.ps ?_
 exact ya 15 1 z (sj R2 ▸ yy ⟨I86, rfl, lr, S91⟩)
 refine yz 79 G (yf 8 1 [4] z (yj (S91.rf m0) z (ya 10 1 z ?_)))
 obtain ⟨x100, R2, Hx100, _, ⟨w_x100, rfl, h_x100⟩, Zx100⟩ := sx I86 h_p0.Cons R2
 exact y0 137 12 Hx100 z (yf 12 1 [1] z (yar Zx100 1 S91.rm z (ya 14 2 z (sj R2 ▸ yy ⟨I86, rfl, lr, S91⟩))))
 rintro _ w101 ⟨I98, rfl, L99, S102⟩
 refine yb (y6 R1 (fun G R1 => ?_) (fun G R1 => ?_))
 refine yg [0] (ya 0 1 z (yb (yp (yk (yh (yr ?_))))))
 obtain rfl := hext85 _ (sj R1).symm
 exact yk (yh (sj D ▸ yw ⟨I98, rfl, le, S102.drop⟩))
 exact W.skip (yl (ye (yai nL3 (ya 0 1 z (yao i88 z (ya 2 1 z (yt (yv ⟨(), (sj R1).symm, I98, rfl, le, S102⟩))))))))
 rintro _ _ w107 ⟨I86, rfl, L87, S108⟩ he
 cases he
 refine W.seq (yg nL5 (yf 0 2 [4] z (yj (S108.rf m0) z (ya 3 2 z (yb (yas fun _ => W.exit (yo (yq (yu (ye (W.seq (yg nL22 (yf 0 1 [3] z (yj (S108.rf m0) z (ya 2 3 z (bsq D fun q109 Xq109 D => yav [5, 6, 7, 8] 9 92 97 Xq109 (fun _ => yf 5 1 [3] z (yj (S108.rf m0) z (ya 7 3 z yak))) (ya 10 1 z (yav [11, 12, 13, 14] 15 98 103 (.refl (q109 || (decide ((p0.Cons.length : Int) > 6)))) (fun _ => yf 11 1 [4] z (yj (S108.rf m0) z (ya 13 3 z yak))) (ya 16 1 z (bsq D fun q114 Xq114 D => yav [17, 18, 19, 20] 21 104 109 Xq114 (fun _ => yf 17 1 [5] z (yj (S108.rf m0) z (ya 19 3 z yak))) (yb (y6 D (fun G D => ?_) (fun G D => ?_)))))))))))))))))))))))
 exact yg [0] (ya 0 1 z (yb (yp (yh (sj D ▸ yw ⟨I86, rfl, le, S108.drop⟩)))))
 refine W.skip (ye (yg nL3 (y7 ((cs_qT p0 w_p0)) (S108.rf m0) z (bsk D fun r123 Xr118 D => yae (r14_lists_ok (h_p0.mono le) S108 Xr118) ?_))))
 rintro _ w119 ⟨I120, a_r123, c_r123, rfl, L121, S122, h_r123⟩
 refine cv (ya 2 1 z (yb (W.seq (yg [0] (ya 0 1 z (yb (yn (bsk D fun t124 hloop128 D => have hlt132 := (h_r123).len_lt; W.wk (yap (m := r123.length) hloop128 (fun (i127 : Nat) (_s : Unit) => JI E I120 [(1, Pt b1 0), (3, Sl a_r10 r10 c_r10), (4, Sl a_r11 r11 c_r11), (9, Sl a_r123 r123 c_r123), (10, Nv i127)] (bT b1 p0 w_p0 :: Os)) ⟨I120, rfl, lr, S122⟩ ?_ ?_)))))))))
 rintro i127 _ _ w129 hi133 ⟨I125, rfl, L126, S130⟩ x131 R1 hext124
 refine W.seq (yg nL4 (ya 0 4 z (yb (yat fun _ => W.skip (ye (W.seq (yn (yg nL15 (yf 0 2 [4] z (yj (S130.rf m0) z (ya 3 3 z (bsk R1 fun j134 R2 R1 => yam (l1 := [6, 7, 8, 9, 10, 11, 12, 13]) (J := JI E I125 [(1, Pt b1 0), (3, Sl a_r10 r10 c_r10), (4, Sl a_r11 r11 c_r11), (9, Sl a_r123 r123 c_r123), (10, Nv i127), (131, .bool j134)] (bT b1 p0 w_p0 :: Os)) ?_ ?_))))))))))))
 refine yal R2 (fun G R2 => ?_) (fun G R2 => ?_)
 refine yz 123 G (yf 6 1 [4] z (yj (S130.rf m0) z (ya 8 1 z ?_)))
 obtain ⟨x138, R2, Hx138, _, ⟨w_x138, rfl, h_x138⟩, Zx138⟩ := sx I125 h_p0.Cons R2
 exact y0 137 12 Hx138 z (yf 10 1 [1] z (yar Zx138 1 S130.rm z (ya 12 2 z (sj R2 ▸ yy ⟨I125, rfl, lr, S130⟩))))
 refine yz 123 G ?_
 iterate 7 refine WO.ps ?_
 exact ya 13 1 z (sj R2 ▸ yy ⟨I125, rfl, lr, S130⟩)
 rintro _ w139 ⟨I136, rfl, L137, S140⟩
 refine ya 14 1 z (yb (W.seq (yg nL18 (ya 0 3 z (bsk R1 fun j141 R2 R1 => yam (l1 := [3, 4, 5, 6, 7, 8, 9, 10, 11, 12, 13, 14, 15, 16, 17]) (J := JI E I136 [(1, Pt b1 0), (3, Sl a_r10 r10 c_r10), (4, Sl a_r11 r11 c_r11), (9, Sl a_r123 r123 c_r123), (10, Nv i127), (149, .bool j141)] (bT b1 p0 w_p0 :: Os)) ?_ ?_)))))
 refine yal R2 (fun G R2 => ?_) (fun G R2 => ?_)
 refine yz 134 G (ya 3 2 z ?_)
 obtain ⟨x145, Xx145, R2⟩ := bsm R2
 obtain ⟨h0_x145, h1_x145, Xx145⟩ := idx_some Xx145
 obtain ⟨ha_x145, cs_x145, hn_x145, hr_x145, Zx145⟩ := ((RSl.mono h_r123 (L126.trans L137))).el _ _ Xx145
 obtain ⟨a_x145, c_x145, rfl, h_x145⟩ := hr_x145
 refine ya4 35 1 ha_x145 h0_x145 h1_x145 ?_
 refine yan Zx145 S140.rm z (ya 7 3 z (bsk R2 fun j146 R3 R2 => yam (l1 := [10, 11, 12, 13, 14, 15, 16]) (J := JI E I136 [(1, Pt b1 0), (3, Sl a_r10 r10 c_r10), (4, Sl a_r11 r11 c_r11), (9, Sl a_r123 r123 c_r123), (10, Nv i127), (134, .bool true), (148, .bool j146)] (bT b1 p0 w_p0 :: Os)) ?_ ?_))
 refine yal R3 (fun G R3 => ?_) (fun G R3 => ?_)
 refine yz 141 G ?_
 iterate 6 refine WO.ps ?_
 exact ya 16 1 z (sj R3 ▸ yy ⟨I136, rfl, lr, S140⟩)
 refine yz 141 G (ya 10 2 z ?_)
 obtain ⟨x150, Xx150, R3⟩ := bsm R3
 obtain ⟨h0_x150, h1_x150, Xx150⟩ := idx_some Xx150
 obtain ⟨ha_x150, cs_x150, hn_x150, hr_x150, Zx150⟩ := ((RSl.mono h_r123 (L126.trans L137))).el _ _ Xx150
 obtain ⟨a_x150, c_x150, rfl, h_x150⟩ := hr_x150
 refine ya4 35 1 ha_x150 h0_x150 h1_x150 ?_
 exact yan Zx150 S140.rm z (ya 14 3 z (sj R3 ▸ yy ⟨I136, rfl, lr, S140⟩))
 rintro _ w151 ⟨I148, rfl, L149, S152⟩
 exact ya 17 1 z (sj R2 ▸ yy ⟨I148, rfl, L149, S152⟩)
 refine yz 134 G ?_
 iterate 14 refine WO.ps ?_
 exact ya 17 1 z (sj R2 ▸ yy ⟨I136, rfl, lr, S140⟩)
 rintro _ w153 ⟨I143, rfl, L144, S154⟩
 refine yb (y6 R1 (fun G R1 => ?_) (fun G R1 => ?_))
 refine yg [0] (ya 0 1 z (yb (yp (yh (yk (yh (yr ?_)))))))
 obtain rfl := hext124 _ (sj R1).symm
 exact yk (yh (sj D ▸ yw ⟨I143, rfl, le, S154.drop⟩))
 refine W.skip (ye (yg nL34 (yf 0 2 [4] z (yj (S154.rf m0) z (ya 3 3 z (bsk R1 fun j159 R2 R1 => yam (l1 := [6, 7, 8, 9, 10, 11, 12, 13]) (J := JI E I143 [(1, Pt b1 0), (3, Sl a_r10 r10 c_r10), (4, Sl a_r11 r11 c_r11), (9, Sl a_r123 r123 c_r123), (10, Nv i127), (163, .bool j159)] (bT b1 p0 w_p0 :: Os)) ?_ ?_))))))
 refine yal R2 (fun G R2 => ?_) (fun G R2 => ?_)
 refine yz 155 G (yf 6 1 [4] z (yj (S154.rf m0) z (ya 8 1 z ?_)))
 obtain ⟨x163, R2, Hx163, _, ⟨w_x163, rfl, h_x163⟩, Zx163⟩ := sx I143 h_p0.Cons R2
 exact y0 137 12 Hx163 z (yf 10 1 [1] z (yar Zx163 1 S154.rm z (ya 12 2 z (sj R2 ▸ yy ⟨I143, rfl, lr, S154⟩))))
 refine yz 155 G ?_
 iterate 7 refine WO.ps ?_
 exact ya 13 1 z (sj R2 ▸ yy ⟨I143, rfl, lr, S154⟩)
 rintro _ w164 ⟨I161, rfl, L162, S165⟩
 refine ya 14 1 z (bsk R1 fun j166 R2 R1 => yam (l1 := [15, 16, 17, 18, 19, 20, 21, 22, 23, 24, 25, 26, 27, 28, 29, 30, 31, 32, 33]) (J := JI E I161 [(1, Pt b1 0), (3, Sl a_r10 r10 c_r10), (4, Sl a_r11 r11 c_r11), (9, Sl a_r123 r123 c_r123), (10, Nv i127), (183, .bool j166)] (bT b1 p0 w_p0 :: Os)) ?_ ?_)
 refine yal R2 (fun G R2 => ?_) (fun G R2 => ?_)
 refine yz 164 G (yf 15 1 [4] z (yj (S165.rf m0) z (ya 17 1 z ?_)))
 obtain ⟨x170, R2, Hx170, _, ⟨w_x170, rfl, h_x170⟩, Zx170⟩ := sx I161 h_p0.Cons R2
 refine y0 137 12 Hx170 z (yf 19 1 [11] z (yar Zx170 11 S165.rm z (ya 21 3 z (bsk R2 fun j171 R3 R2 => yam (l1 := [24, 25, 26, 27, 28, 29, 30, 31, 32]) (J := JI E I161 [(1, Pt b1 0), (3, Sl a_r10 r10 c_r10), (4, Sl a_r11 r11 c_r11), (9, Sl a_r123 r123 c_r123), (10, Nv i127), (164, .bool true), (182, .bool j171)] (bT b1 p0 w_p0 :: Os)) ?_ ?_))))
 refine yal R3 (fun G R3 => ?_) (fun G R3 => ?_)
 refine yz 173 G ?_
 iterate 8 refine WO.ps ?_
 exact ya 32 1 z (sj R3 ▸ yy ⟨I161, rfl, lr, S165⟩)
 refine yz 173 G (yf 24 1 [4] z (yj (S165.rf m0) z (ya 26 1 z ?_)))
 obtain ⟨x175, R3, Hx175, _, ⟨w_x175, rfl, h_x175⟩, Zx175⟩ := sx I161 h_p0.Cons R3
 exact y0 137 12 Hx175 z (yf 28 1 [11] z (yar Zx175 11 S165.rm z (ya 30 3 z (sj R3 ▸ yy ⟨I161, rfl, lr, S165⟩))))
 rintro _ w176 ⟨I173, rfl, L174, S177⟩
 exact ya 33 1 z (sj R2 ▸ yy ⟨I173, rfl, L174, S177⟩)
 refine yz 164 G ?_
 iterate 18 refine WO.ps ?_
 exact ya 33 1 z (sj R2 ▸ yy ⟨I161, rfl, lr, S165⟩)
 rintro _ w178 ⟨I168, rfl, L169, S179⟩
 refine yb (y6 R1 (fun G R1 => ?_) (fun G R1 => ?_))
 refine yg [0] (ya 0 1 z (yb (yp (yk (yh (yr ?_))))))
 obtain rfl := hext124 _ (sj R1).symm
 exact yk (yh (sj D ▸ yw ⟨I168, rfl, le, S179.drop⟩))
 exact W.skip (yl (ye (yai nL3 (ya 0 1 z (yao i127 z (ya 2 1 z (yt (yv ⟨(), (sj R1).symm, I168, rfl, le, S179⟩))))))))
 rintro _ _ w181 ⟨I125, rfl, L126, S182⟩ he
 cases he
 refine W.seq (yg nL4 (ya 0 4 z (yb (yas fun _ => W.exit (yo (yq (yu (ye (W.seq (yg nL6 (ya 0 1 z (bsk D fun r188 Xr183 D => WO.c1 (r14_twice_ok (up h_r10) S182 Xr183) z fun I185 w184 L186 S187 => ya 2 1 z (bsk D fun j189 R1 D => yam (l1 := [3, 4, 5]) (J := JI E I185 [(1, Pt b1 0), (9, Sl a_r123 r123 c_r123), (189, .bool j189)] (bT b1 p0 w_p0 :: Os)) ?_ ?_)))))))))))))
 refine yal R1 (fun G R1 => ?_) (fun G R1 => ?_)
 refine yz 186 G ?_
 iterate 2 refine WO.ps ?_
 exact ya 5 1 z (sj R1 ▸ yy ⟨I185, rfl, lr, S187⟩)
 exact yz 186 G (ya 3 1 z (bsk R1 fun r198 Xr193 R1 => WO.c1 (r14_twice_ok (up h_r11) S187 Xr193) z fun I195 w194 L196 S197 => ya 5 1 z (sj R1 ▸ yy ⟨I195, rfl, L196, S197⟩)))
 rintro _ w199 ⟨I191, rfl, L192, S200⟩
 refine yb (y6 D (fun G D => ?_) (fun G D => ?_))
 exact yg [0] (ya 0 1 z (yb (yp (yh (sj D ▸ yw ⟨I191, rfl, le, S200.drop⟩)))))
 refine W.skip (ye (W.seq (yg [0] (ya 0 1 z (yb (yn (bsk D fun t202 hloop206 D => have hlt210 := ((RSl.mono h_r123 ((L126.trans L186).trans L192))).len_lt; W.wk (yap (m := r123.length) hloop206 (fun (i205 : Nat) (_s : Unit) => JI E I191 [(1, Pt b1 0), (9, Sl a_r123 r123 c_r123), (12, Nv i205)] (bT b1 p0 w_p0 :: Os)) ⟨I191, rfl, lr, S200⟩ ?_ ?_))))))))
 rintro i205 _ _ w207 hi211 ⟨I203, rfl, L204, S208⟩ x209 R1 hext202
 refine W.seq (yg nL4 (ya 0 4 z (yb (yat fun _ => W.skip (ye (W.seq (yn (yg nL21 (ya 0 2 z ?_)))))))))
 obtain ⟨x212, Xx212, R1⟩ := bsm R1
 obtain ⟨h0_x212, h1_x212, Xx212⟩ := idx_some Xx212
 obtain ⟨ha_x212, cs_x212, hn_x212, hr_x212, Zx212⟩ := ((RSl.mono h_r123 (((L126.trans L186).trans L192).trans L204))).el _ _ Xx212
 obtain ⟨a_x212, c_x212, rfl, h_x212⟩ := hr_x212
 refine ya4 35 1 ha_x212 h0_x212 h1_x212 ?_
 refine yan Zx212 S208.rm z (bsk R1 fun r218 Xr213 R1 => WO.c1 (r14_twice_ok h_x212 S208 Xr213) z fun I215 w214 L216 S217 => ya 5 1 z (bsk R1 fun j219 R2 R1 => yam (l1 := [6, 7, 8, 9, 10, 11, 12, 13, 14, 15, 16, 17, 18, 19, 20]) (J := JI E I215 [(1, Pt b1 0), (9, Sl a_r123 r123 c_r123), (12, Nv i205), (216, .bool j219)] (bT b1 p0 w_p0 :: Os)) ?_ ?_))
 refine yal R2 (fun G R2 => ?_) (fun G R2 => ?_)
 refine yz 201 G ?_
 iterate 14 refine WO.ps ?_
 exact ya 20 1 z (sj R2 ▸ yy ⟨I215, rfl, lr, S217⟩)
 refine yz 201 G (yf 6 2 [4] z (yj (S217.rf m0) z (ya 9 3 z (bsk R2 fun j223 R3 R2 => yam (l1 := [12, 13, 14, 15, 16, 17, 18, 19]) (J := JI E I215 [(1, Pt b1 0), (9, Sl a_r123 r123 c_r123), (12, Nv i205), (201, .bool false), (215, .bool j223)] (bT b1 p0 w_p0 :: Os)) ?_ ?_))))
 refine yal R3 (fun G R3 => ?_) (fun G R3 => ?_)
 refine yz 207 G (yf 12 1 [4] z (yj (S217.rf m0) z (ya 14 1 z ?_)))
 obtain ⟨x227, R3, Hx227, _, ⟨w_x227, rfl, h_x227⟩, Zx227⟩ := sx I215 h_p0.Cons R3
 exact y0 137 12 Hx227 z (yf 16 1 [11] z (yar Zx227 11 S217.rm z (bsk R3 fun r233 Xr228 R3 => WO.c1 (r14_twice_ok h_x227.Refs S217 Xr228) z fun I230 w229 L231 S232 => ya 19 1 z (sj R3 ▸ yy ⟨I230, rfl, L231, S232⟩))))
 refine yz 207 G ?_
 iterate 7 refine WO.ps ?_
 exact ya 19 1 z (sj R3 ▸ yy ⟨I215, rfl, lr, S217⟩)
 rintro _ w234 ⟨I225, rfl, L226, S235⟩
 exact ya 20 1 z (sj R2 ▸ yy ⟨I225, rfl, L226, S235⟩)
 rintro _ w236 ⟨I221, rfl, L222, S237⟩
 refine yb (y6 R1 (fun G R1 => ?_) (fun G R1 => ?_))
 refine yg [0] (ya 0 1 z (yb (yp (yk (yh (yr ?_))))))
 obtain rfl := hext202 _ (sj R1).symm
 exact yk (yh (sj D ▸ yw ⟨I221, rfl, le, S237.drop⟩))
 exact W.skip (yl (ye (yai nL3 (ya 0 1 z (yao i205 z (ya 2 1 z (yt (yv ⟨(), (sj R1).symm, I221, rfl, le, S237⟩))))))))
 rintro _ _ w242 ⟨I203, rfl, L204, S243⟩ he
 cases he
 exact W.seq (yg nL4 (ya 0 4 z (yb (yas fun _ => W.exit (yo (yq (yu (ye (yg [0] (ya 0 1 z (yb (yp (sj D ▸ yw ⟨I203, rfl, le, S243.drop⟩)))))))))))))
def r10_Height_fu : Nat → qE → Option Int
  | 0, _ => none
  | fu + 1, p0 => (forE (fun (i9 : Nat) (s8 : Int) => (idx p0.Kids (i9 : Int)).bind (fun x16 => (r10_Height_fu fu x16).bind (fun r22 => ((bif (decide (r22 > s8)) then some r22 else some s8)).bind (fun (j23 : Int) => some j23)))) p0.Kids.length 0 0).bind (fun s8 => some (w64 (s8 + 1)))
noncomputable def r10_Height (p0 : qE) : Option Int := anyFuel (fun fu => r10_Height_fu fu p0)
theorem r10_Height_fu_ok : ∀ (fu : Nat) {E w : World} {I : Mem} {Os : List Mem} {p0 : qE} {w_p0 : W_qE} (h_p0 : ok_qE I p0 w_p0) (hS : St E w I Os) {r : Int} (D : r10_Height_fu fu p0 = some r),
    Calls P 152 #[(vE p0 w_p0)] w (RT E I Os (Iv r)) := by
 intro fu
 induction fu with
 | zero => intro E w I Os p0 w_p0 h_p0 hS r D; cases D
 | succ fu ih =>
 intro E w I Os p0 w_p0 h_p0 hS r D
 refine calls_W (fn := Tryz.f152) rfl rfl rfl ?_
 unfold r10_Height_fu at D
 refine yg nL2 (yab hS (cs_qE p0 w_p0) 41 z fun b1 w4 S3 => ya 1 1 z (yac [0] (ya 0 1 z (yb (W.seq (yg [0] (ya 0 1 z (yb (yn (bsk D fun s8 hloop10 D => have hlt14 := (h_p0.Kids).len_lt; W.wk (ya0 (m := p0.Kids.length) hloop10 (fun (i9 : Nat) (s8 : Int) => JI E I [(1, Pt b1 0), (3, Iv s8), (4, Nv i9)] (bE b1 p0 w_p0 :: Os)) ⟨I, rfl, lr, S3⟩ ?_ ?_)))))))))))
 rintro i9 s8 _ w11 hi15 ⟨I6, rfl, L7, S12⟩ x13 R1
 refine W.seq (yg nL5 (yf 0 2 [6] z (yj (S12.rf m0) z (ya 3 2 z (yb (yat fun _ => W.skip (ye (W.seq (yn (yg nL7 (yf 0 1 [6] z (yj (S12.rf m0) z (ya 2 1 z ?_)))))))))))))
 obtain ⟨x16, Xx16, R1⟩ := bsm R1
 obtain ⟨h0_x16, h1_x16, Xx16⟩ := idx_some Xx16
 obtain ⟨ha_x16, cs_x16, hn_x16, hr_x16, Zx16⟩ := ((RSl.mono h_p0.Kids L7)).el _ _ Xx16
 obtain ⟨w_x16, rfl, h_x16⟩ := Q_qE_iff.1 hr_x16
 refine ya4 41 7 ha_x16 h0_x16 h1_x16 ?_
 refine yaq ((cs_qE x16 w_x16)) Zx16 0 S12.rm z (bsk R1 fun r22 Xr17 R1 => WO.c1 (ih h_x16 S12 Xr17) z fun I19 w18 L20 S21 => ya 6 1 z (yac nL3 (ya 0 3 z (yb (bsk R1 fun j23 R2 R1 => yay (J := JI E I19 [(1, Pt b1 0), (3, Iv j23), (4, Nv i9)] (bE b1 p0 w_p0 :: Os)) ?_ ?_)))))
 refine y6 R2 (fun G R2 => ?_) (fun G R2 => ?_)
 exact yai nL2 (ya 0 2 z (yt (sj R2 ▸ yv ⟨I19, rfl, lr, S21⟩)))
 exact W.skip (sj R2 ▸ yv ⟨I19, rfl, lr, S21⟩)
 rintro _ w27 ⟨I25, rfl, L26, S28⟩
 exact yl (ye (yai nL3 (ya 0 1 z (yao i9 z (ya 2 1 z (yt (sj R1 ▸ yv ⟨I25, rfl, le, S28⟩)))))))
 rintro _ w29 ⟨I6, rfl, L7, S30⟩
 exact W.seq (yg nL5 (yf 0 2 [6] z (yj (S30.rf m0) z (ya 3 2 z (yb (yas fun _ => W.exit (yo (yq (yu (ye (yg nL3 (ya 0 3 z (yb (yp (sj D ▸ yw ⟨I6, rfl, L7, S30.drop⟩)))))))))))))))
theorem r10_Height_ok {p0 : qE} {w_p0 : W_qE} (h_p0 : ok_qE I p0 w_p0) (hS : St E w I Os) {r : Int} (D : r10_Height p0 = some r) :
    Calls P 152 #[(vE p0 w_p0)] w (RT E I Os (Iv r)) := by
 obtain ⟨fu, hf⟩ := anyFuel_some D
 exact r10_Height_fu_ok fu h_p0 hS hf
noncomputable def r03_Right (p0 : qV) : Option Bool := (bif (p0.Kind == 0) then some ((p0.N == 0) && (sEq p0.S eB)) else (bif (p0.Kind == 1) then some (sEq p0.S eB) else (bif (p0.Kind == 2) then (some (((sEq p0.S eB) && (decide (p0.N ≥ 0))) && (decide (p0.N ≤ 1)))).bind (fun (q11 : Bool) => some q11) else (bif (p0.Kind == 3) then ((bif ((p0.N == 0) && (decide ((p0.S.size : Int) ≤ 32))) then (r03_Plain p0.S).bind (fun r26 => some r26) else some false)).bind (fun (j17 : Bool) => some j17) else some false))))
theorem r03_Right_ok {p0 : qV} (hS : St E w I Os) {r : Bool} (D : r03_Right p0 = some r) :
    Calls P 168 #[(vV p0)] w (RT E I Os (.bool r)) := by
 refine calls_W (fn := Tryz.f168) rfl rfl rfl ?_
 unfold r03_Right at D
 refine yg nL2 (yab hS (cs_qV p0) 38 z fun b1 w4 S3 => ya 1 1 z (yb (W.seq (yg nL2 (yf 0 1 [0] z (yj (S3.rf m0) z (yb (yn (yg nL2 (ya 0 2 z (yb (y6 D (fun G D => ?_) (fun G D => ?_)))))))))))))
 exact yg nL9 (yf 0 1 [1] z (yj (S3.rf m0) z (ya 2 2 z (yaw [4, 5, 6] 7 10 14 (.refl ((p0.N == 0) && (sEq p0.S eB))) (fun _ => yf 4 1 [2] z (yj (S3.rf m0) z (ya 6 2 z yak))) (ya 8 1 z (yb (yp (yk (yh (sj D ▸ yw ⟨I, rfl, lr, S3.drop⟩))))))))))
 refine yg nL2 (ya 0 2 z (yb (y6 D (fun G D => ?_) (fun G D => ?_))))
 exact yg nL4 (yf 0 1 [2] z (yj (S3.rf m0) z (ya 2 2 z (yb (yp (yk (yh (sj D ▸ yw ⟨I, rfl, lr, S3.drop⟩))))))))
 refine yg nL2 (ya 0 2 z (yb (y6 D (fun G D => ?_) (fun G D => ?_))))
 exact yg nL14 (yf 0 1 [2] z (yj (S3.rf m0) z (ya 2 2 z (yaw [4, 5, 6] 7 25 29 (.refl ((sEq p0.S eB) && (decide (p0.N ≥ 0)))) (fun _ => yf 4 1 [1] z (yj (S3.rf m0) z (ya 6 2 z yak))) (ya 8 1 z (bsq D fun q11 Xq11 D => yaw [9, 10, 11] 12 30 34 Xq11 (fun _ => yf 9 1 [1] z (yj (S3.rf m0) z (ya 11 2 z yak))) (ya 13 1 z (yb (yp (yk (yh (sj D ▸ yw ⟨I, rfl, lr, S3.drop⟩))))))))))))
 refine yg nL2 (ya 0 2 z (yb (y6 D (fun G D => ?_) (fun G D => ?_))))
 refine yg nL15 (yf 0 1 [1] z (yj (S3.rf m0) z (ya 2 2 z (yaw [4, 5, 6, 7] 8 40 45 (.refl ((p0.N == 0) && (decide ((p0.S.size : Int) ≤ 32)))) (fun _ => yf 4 1 [2] z (yj (S3.rf m0) z (ya 6 3 z yak))) (ya 9 1 z (bsk D fun j17 R1 D => yam (l1 := [10, 11, 12, 13]) (J := JI E I [(50, .bool j17)] Os) ?_ ?_))))))
 refine yal R1 (fun G R1 => ?_) (fun G R1 => ?_)
 exact yz 46 G (yf 10 1 [2] z (yj (S3.rf m0) z (bsk R1 fun r26 Xr21 R1 => WO.c1 (r03_Plain_ok  S3 Xr21) z fun I23 w22 L24 S25 => ya 13 1 z (sj R1 ▸ yy ⟨I23, rfl, L24, S25.drop⟩))))
 refine yz 46 G ?_
 iterate 3 refine WO.ps ?_
 exact ya 13 1 z (sj R1 ▸ yy ⟨I, rfl, lr, S3.drop⟩)
 rintro _ w29 ⟨I19, rfl, L20, S30⟩
 exact ya 14 1 z (yb (yp (yk (yh (sj D ▸ yw ⟨I19, rfl, L20, S30⟩)))))
 exact W.skip (yl (ye (yg [0] (ya 0 1 z (yb (yp (sj D ▸ yw ⟨I, rfl, lr, S3.drop⟩)))))))
noncomputable def r10_Right_fu : Nat → qE → Bool → Option Bool
  | 0, _, _ => none
  | fu + 1, p0, p1 => (forN (fun (i8 : Nat) (_s : Unit) => (idx p0.Kids (i8 : Int)).bind (fun x15 => (r10_Right_fu fu x15 p1).bind (fun r21 => (bif (!r21) then some (.inr false) else some (.inl ()))))) p0.Kids.length 0 ()).bind (fun (t : Unit ⊕ (Bool)) => match t with | .inl _ => (some ((p0.Kind != 1) && (!((p0.V.Kind == 0) && ((p0.V.N == 0) && sEq p0.V.S eB))))).bind (fun (q32 : Bool) => (some (q32 || (((p0.Kind != 2) && (p0.Kind != 7)) && (!sEq p0.Name eB)))).bind (fun (q39 : Bool) => (bif q39 then some false else (some ((((p0.Kind == 1) || (p0.Kind == 2)) || (p0.Kind == 6)) || (p0.Kind == 7))).bind (fun (q52 : Bool) => (bif (q52 && (p0.Op != 0)) then some false else (bif (p0.Kind == 1) then ((bif ((p0.Kids.length : Int) == 0) then (r03_Right p0.V).bind (fun r69 => some r69) else some false)).bind (fun (j59 : Bool) => some (j59 && (!((p0.V.Kind == 1) && (decide (p0.V.N < 0)))))) else (bif (p0.Kind == 2) then ((bif ((p0.Kids.length : Int) == 0) then (r09_IsName p0.Name).bind (fun r90 => some r90) else some false)).bind (fun (j81 : Bool) => some j81) else (bif (p0.Kind == 3) then (some ((((p0.Kids.length : Int) == 0) && (decide (p0.Op ≥ 1))) && (decide (p0.Op ≤ 6)))).bind (fun (q99 : Bool) => some q99) else (bif (p0.Kind == 4) then (some ((((p0.Kids.length : Int) == 1) && (decide (p0.Op ≥ 1))) && (decide (p0.Op ≤ 4)))).bind (fun (q106 : Bool) => some q106) else (bif (p0.Kind == 5) then (some ((((p0.Kids.length : Int) == 2) && (decide (p0.Op ≥ 1))) && (decide (p0.Op ≤ 14)))).bind (fun (q113 : Bool) => some q113) else (bif (p0.Kind == 6) then (some ((decide ((p0.Kids.length : Int) ≥ 2)) && (decide ((p0.Kids.length : Int) ≤ 9)))).bind (fun (q118 : Bool) => some q118) else (bif (p0.Kind == 7) then (some ((sEq p0.Name (⟨#[99, 111, 97, 108, 101, 115, 99, 101]⟩ : By8)) && (decide ((p0.Kids.length : Int) ≥ 1)))).bind (fun (q123 : Bool) => (some ((q123 && (decide ((p0.Kids.length : Int) ≤ 4))) || (((sEq p0.Name (⟨#[108, 101, 110, 103, 116, 104]⟩ : By8)) || (sEq p0.Name (⟨#[97, 98, 115]⟩ : By8))) && ((p0.Kids.length : Int) == 1)))).bind (fun (q132 : Bool) => some q132)) else (bif (p0.Kind == 8) then (some ((p1 && ((p0.Kids.length : Int) == 0)) && (decide (p0.Op ≥ 0)))).bind (fun (q143 : Bool) => some (q143 && (decide (p0.Op ≤ 5)))) else some false))))))))))))) | .inr s23 => some s23)
noncomputable def r10_Right (p0 : qE) (p1 : Bool) : Option Bool := anyFuel (fun fu => r10_Right_fu fu p0 p1)
theorem r10_Right_fu_ok : ∀ (fu : Nat) {E w : World} {I : Mem} {Os : List Mem} {p0 : qE} {p1 : Bool} {w_p0 : W_qE} (h_p0 : ok_qE I p0 w_p0) (hS : St E w I Os) {r : Bool} (D : r10_Right_fu fu p0 p1 = some r),
    Calls P 153 #[(vE p0 w_p0), (.bool p1)] w (RT E I Os (.bool r)) := by
 intro fu
 induction fu with
 | zero => intro E w I Os p0 p1 w_p0 h_p0 hS r D; cases D
 | succ fu ih =>
 intro E w I Os p0 p1 w_p0 h_p0 hS r D
 refine calls_W (fn := Tryz.f153) rfl rfl rfl ?_
 unfold r10_Right_fu at D
 refine yg nL2 (yab hS (cs_qE p0 w_p0) 41 z fun b1 w4 S3 => ya 1 1 z (yb (W.seq (yg [0] (ya 0 1 z (yb (yn (bsk D fun t5 hloop9 D => have hlt13 := (h_p0.Kids).len_lt; W.wk (yap (m := p0.Kids.length) hloop9 (fun (i8 : Nat) (_s : Unit) => JI E I [(1, .bool p1), (2, Pt b1 0), (5, Nv i8)] (bE b1 p0 w_p0 :: Os)) ⟨I, rfl, lr, S3⟩ ?_ ?_)))))))))
 rintro i8 _ _ w10 hi14 ⟨I6, rfl, L7, S11⟩ x12 R1 hext5
 refine W.seq (yg nL5 (yf 0 2 [6] z (yj (S11.rf m0) z (ya 3 2 z (yb (yat fun _ => W.skip (ye (W.seq (yn (yg nL8 (yf 0 1 [6] z (yj (S11.rf m0) z (ya 2 1 z ?_)))))))))))))
 obtain ⟨x15, Xx15, R1⟩ := bsm R1
 obtain ⟨h0_x15, h1_x15, Xx15⟩ := idx_some Xx15
 obtain ⟨ha_x15, cs_x15, hn_x15, hr_x15, Zx15⟩ := ((RSl.mono h_p0.Kids L7)).el _ _ Xx15
 obtain ⟨w_x15, rfl, h_x15⟩ := Q_qE_iff.1 hr_x15
 refine ya4 41 7 ha_x15 h0_x15 h1_x15 ?_
 refine yaq ((cs_qE x15 w_x15)) Zx15 0 S11.rm z (ya 5 1 z (bsk R1 fun r21 Xr16 R1 => WO.c1 (ih h_x15 S11 Xr16) z fun I18 w17 L19 S20 => ya 7 1 z (yb (y6 R1 (fun G R1 => ?_) (fun G R1 => ?_)))))
 refine yg [0] (ya 0 1 z (yb (yp (yk (yh (yr ?_))))))
 obtain rfl := hext5 _ (sj R1).symm
 exact yk (yh (sj D ▸ yw ⟨I18, rfl, le, S20.drop⟩))
 exact W.skip (yl (ye (yai nL3 (ya 0 1 z (yao i8 z (ya 2 1 z (yt (yv ⟨(), (sj R1).symm, I18, rfl, le, S20⟩))))))))
 rintro _ _ w26 ⟨I6, rfl, L7, S27⟩ he
 cases he
 refine W.seq (yg nL5 (yf 0 2 [6] z (yj (S27.rf m0) z (ya 3 2 z (yb (yas fun _ => W.exit (yo (yq (yu (ye (yg nL4 (yf 0 1 [6] z (yj (S27.rf m0) z (ya 2 2 z (yac [0] (yab S27 (cs_qV z_qV) 38 z fun b28 w31 S30 => yb (W.seq (yg nL24 (yf 0 1 [0] z (yj (S30.rf m1) z (ya 2 2 z (bsq D fun q32 Xq32 D => yaw [4, 5, 6, 7] 8 29 34 Xq32 (fun G => ?_) ?_))))))))))))))))))))))
 refine yf 4 1 [2] z (y7 ((cs_qV p0.V)) (S30.rf m1) z (y7 ((cs_qV z_qV)) (S30.rf m0) z (ybe z kr z z kr 50 z (b := ((p0.V.Kind == 0) && ((p0.V.N == 0) && (sEq p0.V.S eB && true)))) kr (!((p0.V.Kind == 0) && ((p0.V.N == 0) && sEq p0.V.S eB))) (.inr ⟨rfl, by simp only [Bool.and_true]⟩) ?_)))
 exact ya 8 1 z yak
 refine ya 9 1 z (bsq D fun q39 Xq39 D => yav [10, 11, 12, 13, 14, 15, 16, 17, 18, 19, 20, 21, 22] 23 35 49 Xq39 (fun _ => yf 10 1 [0] z (yj (S30.rf m1) z (ya 12 2 z (yaw [14, 15, 16] 17 39 43 (.refl ((p0.Kind != 2) && (p0.Kind != 7))) (fun _ => yf 14 1 [0] z (yj (S30.rf m1) z (ya 16 2 z yak))) (ya 18 1 z (yaw [19, 20, 21] 22 44 48 (.refl (((p0.Kind != 2) && (p0.Kind != 7)) && (!sEq p0.Name eB))) (fun _ => yf 19 1 [5] z (yj (S30.rf m1) z (ya 21 2 z yak))) (ya 23 1 z yak))))))) (yb (y6 D (fun G D => ?_) (fun G D => ?_))))
 exact yg [0] (ya 0 1 z (yb (yp (yh (sj D ▸ yw ⟨I6, rfl, L7, S30.d2⟩)))))
 refine W.skip (ye (W.seq (yg nL23 (yf 0 1 [0] z (yj (S30.rf m1) z (ya 2 2 z (yav [4, 5, 6] 7 53 57 (.refl ((p0.Kind == 1) || (p0.Kind == 2))) (fun _ => yf 4 1 [0] z (yj (S30.rf m1) z (ya 6 2 z yak))) (ya 8 1 z (yav [9, 10, 11] 12 58 62 (.refl (((p0.Kind == 1) || (p0.Kind == 2)) || (p0.Kind == 6))) (fun _ => yf 9 1 [0] z (yj (S30.rf m1) z (ya 11 2 z yak))) (ya 13 1 z (bsq D fun q52 Xq52 D => yav [14, 15, 16] 17 63 67 Xq52 (fun _ => yf 14 1 [0] z (yj (S30.rf m1) z (ya 16 2 z yak))) (ya 18 1 z (yaw [19, 20, 21] 22 68 72 (.refl (q52 && (p0.Op != 0))) (fun _ => yf 19 1 [1] z (yj (S30.rf m1) z (ya 21 2 z yak))) (yb (y6 D (fun G D => ?_) (fun G D => ?_))))))))))))))))
 exact yg [0] (ya 0 1 z (yb (yp (yh (sj D ▸ yw ⟨I6, rfl, L7, S30.d2⟩)))))
 refine W.skip (ye (W.seq (yg nL2 (yf 0 1 [0] z (yj (S30.rf m1) z (yb (yn (yg nL2 (ya 0 2 z (yb (y6 D (fun G D => ?_) (fun G D => ?_))))))))))))
 refine yg nL21 (ya 0 3 z (bsk D fun j59 R1 D => yam (l1 := [3, 4, 5, 6]) (J := JI E I6 [(2, Pt b1 0), (83, .bool j59)] (bE b1 p0 w_p0 :: Os)) ?_ ?_))
 refine yal R1 (fun G R1 => ?_) (fun G R1 => ?_)
 exact yz 79 G (yf 3 1 [2] z (y7 ((cs_qV p0.V)) (S30.rf m1) z (bsk R1 fun r69 Xr63 R1 => WO.c1 (r03_Right_ok  S30 Xr63) z fun I66 w65 L67 S68 => ya 6 1 z (sj R1 ▸ yy ⟨I66, rfl, L67, S68.drop⟩))))
 refine yz 79 G ?_
 iterate 3 refine WO.ps ?_
 exact ya 6 1 z (sj R1 ▸ yy ⟨I6, rfl, lr, S30.drop⟩)
 rintro _ w72 ⟨I61, rfl, L62, S73⟩
 exact ya 7 1 z (yaw [8, 9, 10, 11, 12, 13, 14, 15, 16, 17, 18] 19 84 96 (.refl (j59 && (!((p0.V.Kind == 1) && (decide (p0.V.N < 0)))))) (fun _ => yf 8 2 [2, 0] z (yj (S73.rf m0) z (ya 11 2 z (yaw [13, 14, 15, 16] 17 89 94 (.refl ((p0.V.Kind == 1) && (decide (p0.V.N < 0)))) (fun _ => yf 13 2 [2, 1] z (yj (S73.rf m0) z (ya 16 2 z yak))) (ya 18 2 z yak))))) (ya 20 1 z (yb (yp (yk (yh (sj D ▸ yw ⟨I61, rfl, le, S73.drop⟩)))))))
 refine yg nL2 (ya 0 2 z (yb (y6 D (fun G D => ?_) (fun G D => ?_))))
 refine yg nL8 (ya 0 3 z (bsk D fun j81 R1 D => yam (l1 := [3, 4, 5, 6]) (J := JI E I6 [(105, .bool j81)] Os) ?_ ?_))
 refine yal R1 (fun G R1 => ?_) (fun G R1 => ?_)
 exact yz 101 G (yf 3 1 [5] z (yj (S30.rf m1) z (bsk R1 fun r90 Xr85 R1 => WO.c1 (r09_IsName_ok  S30 Xr85) z fun I87 w86 L88 S89 => ya 6 1 z (sj R1 ▸ yy ⟨I87, rfl, L88, S89.d2⟩))))
 refine yz 101 G ?_
 iterate 3 refine WO.ps ?_
 exact ya 6 1 z (sj R1 ▸ yy ⟨I6, rfl, lr, S30.d2⟩)
 rintro _ w95 ⟨I83, rfl, L84, S96⟩
 exact ya 7 1 z (yb (yp (yk (yh (sj D ▸ yw ⟨I83, rfl, le, S96⟩)))))
 refine yg nL2 (ya 0 2 z (yb (y6 D (fun G D => ?_) (fun G D => ?_))))
 exact yg nL13 (ya 0 3 z (yaw [3, 4, 5] 6 110 114 (.refl (((p0.Kids.length : Int) == 0) && (decide (p0.Op ≥ 1)))) (fun _ => yf 3 1 [1] z (yj (S30.rf m1) z (ya 5 2 z yak))) (ya 7 1 z (bsq D fun q99 Xq99 D => yaw [8, 9, 10] 11 115 119 Xq99 (fun _ => yf 8 1 [1] z (yj (S30.rf m1) z (ya 10 2 z yak))) (ya 12 1 z (yb (yp (yk (yh (sj D ▸ yw ⟨I6, rfl, L7, S30.d2⟩))))))))))
 refine yg nL2 (ya 0 2 z (yb (y6 D (fun G D => ?_) (fun G D => ?_))))
 exact yg nL13 (ya 0 3 z (yaw [3, 4, 5] 6 124 128 (.refl (((p0.Kids.length : Int) == 1) && (decide (p0.Op ≥ 1)))) (fun _ => yf 3 1 [1] z (yj (S30.rf m1) z (ya 5 2 z yak))) (ya 7 1 z (bsq D fun q106 Xq106 D => yaw [8, 9, 10] 11 129 133 Xq106 (fun _ => yf 8 1 [1] z (yj (S30.rf m1) z (ya 10 2 z yak))) (ya 12 1 z (yb (yp (yk (yh (sj D ▸ yw ⟨I6, rfl, L7, S30.d2⟩))))))))))
 refine yg nL2 (ya 0 2 z (yb (y6 D (fun G D => ?_) (fun G D => ?_))))
 exact yg nL13 (ya 0 3 z (yaw [3, 4, 5] 6 138 142 (.refl (((p0.Kids.length : Int) == 2) && (decide (p0.Op ≥ 1)))) (fun _ => yf 3 1 [1] z (yj (S30.rf m1) z (ya 5 2 z yak))) (ya 7 1 z (bsq D fun q113 Xq113 D => yaw [8, 9, 10] 11 143 147 Xq113 (fun _ => yf 8 1 [1] z (yj (S30.rf m1) z (ya 10 2 z yak))) (ya 12 1 z (yb (yp (yk (yh (sj D ▸ yw ⟨I6, rfl, L7, S30.d2⟩))))))))))
 refine yg nL2 (ya 0 2 z (yb (y6 D (fun G D => ?_) (fun G D => ?_))))
 exact yg nL7 (ya 0 3 z (bsq D fun q118 Xq118 D => yaw [3, 4] 5 152 155 Xq118 (fun _ => ya 3 3 z yak) (ya 6 1 z (yb (yp (yk (yh (sj D ▸ yw ⟨I6, rfl, L7, S30.d2⟩))))))))
 refine yg nL2 (ya 0 2 z (yb (y6 D (fun G D => ?_) (fun G D => ?_))))
 exact yg nL26 (yf 0 1 [5] z (yj (S30.rf m1) z (ya 2 2 z (bsq D fun q123 Xq123 D => yaw [4, 5] 6 161 164 Xq123 (fun _ => ya 4 3 z yak) (ya 7 1 z (yaw [8, 9] 10 165 168 (.refl (q123 && (decide ((p0.Kids.length : Int) ≤ 4)))) (fun _ => ya 8 3 z yak) (ya 11 1 z (bsq D fun q132 Xq132 D => yav [12, 13, 14, 15, 16, 17, 18, 19, 20, 21, 22, 23] 24 169 182 Xq132 (fun _ => yf 12 1 [5] z (yj (S30.rf m1) z (ya 14 2 z (yav [16, 17, 18] 19 173 177 (.refl ((sEq p0.Name (⟨#[108, 101, 110, 103, 116, 104]⟩ : By8)) || (sEq p0.Name (⟨#[97, 98, 115]⟩ : By8)))) (fun _ => yf 16 1 [5] z (yj (S30.rf m1) z (ya 18 2 z yak))) (ya 20 1 z (yaw [21, 22] 23 178 181 (.refl (((sEq p0.Name (⟨#[108, 101, 110, 103, 116, 104]⟩ : By8)) || (sEq p0.Name (⟨#[97, 98, 115]⟩ : By8))) && ((p0.Kids.length : Int) == 1))) (fun _ => ya 21 3 z yak) (ya 24 1 z yak))))))) (ya 25 1 z (yb (yp (yk (yh (sj D ▸ yw ⟨I6, rfl, L7, S30.d2⟩))))))))))))))
 refine yg nL2 (ya 0 2 z (yb (y6 D (fun G D => ?_) (fun G D => ?_))))
 exact yg nL16 (ya 0 2 z (yaw [2, 3] 4 186 189 (.refl (p1 && ((p0.Kids.length : Int) == 0))) (fun _ => ya 2 3 z yak) (ya 5 1 z (bsq D fun q143 Xq143 D => yaw [6, 7, 8] 9 190 194 Xq143 (fun _ => yf 6 1 [1] z (yj (S30.rf m1) z (ya 8 2 z yak))) (ya 10 1 z (yaw [11, 12, 13] 14 195 199 (.refl (q143 && (decide (p0.Op ≤ 5)))) (fun _ => yf 11 1 [1] z (yj (S30.rf m1) z (ya 13 2 z yak))) (ya 15 1 z (yb (yp (yk (yh (sj D ▸ yw ⟨I6, rfl, L7, S30.d2⟩))))))))))))
 exact W.skip (yl (ye (yg [0] (ya 0 1 z (yb (yp (sj D ▸ yw ⟨I6, rfl, L7, S30.d2⟩)))))))
theorem r10_Right_ok {p0 : qE} {p1 : Bool} {w_p0 : W_qE} (h_p0 : ok_qE I p0 w_p0) (hS : St E w I Os) {r : Bool} (D : r10_Right p0 p1 = some r) :
    Calls P 153 #[(vE p0 w_p0), (.bool p1)] w (RT E I Os (.bool r)) := by
 obtain ⟨fu, hf⟩ := anyFuel_some D
 exact r10_Right_fu_ok fu h_p0 hS hf
noncomputable def r10_Check (p0 : qE) (p1 : Bool) : Option Int := (r10_Height p0).bind (fun r10 => (bif (decide (r10 > 8)) then some 17 else (r10_Right p0 p1).bind (fun r17 => (bif (!r17) then some 2 else some 0))))
theorem r10_Check_ok {p0 : qE} {p1 : Bool} {w_p0 : W_qE} (h_p0 : ok_qE I p0 w_p0) (hS : St E w I Os) {r : Int} (D : r10_Check p0 p1 = some r) :
    Calls P 118 #[(vE p0 w_p0), (.bool p1)] w (RT E I Os (Iv r)) := by
 refine calls_W (fn := Tryz.f118) rfl rfl rfl ?_
 unfold r10_Check at D
 refine yg nL2 (yab hS (cs_qE p0 w_p0) 41 z fun b1 w4 S3 => ya 1 1 z (yb (W.seq (yg nL3 (y7 ((cs_qE p0 w_p0)) (S3.rf m0) z (bsk D fun r10 Xr5 D => WO.c1 (r10_Height_ok h_p0 S3 Xr5) z fun I7 w6 L8 S9 => ya 2 1 z (yb (y6 D (fun G D => ?_) (fun G D => ?_)))))))))
 exact yg [0] (ya 0 1 z (yb (yp (yh (sj D ▸ yw ⟨I7, rfl, L8, S9.drop⟩)))))
 refine W.skip (ye (W.seq (yg nL4 (y7 ((cs_qE p0 w_p0)) (S9.rf m0) z (ya 1 1 z (bsk D fun r17 Xr12 D => WO.c1 (r10_Right_ok (h_p0.mono L8) S9 Xr12) z fun I14 w13 L15 S16 => ya 3 1 z (yb (y6 D (fun G D => ?_) (fun G D => ?_)))))))))
 exact yg [0] (ya 0 1 z (yb (yp (yh (sj D ▸ yw ⟨I14, rfl, le, S16.drop⟩)))))
 exact W.skip (ye (yg [0] (ya 0 1 z (yb (yp (sj D ▸ yw ⟨I14, rfl, le, S16.drop⟩))))))
noncomputable def r10_Params (p0 : qE) : Option Int := (r10_Parts p0).bind (fun r10 => (forE (fun (i15 : Nat) (s14 : Int) => (idx r10 (i15 : Int)).bind (fun x23 => ((bif (x23.Kind == 3) then (idx r10 (i15 : Int)).bind (fun x28 => some (decide (x28.Op > s14))) else some false)).bind (fun (j24 : Bool) => ((bif j24 then (idx r10 (i15 : Int)).bind (fun x35 => some x35.Op) else some s14)).bind (fun (j31 : Int) => some j31)))) r10.length 0 0).bind (fun s14 => some s14))
theorem r10_Params_ok {p0 : qE} {w_p0 : W_qE} (h_p0 : ok_qE I p0 w_p0) (hS : St E w I Os) {r : Int} (D : r10_Params p0 = some r) :
    Calls P 119 #[(vE p0 w_p0)] w (RT E I Os (Iv r)) := by
 refine calls_W (fn := Tryz.f119) rfl rfl rfl ?_
 unfold r10_Params at D
 refine yg nL2 (yab hS (cs_qE p0 w_p0) 41 z fun b1 w4 S3 => ya 1 1 z (yac nL3 (y7 ((cs_qE p0 w_p0)) (S3.rf m0) z (bsk D fun r10 Xr5 D => yae (r10_Parts_ok h_p0 S3 Xr5) ?_))))
 rintro _ w6 ⟨I7, a_r10, c_r10, rfl, L8, S9, h_r10⟩
 refine cv (ya 2 1 z (yac [0] (ya 0 1 z (yb (W.seq (yg [0] (ya 0 1 z (yb (yn (bsk D fun s14 hloop16 D => have hlt21 := (h_r10).len_lt; W.wk (ya0 (m := r10.length) hloop16 (fun (i15 : Nat) (s14 : Int) => JI E I7 [(3, Sl a_r10 r10 c_r10), (4, Iv s14), (5, Nv i15)] Os) ⟨I7, rfl, lr, S9.drop⟩ ?_ ?_)))))))))))
 rintro i15 s14 _ w18 hi22 ⟨I12, rfl, L13, S19⟩ x20 R1
 refine W.seq (yg nL4 (ya 0 4 z (yb (yat fun _ => W.skip (ye (W.seq (yn (yg nL15 (ya 0 2 z ?_)))))))))
 obtain ⟨x23, Xx23, R1⟩ := bsm R1
 obtain ⟨h0_x23, h1_x23, Xx23⟩ := idx_some Xx23
 obtain ⟨ha_x23, cs_x23, hn_x23, hr_x23, Zx23⟩ := ((RSl.mono h_r10 L13)).el _ _ Xx23
 obtain ⟨w_x23, rfl, h_x23⟩ := Q_qE_iff.1 hr_x23
 refine ya4 41 7 ha_x23 h0_x23 h1_x23 ?_
 refine yf 3 1 [0] z (yan Zx23 S19.rm z (ya 5 2 z (bsk R1 fun j24 R2 R1 => yam (l1 := [7, 8, 9, 10, 11, 12, 13, 14]) (J := JI E I12 [(3, Sl a_r10 r10 c_r10), (4, Iv s14), (5, Nv i15), (28, .bool j24)] Os) ?_ ?_)))
 refine yal R2 (fun G R2 => ?_) (fun G R2 => ?_)
 refine yz 20 G (ya 7 2 z ?_)
 obtain ⟨x28, Xx28, R2⟩ := bsm R2
 obtain ⟨h0_x28, h1_x28, Xx28⟩ := idx_some Xx28
 obtain ⟨ha_x28, cs_x28, hn_x28, hr_x28, Zx28⟩ := ((RSl.mono h_r10 L13)).el _ _ Xx28
 obtain ⟨w_x28, rfl, h_x28⟩ := Q_qE_iff.1 hr_x28
 refine ya4 41 7 ha_x28 h0_x28 h1_x28 ?_
 exact yf 10 1 [1] z (yar Zx28 1 S19.rm z (ya 12 3 z (sj R2 ▸ yy ⟨I12, rfl, lr, S19⟩)))
 refine yz 20 G ?_
 iterate 7 refine WO.ps ?_
 exact ya 14 1 z (sj R2 ▸ yy ⟨I12, rfl, lr, S19⟩)
 rintro _ w29 ⟨I26, rfl, L27, S30⟩
 refine yb (bsk R1 fun j31 R2 R1 => yay (J := JI E I26 [(3, Sl a_r10 r10 c_r10), (4, Iv j31), (5, Nv i15)] Os) ?_ ?_)
 refine y6 R2 (fun G R2 => ?_) (fun G R2 => ?_)
 refine yai nL6 (ya 0 2 z ?_)
 obtain ⟨x35, Xx35, R2⟩ := bsm R2
 obtain ⟨h0_x35, h1_x35, Xx35⟩ := idx_some Xx35
 obtain ⟨ha_x35, cs_x35, hn_x35, hr_x35, Zx35⟩ := ((RSl.mono h_r10 (L13.trans L27))).el _ _ Xx35
 obtain ⟨w_x35, rfl, h_x35⟩ := Q_qE_iff.1 hr_x35
 refine ya4 41 7 ha_x35 h0_x35 h1_x35 ?_
 exact yf 3 1 [1] z (yar Zx35 1 S30.rm z (ya 5 1 z (yt (sj R2 ▸ yv ⟨I26, rfl, lr, S30⟩))))
 exact W.skip (sj R2 ▸ yv ⟨I26, rfl, lr, S30⟩)
 rintro _ w36 ⟨I33, rfl, L34, S37⟩
 exact yl (ye (yai nL3 (ya 0 1 z (yao i15 z (ya 2 1 z (yt (sj R1 ▸ yv ⟨I33, rfl, le, S37⟩)))))))
 rintro _ w38 ⟨I12, rfl, L13, S39⟩
 exact W.seq (yg nL4 (ya 0 4 z (yb (yas fun _ => W.exit (yo (yq (yu (ye (yg nL2 (ya 0 2 z (yb (yp (sj D ▸ yw ⟨I12, rfl, le, S39⟩)))))))))))))
def r10_SameList (f_106 : qE → qE → Option Bool) (p0 : List qE) (p1 : List qE) : Option Bool := (bif ((p0.length : Int) != (p1.length : Int)) then some false else (forN (fun (i4 : Nat) (_s : Unit) => (idx p0 (i4 : Int)).bind (fun x13 => (idx p1 (i4 : Int)).bind (fun x14 => (f_106 x13 x14).bind (fun (r20 : Bool) => (bif (!r20) then some (.inr false) else some (.inl ())))))) p0.length 0 ()).bind (fun (t : Unit ⊕ (Bool)) => match t with | .inl _ => some true | .inr s22 => some s22))
theorem r10_SameList_ok {f_106 : qE → qE → Option Bool} {p0 : List qE} {p1 : List qE} {a_p0 : Option Addr} {c_p0 : Nat} {a_p1 : Option Addr} {c_p1 : Nat} (h_f_106 : ∀ {E w : World} {I : Mem} {Os : List Mem} {p0 : qE} {p1 : qE} {w_p0 : W_qE} {w_p1 : W_qE} (h_p0 : ok_qE I p0 w_p0) (h_p1 : ok_qE I p1 w_p1) (hS : St E w I Os) {r : Bool} (D : f_106 p0 p1 = some r), Calls P 106 #[(vE p0 w_p0), (vE p1 w_p1)] w (RT E I Os (.bool r))) (h_p0 : RSl 7 Q_qE I a_p0 c_p0 p0) (h_p1 : RSl 7 Q_qE I a_p1 c_p1 p1) (hS : St E w I Os) {r : Bool} (D : r10_SameList f_106 p0 p1 = some r) :
    Calls P 148 #[(Sl a_p0 p0 c_p0), (Sl a_p1 p1 c_p1)] w (RT E I Os (.bool r)) := by
 refine calls_W (fn := Tryz.f148) rfl rfl rfl ?_
 unfold r10_SameList at D
 refine yg [0] (ya 0 1 z (yb (W.seq (yg nL5 (ya 0 5 z (yb (y6 D (fun G D => ?_) (fun G D => ?_))))))))
 exact yg [0] (ya 0 1 z (yb (yp (yh (sj D ▸ yw ⟨I, rfl, lr, hS⟩)))))
 refine W.skip (ye (W.seq (yg [0] (ya 0 1 z (yb (yn (bsk D fun t1 hloop5 D => have hlt9 := (h_p0).len_lt; W.wk (yap (m := p0.length) hloop5 (fun (i4 : Nat) (_s : Unit) => JI E I [(0, Sl a_p0 p0 c_p0), (1, Sl a_p1 p1 c_p1), (5, Nv i4)] Os) ⟨I, rfl, lr, hS⟩ ?_ ?_))))))))
 rintro i4 _ _ w6 hi10 ⟨I2, rfl, L3, S7⟩ x8 R1 hext1
 refine W.seq (yg nL4 (ya 0 4 z (yb (yat fun _ => W.skip (ye (W.seq (yn (W.seq (have S11 := S7.drew; ya1 nL10 8 (yx S11.im) ?_)))))))))
 generalize World.drew _ = w12 at *
 refine ya 0 2 z ?_
 obtain ⟨x13, Xx13, R1⟩ := bsm R1
 obtain ⟨h0_x13, h1_x13, Xx13⟩ := idx_some Xx13
 obtain ⟨ha_x13, cs_x13, hn_x13, hr_x13, Zx13⟩ := ((RSl.mono h_p0 L3)).el _ _ Xx13
 obtain ⟨w_x13, rfl, h_x13⟩ := Q_qE_iff.1 hr_x13
 refine ya4 41 7 ha_x13 h0_x13 h1_x13 ?_
 refine yaq ((cs_qE x13 w_x13)) Zx13 0 (rd_i S11.im) z (ya 4 2 z ?_)
 obtain ⟨x14, Xx14, R1⟩ := bsm R1
 obtain ⟨h0_x14, h1_x14, Xx14⟩ := idx_some Xx14
 obtain ⟨ha_x14, cs_x14, hn_x14, hr_x14, Zx14⟩ := ((RSl.mono h_p1 L3)).el _ _ Xx14
 obtain ⟨w_x14, rfl, h_x14⟩ := Q_qE_iff.1 hr_x14
 refine ya4 41 7 ha_x14 h0_x14 h1_x14 ?_
 refine yaq ((cs_qE x14 w_x14)) Zx14 0 (rd_i S11.im) z (WO.tail z (bsk R1 fun r20 Xr15 R1 => WO.c1 (h_f_106 h_x13 h_x14 S11 Xr15) z fun I17 w16 L18 S19 => ya 9 1 z (yb (y6 R1 (fun G R1 => ?_) (fun G R1 => ?_)))))
 refine yg [0] (ya 0 1 z (yb (yp (yk (yh (yr ?_))))))
 obtain rfl := hext1 _ (sj R1).symm
 exact yk (yh (sj D ▸ yw ⟨I17, rfl, le, S19⟩))
 exact W.skip (yl (ye (yai nL3 (ya 0 1 z (yao i4 z (ya 2 1 z (yt (yv ⟨(), (sj R1).symm, I17, rfl, le, S19⟩))))))))
 rintro _ _ w23 ⟨I2, rfl, L3, S24⟩ he
 cases he
 exact W.seq (yg nL4 (ya 0 4 z (yb (yas fun _ => W.exit (yo (yq (yu (ye (yg [0] (ya 0 1 z (yb (yp (sj D ▸ yw ⟨I2, rfl, L3, S24⟩)))))))))))))
def r10_Same_fu : Nat → qE → qE → Option Bool
  | 0, _, _ => none
  | fu + 1, p0, p1 => (some (((p0.Kind != p1.Kind) || (p0.Op != p1.Op)) || (!((p0.V.Kind == p1.V.Kind) && ((p0.V.N == p1.V.N) && sEq p0.V.S p1.V.S))))).bind (fun (q11 : Bool) => (bif (q11 || (!sEq p0.Name p1.Name)) then some false else (r10_SameList (r10_Same_fu fu) p0.Kids p1.Kids).bind (fun r23 => some r23)))
noncomputable def r10_Same (p0 : qE) (p1 : qE) : Option Bool := anyFuel (fun fu => r10_Same_fu fu p0 p1)
theorem r10_Same_fu_ok : ∀ (fu : Nat) {E w : World} {I : Mem} {Os : List Mem} {p0 : qE} {p1 : qE} {w_p0 : W_qE} {w_p1 : W_qE} (h_p0 : ok_qE I p0 w_p0) (h_p1 : ok_qE I p1 w_p1) (hS : St E w I Os) {r : Bool} (D : r10_Same_fu fu p0 p1 = some r),
    Calls P 106 #[(vE p0 w_p0), (vE p1 w_p1)] w (RT E I Os (.bool r)) := by
 intro fu
 induction fu with
 | zero => intro E w I Os p0 p1 w_p0 w_p1 h_p0 h_p1 hS r D; cases D
 | succ fu ih =>
 intro E w I Os p0 p1 w_p0 w_p1 h_p0 h_p1 hS r D
 refine calls_W (fn := Tryz.f106) rfl rfl rfl ?_
 unfold r10_Same_fu at D
 refine yg nL3 (yab hS (cs_qE p0 w_p0) 41 z fun b1 w4 S3 => yab S3 (cs_qE p1 w_p1) 41 z fun b5 w8 S7 => ya 2 1 z (yb (W.seq (yg nL26 (yf 0 1 [0] z (yj (S7.rf m1) z (yf 2 1 [0] z (yj (S7.rf m0) z (ya 4 2 z (yav [6, 7, 8, 9, 10] 11 10 16 (.refl ((p0.Kind != p1.Kind) || (p0.Op != p1.Op))) (fun _ => yf 6 1 [1] z (yj (S7.rf m1) z (yf 8 1 [1] z (yj (S7.rf m0) z (ya 10 2 z yak))))) (ya 12 1 z (bsq D fun q11 Xq11 D => yav [13, 14, 15, 16, 17] 18 17 23 Xq11 (fun G => ?_) ?_))))))))))))
 refine yf 13 1 [2] z (y7 ((cs_qV p0.V)) (S7.rf m1) z (yf 15 1 [2] z (y7 ((cs_qV p1.V)) (S7.rf m0) z (ybe z kr z z kr 50 z (b := ((p0.V.Kind == p1.V.Kind) && ((p0.V.N == p1.V.N) && (sEq p0.V.S p1.V.S && true)))) kr (!((p0.V.Kind == p1.V.Kind) && ((p0.V.N == p1.V.N) && sEq p0.V.S p1.V.S))) (.inr ⟨rfl, by simp only [Bool.and_true]⟩) ?_))))
 exact ya 18 1 z yak
 refine ya 19 1 z (yav [20, 21, 22, 23, 24] 25 24 30 (.refl (q11 || (!sEq p0.Name p1.Name))) (fun _ => yf 20 1 [5] z (yj (S7.rf m1) z (yf 22 1 [5] z (yj (S7.rf m0) z (ya 24 2 z yak))))) (yb (y6 D (fun G D => ?_) (fun G D => ?_))))
 exact yg [0] (ya 0 1 z (yb (yp (yh (sj D ▸ yw ⟨I, rfl, lr, S7.d2⟩)))))
 exact W.skip (ye (yg nL6 (yf 0 1 [6] z (yj (S7.rf m1) z (yf 2 1 [6] z (yj (S7.rf m0) z (bsk D fun r23 Xr18 D => WO.c1 (r10_SameList_ok ih h_p0.Kids h_p1.Kids S7 Xr18) z fun I20 w19 L21 S22 => ya 5 1 z (yb (yp (sj D ▸ yw ⟨I20, rfl, L21, S22.d2⟩))))))))))
theorem r10_Same_ok {p0 : qE} {p1 : qE} {w_p0 : W_qE} {w_p1 : W_qE} (h_p0 : ok_qE I p0 w_p0) (h_p1 : ok_qE I p1 w_p1) (hS : St E w I Os) {r : Bool} (D : r10_Same p0 p1 = some r) :
    Calls P 106 #[(vE p0 w_p0), (vE p1 w_p1)] w (RT E I Os (.bool r)) := by
 obtain ⟨fu, hf⟩ := anyFuel_some D
 exact r10_Same_fu_ok fu h_p0 h_p1 hS hf
noncomputable def r12_None (p0 : qE) : Option Bool := (r10_Same p0 z_qE).bind (fun r10 => some r10)
theorem r12_None_ok {p0 : qE} {w_p0 : W_qE} (h_p0 : ok_qE I p0 w_p0) (hS : St E w I Os) {r : Bool} (D : r12_None p0 = some r) :
    Calls P 120 #[(vE p0 w_p0)] w (RT E I Os (.bool r)) := by
 refine calls_W (fn := Tryz.f120) rfl rfl rfl ?_
 unfold r12_None at D
 exact yg nL2 (yab hS (cs_qE p0 w_p0) 41 z fun b1 w4 S3 => ya 1 1 z (yac nL4 (y7 ((cs_qE p0 w_p0)) (S3.rf m0) z (yaf 1 4 (vE z_qE zw_qE) (bsk D fun r10 Xr5 D => WO.c1 (r10_Same_ok h_p0 zok_qE S3 Xr5) z fun I7 w6 L8 S9 => ya 3 1 z (yb (yp (sj D ▸ yw ⟨I7, rfl, L8, S9.drop⟩))))))))
noncomputable def r14_Check (p0 : qT) : Option Int := (r14_wrong p0).bind (fun r10 => (bif (r10 != 0) then some r10 else (r14_Names p0).bind (fun (r17, r18) => (r14_Used p0).bind (fun r24 => (forN (fun (i28 : Nat) (_s : Unit) => (idx r24 (i28 : Int)).bind (fun x35 => (r14_Has r17 x35).bind (fun r41 => (bif (!r41) then some (.inr (4 : Int)) else some (.inl ()))))) r24.length 0 ()).bind (fun (t : Unit ⊕ (Int)) => match t with | .inl _ => (forN (fun (i52 : Nat) (s51 : Bool) => ((idx p0.Cons (i52 : Int)).bind (fun x63 => (bif (x63.Kind != 2) then some (.inl s51) else (idx p0.Cons (i52 : Int)).bind (fun x65 => (r10_Check x65.Check false).bind (fun r71 => (bif (r71 == 17) then some (.inr 17) else ((bif (s51 || (r71 != 0)) then some true else (idx p0.Cons (i52 : Int)).bind (fun x85 => (r10_Params x85.Check).bind (fun r91 => some (decide (r91 > 0)))))).bind (fun (j81 : Bool) => some (.inl j81)))))))).bind (fun (t : Bool ⊕ Int) => match t with | (.inl s64) => some (.inl s64) | (.inr s73) => some (.inr s73))) p0.Cons.length 0 false).bind (fun (t : Bool ⊕ (Int)) => match t with | .inl s51 => (bif s51 then some 2 else (forN (fun (i102 : Nat) (_s : Unit) => (idx p0.Cons (i102 : Int)).bind (fun x109 => ((bif (x109.Kind != 2) then (r12_None x109.Check).bind (fun r125 => some (!r125)) else some false)).bind (fun (j116 : Bool) => (some (j116 || ((x109.Kind == 2) && (decide ((x109.Cols.length : Int) > 0))))).bind (fun (q132 : Bool) => (bif q132 then some (.inr (2 : Int)) else ((bif (x109.Kind == 3) then (r09_IsName x109.Table).bind (fun r151 => (some ((!r151) || ((x109.Refs.length : Int) != (x109.Cols.length : Int)))).bind (fun (q152 : Bool) => some q152)) else some false)).bind (fun (j142 : Bool) => (some (j142 || ((x109.Kind != 3) && ((!sEq x109.Table eB) || (decide ((x109.Refs.length : Int) > 0)))))).bind (fun (q163 : Bool) => (bif q163 then some (.inr (2 : Int)) else some (.inl ()))))))))) p0.Cons.length 0 ()).bind (fun (t : Unit ⊕ (Int)) => match t with | .inl _ => some 0 | .inr s138 => some s138)) | .inr s75 => some s75) | .inr s43 => some s43)))))
theorem r14_Check_ok {p0 : qT} {w_p0 : W_qT} (h_p0 : ok_qT I p0 w_p0) (hS : St E w I Os) {r : Int} (D : r14_Check p0 = some r) :
    Calls P 94 #[(vT p0 w_p0)] w (RT E I Os (Iv r)) := by
 refine calls_W (fn := Tryz.f94) rfl rfl rfl ?_
 unfold r14_Check at D
 refine yg nL2 (yab hS (cs_qT p0 w_p0) 78 z fun b1 w4 S3 => ya 1 1 z (yac nL3 (y7 ((cs_qT p0 w_p0)) (S3.rf m0) z (bsk D fun r10 Xr5 D => WO.c1 (r14_wrong_ok h_p0 S3 Xr5) z fun I7 w6 L8 S9 => ya 2 1 z (yb (W.seq (yg nL2 (ya 0 2 z (yb (y6 D (fun G D => ?_) (fun G D => ?_)))))))))))
 exact yg nL2 (ya 0 2 z (yb (yp (yh (sj D ▸ yw ⟨I7, rfl, L8, S9.drop⟩)))))
 refine W.skip (ye (yg nL7 (y7 ((cs_qT p0 w_p0)) (S9.rf m0) z ?_)))
 obtain ⟨⟨r17, r18⟩, Xr12, D⟩ := bsm D
 refine yae (r14_Names_ok (h_p0.mono L8) S9 Xr12) ?_
 rintro _ w13 ⟨I14, a_r17, c_r17, a_r18, c_r18, rfl, L15, S16, h_r17, h_r18⟩
 refine cv (ya 2 5 z (yac nL3 (y7 ((cs_qT p0 w_p0)) (S16.rf m0) z (bsk D fun r24 Xr19 D => yae (r14_Used_ok (h_p0.mono le) S16 Xr19) ?_))))
 rintro _ w20 ⟨I21, a_r24, c_r24, rfl, L22, S23, h_r24⟩
 refine cv (ya 2 1 z (yb (W.seq (yg [0] (ya 0 1 z (yb (yn (bsk D fun t25 hloop29 D => have hlt33 := (h_r24).len_lt; W.wk (yap (m := r24.length) hloop29 (fun (i28 : Nat) (_s : Unit) => JI E I21 [(1, Pt b1 0), (4, Sl a_r17 r17 c_r17), (6, Sl a_r24 r24 c_r24), (7, Nv i28)] (bT b1 p0 w_p0 :: Os)) ⟨I21, rfl, lr, S23⟩ ?_ ?_)))))))))
 rintro i28 _ _ w30 hi34 ⟨I26, rfl, L27, S31⟩ x32 R1 hext25
 refine W.seq (yg nL4 (ya 0 4 z (yb (yat fun _ => W.skip (ye (W.seq (yn (yg nL7 (ya 0 3 z ?_)))))))))
 obtain ⟨x35, R1, Hx35, _, rfl, Zx35⟩ := sx I26 h_r24 R1
 refine y0 9 1 Hx35 z (yan Zx35 S31.rm z (bsk R1 fun r41 Xr36 R1 => WO.c1 (r14_Has_ok (up h_r17) S31 Xr36) z fun I38 w37 L39 S40 => ya 6 1 z (yb (y6 R1 (fun G R1 => ?_) (fun G R1 => ?_)))))
 refine yg [0] (ya 0 1 z (yb (yp (yk (yh (yr ?_))))))
 obtain rfl := hext25 _ (sj R1).symm
 exact yk (yh (sj D ▸ yw ⟨I38, rfl, le, S40.drop⟩))
 exact W.skip (yl (ye (yai nL3 (ya 0 1 z (yao i28 z (ya 2 1 z (yt (yv ⟨(), (sj R1).symm, I38, rfl, le, S40⟩))))))))
 rintro _ _ w46 ⟨I26, rfl, L27, S47⟩ he
 cases he
 refine W.seq (yg nL4 (ya 0 4 z (yb (yas fun _ => W.exit (yo (yq (yu (ye (yg [0] (ya 0 1 z (yb (W.seq (yg [0] (ya 0 1 z (yb (yn (bsk D fun t48 hloop53 D => have hlt57 := ((RSl.mono h_p0.Cons (((L8.trans L15).trans L22).trans L27))).len_lt; W.wk (yap (m := p0.Cons.length) hloop53 (fun (i52 : Nat) (s51 : Bool) => JI E I26 [(1, Pt b1 0), (8, .bool s51), (9, Nv i52)] (bT b1 p0 w_p0 :: Os)) ⟨I26, rfl, lr, S47⟩ ?_ ?_))))))))))))))))))
 rintro i52 s51 _ w54 hi58 ⟨I49, rfl, L50, S55⟩ x56 R1 hext48
 refine W.seq (yg nL5 (yf 0 2 [4] z (yj (S55.rf m0) z (ya 3 2 z (yb (yat fun _ => W.skip (ye (W.seq (bsk R1 fun j59 R2 R1 => yay (J := (fun fr w => ∃ (s64 : Bool), ∃ I61, (.inl s64) = j59 ∧ fr = [(1, Pt b1 0), (8, .bool s64), (9, Nv i52)] ∧ I49.Le I61 ∧ St E w I61 (bT b1 p0 w_p0 :: Os))) ?_ ?_)))))))))
 refine yn (W.seq (yg nL7 (yf 0 1 [4] z (yj (S55.rf m0) z (ya 2 1 z ?_)))))
 obtain ⟨x63, R2, Hx63, _, ⟨w_x63, rfl, h_x63⟩, Zx63⟩ := sx I49 h_p0.Cons R2
 refine y0 137 12 Hx63 z (yf 4 1 [1] z (yar Zx63 1 S55.rm z (ya 6 1 z (yb (y6 R2 (fun G R2 => ?_) (fun G R2 => ?_))))))
 exact W.exit (yo (yu (yv ⟨s51, I49, sj R2, rfl, lr, S55⟩)))
 refine W.skip (ye (yg nL8 (yf 0 1 [4] z (yj (S55.rf m0) z (ya 2 1 z ?_)))))
 obtain ⟨x65, R2, Hx65, _, ⟨w_x65, rfl, h_x65⟩, Zx65⟩ := sx I49 h_p0.Cons R2
 refine y0 137 12 Hx65 z (yf 4 1 [3] z (yaq ((cs_qE x65.Check w_x65.Check)) Zx65 3 S55.rm z (bsk R2 fun r71 Xr66 R2 => WO.c1 (r10_Check_ok h_x65.Check S55 Xr66) z fun I68 w67 L69 S70 => ya 7 1 z (yb (W.seq (yg nL2 (ya 0 2 z (yb (y6 R2 (fun G R2 => ?_) (fun G R2 => ?_))))))))))
 refine yg [0] (ya 0 1 z (yb (yp (yh (yk (yr ?_))))))
 obtain rfl := sj R2
 refine yh (yr ?_)
 obtain rfl := hext48 _ (sj R1).symm
 exact yk (yh (sj D ▸ yw ⟨I68, rfl, le, S70.drop⟩))
 refine W.skip (ye (yai nL16 (ya 0 2 z (yav [2, 3] 4 62 65 (.refl (s51 || (r71 != 0))) (fun _ => ya 2 3 z yak) (ya 5 1 z (bsk R2 fun j81 R3 R2 => yam (l1 := [6, 7, 8, 9, 10, 11, 12, 13, 14]) (J := JI E I68 [(1, Pt b1 0), (9, Nv i52), (75, .bool j81)] (bT b1 p0 w_p0 :: Os)) ?_ ?_))))))
 refine yal R3 (fun G R3 => ?_) (fun G R3 => ?_)
 refine yz 66 G ?_
 iterate 8 refine WO.ps ?_
 exact ya 14 1 z (sj R3 ▸ yy ⟨I68, rfl, lr, S70⟩)
 refine yz 66 G (yf 6 1 [4] z (yj (S70.rf m0) z (ya 8 1 z ?_)))
 obtain ⟨x85, R3, Hx85, _, ⟨w_x85, rfl, h_x85⟩, Zx85⟩ := sx I68 h_p0.Cons R3
 exact y0 137 12 Hx85 z (yf 10 1 [3] z (yaq ((cs_qE x85.Check w_x85.Check)) Zx85 3 S70.rm z (bsk R3 fun r91 Xr86 R3 => WO.c1 (r10_Params_ok h_x85.Check S70 Xr86) z fun I88 w87 L89 S90 => ya 13 2 z (sj R3 ▸ yy ⟨I88, rfl, L89, S90⟩))))
 rintro _ w92 ⟨I83, rfl, L84, S93⟩
 exact ya 15 1 z (yt (yl (yv ⟨j81, I83, sj R2, rfl, le, S93⟩)))
 rintro _ w94 ⟨s64, I61, rfl, rfl, L62, S95⟩
 exact ye (yai nL3 (ya 0 1 z (yao i52 z (ya 2 1 z (yt (yv ⟨s64, (sj R1).symm, I61, rfl, le, S95⟩))))))
 rintro s51 _ w96 ⟨I49, rfl, L50, S97⟩ he
 cases he
 refine W.seq (yg nL5 (yf 0 2 [4] z (yj (S97.rf m0) z (ya 3 2 z (yb (yas fun _ => W.exit (yo (yq (yu (ye (W.seq (yg [0] (ya 0 1 z (yb (y6 D (fun G D => ?_) (fun G D => ?_))))))))))))))))
 exact yg [0] (ya 0 1 z (yb (yp (yh (sj D ▸ yw ⟨I49, rfl, le, S97.drop⟩)))))
 refine W.skip (ye (W.seq (yg [0] (ya 0 1 z (yb (yn (bsk D fun t99 hloop103 D => have hlt107 := ((RSl.mono h_p0.Cons ((((L8.trans L15).trans L22).trans L27).trans L50))).len_lt; W.wk (yap (m := p0.Cons.length) hloop103 (fun (i102 : Nat) (_s : Unit) => JI E I49 [(1, Pt b1 0), (11, Nv i102)] (bT b1 p0 w_p0 :: Os)) ⟨I49, rfl, lr, S97⟩ ?_ ?_))))))))
 rintro i102 _ _ w104 hi108 ⟨I100, rfl, L101, S105⟩ x106 R1 hext99
 refine W.seq (yg nL5 (yf 0 2 [4] z (yj (S105.rf m0) z (ya 3 2 z (yb (yat fun _ => W.skip (ye (W.seq (yn (yg nL7 (yf 0 1 [4] z (yj (S105.rf m0) z (ya 2 1 z ?_)))))))))))))
 obtain ⟨x109, R1, Hx109, _, ⟨w_x109, rfl, h_x109⟩, Zx109⟩ := sx I100 h_p0.Cons R1
 refine y0 137 12 Hx109 z (yaq ((cs_qK x109 w_x109)) Zx109 0 S105.rm z (yab S105 (cs_qK z_qK zw_qK) 137 z fun b110 w113 S112 => yaa S112 0 (cs_qK x109 w_x109) fun w115 S114 => yb (W.seq (yg nL20 (yf 0 1 [1] z (yj (S114.rf m0) z (ya 2 2 z (bsk R1 fun j116 R2 R1 => yam (l1 := [4, 5, 6, 7, 8]) (J := JI E I100 [(1, Pt b1 0), (11, Nv i102), (12, Pt b110 0), (97, .bool j116)] (bT b1 p0 w_p0 :: (bK b110 x109 w_x109) :: Os)) ?_ ?_))))))))
 refine yal R2 (fun G R2 => ?_) (fun G R2 => ?_)
 exact yz 92 G (yf 4 1 [3] z (y7 ((cs_qE x109.Check w_x109.Check)) (S114.rf m0) z (bsk R2 fun r125 Xr120 R2 => WO.c1 (r12_None_ok h_x109.Check S114 Xr120) z fun I122 w121 L123 S124 => ya 7 2 z (sj R2 ▸ yy ⟨I122, rfl, L123, S124.front1⟩))))
 refine yz 92 G ?_
 iterate 4 refine WO.ps ?_
 exact ya 8 1 z (sj R2 ▸ yy ⟨I100, rfl, lr, S114.front1⟩)
 rintro _ w128 ⟨I118, rfl, L119, S129⟩
 refine ya 9 1 z (bsq R1 fun q132 Xq132 R1 => yav [10, 11, 12, 13, 14, 15, 16, 17, 18] 19 98 108 Xq132 (fun _ => yf 10 1 [1] z (yj (S129.rf m1) z (ya 12 2 z (yaw [14, 15, 16, 17] 18 102 107 (.refl ((x109.Kind == 2) && (decide ((x109.Cols.length : Int) > 0)))) (fun _ => yf 14 1 [2] z (yj (S129.rf m1) z (ya 16 3 z yak))) (ya 19 1 z yak))))) (yb (y6 R1 (fun G R1 => ?_) (fun G R1 => ?_))))
 refine yg [0] (ya 0 1 z (yb (yp (yh (yk (yh (yr ?_)))))))
 obtain rfl := hext99 _ (sj R1).symm
 exact yk (yh (sj D ▸ yw ⟨I118, rfl, le, S129.d2⟩))
 refine W.skip (ye (yg nL34 (yf 0 1 [1] z (yj (S129.rf m1) z (ya 2 2 z (bsk R1 fun j142 R2 R1 => yam (l1 := [4, 5, 6, 7, 8, 9, 10, 11, 12, 13, 14, 15, 16, 17]) (J := JI E I118 [(1, Pt b1 0), (11, Nv i102), (12, Pt b110 0), (126, .bool j142)] (bT b1 p0 w_p0 :: (bK b110 x109 w_x109) :: Os)) ?_ ?_))))))
 refine yal R2 (fun G R2 => ?_) (fun G R2 => ?_)
 exact yz 112 G (yf 4 1 [10] z (yj (S129.rf m1) z (bsk R2 fun r151 Xr146 R2 => WO.c1 (r09_IsName_ok  S129 Xr146) z fun I148 w147 L149 S150 => ya 7 2 z (bsq R2 fun q152 Xq152 R2 => yav [9, 10, 11, 12, 13, 14, 15] 16 117 125 Xq152 (fun _ => yf 9 1 [11] z (yj (S150.rf m1) z (yf 11 2 [2] z (yj (S150.rf m1) z (ya 14 3 z yak))))) (ya 17 1 z (sj R2 ▸ yy ⟨I148, rfl, L149, S150⟩))))))
 refine yz 112 G ?_
 iterate 13 refine WO.ps ?_
 exact ya 17 1 z (sj R2 ▸ yy ⟨I118, rfl, lr, S129⟩)
 rintro _ w155 ⟨I144, rfl, L145, S156⟩
 refine ya 18 1 z (bsq R1 fun q163 Xq163 R1 => yav [19, 20, 21, 22, 23, 24, 25, 26, 27, 28, 29, 30, 31, 32] 33 127 142 Xq163 (fun _ => yf 19 1 [1] z (yj (S156.rf m1) z (ya 21 2 z (yaw [23, 24, 25, 26, 27, 28, 29, 30, 31] 32 131 141 (.refl ((x109.Kind != 3) && ((!sEq x109.Table eB) || (decide ((x109.Refs.length : Int) > 0))))) (fun _ => yf 23 1 [10] z (yj (S156.rf m1) z (ya 25 2 z (yav [27, 28, 29, 30] 31 135 140 (.refl ((!sEq x109.Table eB) || (decide ((x109.Refs.length : Int) > 0)))) (fun _ => yf 27 1 [11] z (yj (S156.rf m1) z (ya 29 3 z yak))) (ya 32 1 z yak))))) (ya 33 1 z yak))))) (yb (y6 R1 (fun G R1 => ?_) (fun G R1 => ?_))))
 refine yg [0] (ya 0 1 z (yb (yp (yk (yh (yr ?_))))))
 obtain rfl := hext99 _ (sj R1).symm
 exact yk (yh (sj D ▸ yw ⟨I144, rfl, le, S156.d2⟩))
 exact W.skip (yl (ye (yai nL3 (ya 0 1 z (yao i102 z (ya 2 1 z (yt (yv ⟨(), (sj R1).symm, I144, rfl, le, S156.front1.drop⟩))))))))
 rintro _ _ w176 ⟨I100, rfl, L101, S177⟩ he
 cases he
 exact W.seq (yg nL5 (yf 0 2 [4] z (yj (S177.rf m0) z (ya 3 2 z (yb (yas fun _ => W.exit (yo (yq (yu (ye (yg [0] (ya 0 1 z (yb (yp (sj D ▸ yw ⟨I100, rfl, le, S177.drop⟩)))))))))))))))
def r15_Place_fu : Nat → qT → qE → Option qE
  | 0, _, _ => none
  | fu + 1, p0, p1 => (bif (p1.Kind == 2) then (r14_Col p0 p1.Name).bind (fun r18 => some { z_qE with Kind := 8, Op := r18 }) else (forE (fun (i35 : Nat) (s34 : List qE) => (idx p1.Kids (i35 : Int)).bind (fun x50 => (r15_Place_fu fu p0 x50).bind (fun r56 => (app 88 s34 ([r56] : List qE)).bind (fun x65 => some x65)))) p1.Kids.length 0 ([] : List qE)).bind (fun s34 => some { p1 with Kids := s34 }))
noncomputable def r15_Place (p0 : qT) (p1 : qE) : Option qE := anyFuel (fun fu => r15_Place_fu fu p0 p1)
theorem r15_Place_fu_ok : ∀ (fu : Nat) {E w : World} {I : Mem} {Os : List Mem} {p0 : qT} {p1 : qE} {w_p0 : W_qT} {w_p1 : W_qE} (h_p0 : ok_qT I p0 w_p0) (h_p1 : ok_qE I p1 w_p1) (hS : St E w I Os) {r : qE} (D : r15_Place_fu fu p0 p1 = some r),
    Calls P 121 #[(vT p0 w_p0), (vE p1 w_p1)] w (fun e w' => ∃ I' w_rw0, e = .returned (vE r w_rw0) ∧ I.Le I' ∧ St E w' I' Os ∧ ok_qE I' r w_rw0) := by
 intro fu
 induction fu with
 | zero => intro E w I Os p0 p1 w_p0 w_p1 h_p0 h_p1 hS r D; cases D
 | succ fu ih =>
 intro E w I Os p0 p1 w_p0 w_p1 h_p0 h_p1 hS r D
 refine calls_W (fn := Tryz.f121) rfl rfl rfl ?_
 unfold r15_Place_fu at D
 refine yg nL3 (yab hS (cs_qT p0 w_p0) 78 z fun b1 w4 S3 => yab S3 (cs_qE p1 w_p1) 41 z fun b5 w8 S7 => yab S7 (cs_qE z_qE zw_qE) 41 z fun b9 w12 S11 => yb (W.seq (yg nL3 (yf 0 1 [0] z (yj (S11.rf m1) z (ya 2 1 z (yb (y6 D (fun G D => ?_) (fun G D => ?_)))))))))
 refine yg nL6 (y7 ((cs_qT p0 w_p0)) (S11.rf m2) z (yf 1 1 [5] z (yj (S11.rf m1) z (bsk D fun r18 Xr13 D => WO.c1 (r14_Col_ok h_p0 S11 Xr13) z fun I15 w14 L16 S17 => yaf 4 14 (.agg (cs_qE ({ z_qE with Kind := 8, Op := r18 }) zw_qE).toArray) (yaa S17 0 (cs_qE ({ z_qE with Kind := 8, Op := r18 }) zw_qE) fun w20 S19 => yb (yp (yh ?_)))))))
 have hk24 : ok_qE I15 ({ z_qE with Kind := 8, Op := r18 }) zw_qE := ⟨SlAt.nil⟩
 exact sj D ▸ En.c1 _ (S19.rd m0) ⟨I15, zw_qE, rfl, L16, S19.d3, hk24⟩
 refine W.skip (ye (yg nL11 (yf 0 1 [0] z (yj (S11.rf m1) z (yf 2 1 [1] z (yj (S11.rf m1) z (yf 4 1 [2] z (y7 ((cs_qV p1.V)) (S11.rf m1) z (yf 6 1 [5] z (yj (S11.rf m1) z (yaf 8 23 (.agg (cs_qE ({ p1 with Kids := ([] : List qE) }) (⟨⟨none, 0⟩⟩ : W_qE)).toArray) (yab S11 (cs_qE z_qE zw_qE) 41 z fun b25 w28 S27 => yaa S27 0 (cs_qE ({ p1 with Kids := ([] : List qE) }) (⟨⟨none, 0⟩⟩ : W_qE)) fun w30 S29 => yb (W.seq (yg [0] (ya 0 1 z (yb (yn (bsk D fun s34 hloop36 D => have hlt46 := (h_p1.Kids).len_lt; W.wk (ya0 (m := p1.Kids.length) hloop36 (fun (i35 : Nat) (s34 : List qE) fr w => ∃ I32 a_s34 c_s34 C_s34, fr = [(2, Pt b1 0), (3, Pt b5 0), (4, Pt b9 0), (5, Pt b25 0), (6, Nv i35)] ∧ I.Le I32 ∧ St E w I32 (bT b1 p0 w_p0 :: (bE b5 p1 w_p1) :: (bE b9 z_qE zw_qE) :: (Bx b25 (cs_qE ({ p1 with Kids := s34 }) (⟨⟨a_s34, c_s34⟩⟩ : W_qE)) 41) :: (C_s34) :: Os) ∧ OwnSl 41 7 Q_qE I32 C_s34 a_s34 c_s34 s34) ⟨I, none, 0, Mem.no, rfl, lr, S29.no.front1.front2.front3.front4, OwnSl.nil⟩ ?_ ?_)))))))))))))))))))
 rintro i35 s34 _ w43 hi47 ⟨I32, a_s34, c_s34, C_s34, rfl, L33, S44, h_s34⟩ x45 R1
 refine W.seq (yg nL5 (yf 0 2 [6] z (yj (S44.rf m1) z (ya 3 2 z (yb (yat fun _ => W.skip (ye (W.seq (yn (have S48 := S44.drew; ya1 nL13 10 (ym (S48.rd m0) (ym (S48.rd m1) (ym (S48.rd m3) (yx S48.im)))) ?_))))))))))
 generalize World.drew _ = w49 at *
 refine yf 0 1 [6] z (yj (rd_c m2 (S48.rd m3)) z (y7 ((cs_qT p0 w_p0)) (rd_c m0 (S48.rd m0)) z (yf 3 1 [6] z (yj (rd_c m1 (S48.rd m1)) z (ya 5 1 z ?_)))))
 obtain ⟨x50, Xx50, R1⟩ := bsm R1
 obtain ⟨h0_x50, h1_x50, Xx50⟩ := idx_some Xx50
 obtain ⟨ha_x50, cs_x50, hn_x50, hr_x50, Zx50⟩ := ((RSl.mono h_p1.Kids L33)).el _ _ Xx50
 obtain ⟨w_x50, rfl, h_x50⟩ := Q_qE_iff.1 hr_x50
 refine ya4 41 7 ha_x50 h0_x50 h1_x50 ?_
 refine yaq ((cs_qE x50 w_x50)) Zx50 0 (rd_i S48.im) z (bsk R1 fun r56 Xr51 R1 => yae (ih (h_p0.mono L33) h_x50 S48 Xr51) ?_)
 rintro _ w52 ⟨I53, w_r56, rfl, L54, S55, h_r56⟩
 refine ⟨_, rfl, (ym (S55.rd m0) (ym (S55.rd m1) (ym (S55.rd m3) (yx (S55.im.of_le L54))))), ?_⟩
 refine yad (rel := Q_qE) (xs := ([r56] : List qE)) S55 z kr z 41 7 [(cs_qE r56 w_r56)] kr z ((Elr.cons (Q_qE_iff.2 ⟨w_r56, rfl, h_r56⟩) Elr.nil)) (fun C58 w62 S61 => (ym (S61.rd m1) (ym (S61.rd m2) (ym (S61.rd m4) (yx (S61.im.of_le L54)))))) ?_
 intro a60 C58 w62 S61 ho59
 exact WO.tail z (have S64 := S61.front5; apk R1 fun x65 h0_x65 he_x65 R1 => yau 41 88 (cs_qE z_qE zw_qE) S64 (OwnSl.mono h_s34 L54) ho59.sl (S64.rd m1) h0_x65 he_x65 z fun a66 c67 w68 C69 S70 ho71 => yf 11 1 [6] z (yaa S70.front1.drop.front4 6 (cs_qE ({ p1 with Kids := x65 }) (⟨⟨a66, c67⟩⟩ : W_qE)) fun w76 S75 => yt (yl (ye (yai nL3 (ya 0 1 z (yao i35 z (ya 2 1 z (yt (sj R1 ▸ yv ⟨I53, a66, c67, C69, rfl, le, S75.front1.front1.front4.front4.front4, ho71⟩))))))))))
 rintro _ w82 ⟨I32, a_s34, c_s34, C_s34, rfl, L33, S83, h_s34⟩
 refine W.seq (yg nL5 (yf 0 2 [6] z (yj (S83.rf m1) z (ya 3 2 z (yb (yas fun _ => W.exit (yo (yq (yu (ye (yg nL2 (y7 ((cs_qE ({ p1 with Kids := s34 }) (⟨⟨a_s34, c_s34⟩⟩ : W_qE))) (S83.rf m3) z ?_))))))))))))
 obtain ⟨I85, L86, S88, hp87⟩ := yag h_s34 S83.front4
 refine yaa S88.front2 0 (cs_qE ({ p1 with Kids := s34 }) (⟨⟨a_s34, c_s34⟩⟩ : W_qE)) fun w91 S90 => yb (yp ?_)
 have hk96 : ok_qE I85 ({ p1 with Kids := s34 }) (⟨⟨a_s34, c_s34⟩⟩ : W_qE) := ⟨hp87⟩
 exact sj D ▸ En.c1 _ (S90.rd m0) ⟨I85, (⟨⟨a_s34, c_s34⟩⟩ : W_qE), rfl, le, S90.d4, hk96⟩
theorem r15_Place_ok {p0 : qT} {p1 : qE} {w_p0 : W_qT} {w_p1 : W_qE} (h_p0 : ok_qT I p0 w_p0) (h_p1 : ok_qE I p1 w_p1) (hS : St E w I Os) {r : qE} (D : r15_Place p0 p1 = some r) :
    Calls P 121 #[(vT p0 w_p0), (vE p1 w_p1)] w (fun e w' => ∃ I' w_rw0, e = .returned (vE r w_rw0) ∧ I.Le I' ∧ St E w' I' Os ∧ ok_qE I' r w_rw0) := by
 obtain ⟨fu, hf⟩ := anyFuel_some D
 exact r15_Place_fu_ok fu h_p0 h_p1 hS hf
noncomputable def r15_Resolve (p0 : qT) (p1 : qE) : Option (qE × Int) := (r10_Check p1 false).bind (fun r18 => (bif (r18 != 0) then some (z_qE, r18) else (r10_Names p1).bind (fun r29 => (forN (fun (i34 : Nat) (s33 : qE) => (idx r29 (i34 : Int)).bind (fun x45 => (r14_Col p0 x45).bind (fun r51 => (bif ((decide (r51 < 0)) || (decide (r51 > 5))) then some (.inr ((4 : Int), z_qE)) else some (.inl s33))))) r29.length 0 z_qE).bind (fun (t : qE ⊕ ((Int × qE))) => match t with | .inl s33 => (r15_Place p0 p1).bind (fun r73 => some (r73, 0)) | .inr (s58, s59) => some (s59, s58)))))
theorem r15_Resolve_ok {p0 : qT} {p1 : qE} {w_p0 : W_qT} {w_p1 : W_qE} (h_p0 : ok_qT I p0 w_p0) (h_p1 : ok_qE I p1 w_p1) (hS : St E w I Os) {r : qE × Int} (D : r15_Resolve p0 p1 = some r) :
    Calls P 95 #[(vT p0 w_p0), (vE p1 w_p1)] w (fun e w' => ∃ I' w_rw0, e = .returned (.tuple #[(vE r.1 w_rw0), (Iv r.2)]) ∧ I.Le I' ∧ St E w' I' Os ∧ ok_qE I' r.1 w_rw0) := by
 refine calls_W (fn := Tryz.f95) rfl rfl rfl ?_
 unfold r15_Resolve at D
 refine yg nL4 (yab hS (cs_qT p0 w_p0) 78 z fun b1 w4 S3 => yab S3 (cs_qE p1 w_p1) 41 z fun b5 w8 S7 => yab S7 (cs_qE z_qE zw_qE) 41 z fun b9 w12 S11 => ya 3 1 z (yac nL3 (y7 ((cs_qE p1 w_p1)) (S11.rf m1) z (bsk D fun r18 Xr13 D => WO.c1 (r10_Check_ok h_p1 S11 Xr13) z fun I15 w14 L16 S17 => ya 2 1 z (yb (W.seq (yg nL2 (ya 0 2 z (yb (y6 D (fun G D => ?_) (fun G D => ?_)))))))))))
 exact yg nL4 (yaf 0 14 (vE z_qE zw_qE) (ya 1 1 z (yaa S17 0 (cs_qE z_qE zw_qE) fun w20 S19 => ya 3 1 z (yb (yp (yh (sj D ▸ ya5 _ (S19.rd m0) ⟨I15, zw_qE, rfl, L16, S19.d3, zok_qE⟩)))))))
 refine W.skip (ye (yg nL3 (y7 ((cs_qE p1 w_p1)) (S17.rf m1) z (bsk D fun r29 Xr24 D => yae (r10_Names_ok (h_p1.mono L16) S17 Xr24) ?_))))
 rintro _ w25 ⟨I26, a_r29, c_r29, rfl, L27, S28, h_r29⟩
 refine cv (ya 2 1 z (yb (W.seq (yg [0] (ya 0 1 z (yb (yn (bsk D fun t30 hloop35 D => have hlt41 := (h_r29).len_lt; W.wk (yap (m := r29.length) hloop35 (fun (i34 : Nat) (s33 : qE) fr w => ∃ I31 w_s33, fr = [(2, Pt b1 0), (3, Pt b5 0), (4, Pt b9 0), (7, Sl a_r29 r29 c_r29), (8, Nv i34)] ∧ I26.Le I31 ∧ St E w I31 (bT b1 p0 w_p0 :: (bE b5 p1 w_p1) :: (bE b9 s33 w_s33) :: Os) ∧ ok_qE I31 s33 w_s33) ⟨I26, zw_qE, rfl, lr, S28.front1.front2, zok_qE⟩ ?_ ?_)))))))))
 rintro i34 s33 _ w38 hi42 ⟨I31, w_s33, rfl, L32, S39, h_s33⟩ x40 R1 hext30
 refine W.seq (yg nL4 (ya 0 4 z (yb (yat fun _ => W.skip (ye (W.seq (yn (W.seq (have S43 := S39.drew; ya1 nL7 5 (ym (S43.rd m0) (yx S43.im)) ?_)))))))))
 generalize World.drew _ = w44 at *
 refine y7 ((cs_qT p0 w_p0)) (rd_c m0 (S43.rd m0)) z (ya 1 2 z ?_)
 obtain ⟨x45, R1, Hx45, _, rfl, Zx45⟩ := sx I31 h_r29 R1
 refine y0 9 1 Hx45 z (yan Zx45 (rd_i S43.im) z (WO.tail z (bsk R1 fun r51 Xr46 R1 => WO.c1 (r14_Col_ok (h_p0.mono le) S43 Xr46) z fun I48 w47 L49 S50 => ya 6 1 z (yac nL6 (ya 0 3 z (yav [3, 4] 5 32 35 (.refl ((decide (r51 < 0)) || (decide (r51 > 5)))) (fun _ => ya 3 3 z yak) (yb (y6 R1 (fun G R1 => ?_) (fun G R1 => ?_)))))))))
 refine yg nL3 (yaf 0 36 (vE z_qE zw_qE) (yaa S50.front2 0 (cs_qE z_qE zw_qE) fun w56 S55 => ya 2 1 z (yb (yp (yk (yh (yr ?_)))))))
 obtain rfl := hext30 _ (sj R1).symm
 exact yk (yh (sj D ▸ ya5 _ (S55.rd m0) ⟨I48, zw_qE, rfl, le, S55.d3, zok_qE⟩))
 exact W.skip (yl (ye (yai nL3 (ya 0 1 z (yao i34 z (ya 2 1 z (yt (yv ⟨s33, (sj R1).symm, I48, w_s33, rfl, le, S50, (h_s33.mono L49)⟩))))))))
 rintro s33 _ w66 ⟨I31, w_s33, rfl, L32, S67, h_s33⟩ he
 cases he
 refine W.seq (yg nL4 (ya 0 4 z (yb (yas fun _ => W.exit (yo (yq (yu (ye (yg nL5 (y7 ((cs_qT p0 w_p0)) (S67.rf m0) z (y7 ((cs_qE p1 w_p1)) (S67.rf m1) z (bsk D fun r73 Xr68 D => yae (r15_Place_ok (h_p0.mono le) (h_p1.mono le) S67 Xr68) ?_))))))))))))
 rintro _ w69 ⟨I70, w_r73, rfl, L71, S72, h_r73⟩
 exact cv (yaa S72.front2 0 (cs_qE r73 w_r73) fun w76 S75 => ya 4 1 z (yb (yp (sj D ▸ ya5 _ (S75.rd m0) ⟨I70, w_r73, rfl, le, S75.d3, h_r73⟩))))
def r15_Cols (p0 : qT) : Option (List Int) := (forE (fun (i9 : Nat) (s8 : List Int) => (idx p0.Cols (i9 : Int)).bind (fun x19 => (app 8 s8 ([x19.Type_] : List Int)).bind (fun x28 => some x28))) p0.Cols.length 0 ([] : List Int)).bind (fun s8 => some s8)
theorem r15_Cols_ok {p0 : qT} {w_p0 : W_qT} (h_p0 : ok_qT I p0 w_p0) (hS : St E w I Os) {r : (List Int)} (D : r15_Cols p0 = some r) :
    Calls P 97 #[(vT p0 w_p0)] w (fun e w' => ∃ (I' : Mem) (ra0 : Option Addr) (rc0 : Nat), e = .returned (Sl ra0 r rc0) ∧ I.Le I' ∧ St E w' I' Os ∧ RSl 1 (RInt .i64) I' ra0 rc0 r) := by
 refine calls_W (fn := Tryz.f97) rfl rfl rfl ?_
 unfold r15_Cols at D
 refine yg nL2 (yab hS (cs_qT p0 w_p0) 78 z fun b1 w4 S3 => yaf 1 2 (.slice none 0 0) (yac [0] (yaf 0 3 (.slice none 0 0) (yb (W.seq (yg [0] (ya 0 1 z (yb (yn (bsk D fun s8 hloop10 D => have hlt17 := (h_p0.Cols).len_lt; W.wk (ya0 (m := p0.Cols.length) hloop10 (fun (i9 : Nat) (s8 : List Int) fr w => ∃ I6 a_s8 c_s8 C_s8, fr = [(1, Pt b1 0), (3, Sl a_s8 s8 c_s8), (4, Nv i9)] ∧ I.Le I6 ∧ St E w I6 (bT b1 p0 w_p0 :: (C_s8) :: Os) ∧ OwnSl 3 1 (RInt .i64) I6 C_s8 a_s8 c_s8 s8) ⟨I, none, 0, Mem.no, rfl, lr, S3.no.front1, OwnSl.nil⟩ ?_ ?_)))))))))))
 rintro i9 s8 _ w14 hi18 ⟨I6, a_s8, c_s8, C_s8, rfl, L7, S15, h_s8⟩ x16 R1
 refine W.seq (yg nL5 (yf 0 2 [3] z (yj (S15.rf m0) z (ya 3 2 z (yb (yat fun _ => W.skip (ye (W.seq (yn (yai nL10 (yf 0 2 [3] z (yj (S15.rf m0) z (ya 3 1 z ?_)))))))))))))
 obtain ⟨x19, R1, Hx19, _, rfl, Zx19⟩ := sx I6 h_p0.Cols R1
 refine y0 111 3 Hx19 z (yf 5 1 [1] z (yar Zx19 1 S15.rm z (yad (rel := (RInt .i64)) (xs := ([x19.Type_] : List Int)) S15 z kr z 3 1 [[(Iv x19.Type_)]] kr z ((Elr.cons z Elr.nil)) tv ?_)))
 intro a23 C21 w25 S24 ho22
 have S27 := S24.front2
 exact apk R1 fun x28 h0_x28 he_x28 R1 => yau 3 8 [(Iv 0)] S27 h_s8 ho22.sl (S27.rd m1) h0_x28 he_x28 z fun a29 c30 w31 C32 S33 ho34 => ya 9 1 z (yt (yl (ye (yai nL3 (ya 0 1 z (yao i9 z (ya 2 1 z (yt (sj R1 ▸ yv ⟨I6, a29, c30, C32, rfl, L7, S33.front1.drop.front1, ho34⟩)))))))))
 rintro _ w38 ⟨I6, a_s8, c_s8, C_s8, rfl, L7, S39, h_s8⟩
 refine W.seq (yg nL5 (yf 0 2 [3] z (yj (S39.rf m0) z (ya 3 2 z (yb (yas fun _ => W.exit (yo (yq (yu (ye (yg nL2 (ya 0 1 z ?_))))))))))))
 obtain ⟨I41, L42, S44, hp43⟩ := yag h_s8 S39.front1
 exact ya 1 1 z (yb (yp (sj D ▸ yw ⟨I41, a_s8, c_s8, rfl, le, S44.drop, hp43⟩)))
def r15_first (p0 : List Int) : Option Int := (forN (fun (i4 : Nat) (_s : Unit) => (idx p0 (i4 : Int)).bind (fun x11 => (bif (x11 != 0) then (idx p0 (i4 : Int)).bind (fun x12 => some (.inr x12)) else some (.inl ())))) p0.length 0 ()).bind (fun (t : Unit ⊕ (Int)) => match t with | .inl _ => some 0 | .inr s14 => some s14)
theorem r15_first_ok {p0 : List Int} {a_p0 : Option Addr} {c_p0 : Nat} (h_p0 : RSl 1 (RInt .i64) I a_p0 c_p0 p0) (hS : St E w I Os) {r : Int} (D : r15_first p0 = some r) :
    Calls P 173 #[(Sl a_p0 p0 c_p0)] w (RT E I Os (Iv r)) := by
 refine calls_W (fn := Tryz.f173) rfl rfl rfl ?_
 unfold r15_first at D
 refine yg [0] (ya 0 1 z (yb (W.seq (yg [0] (ya 0 1 z (yb (yn (bsk D fun t1 hloop5 D => have hlt9 := (h_p0).len_lt; W.wk (yap (m := p0.length) hloop5 (fun (i4 : Nat) (_s : Unit) => JI E I [(0, Sl a_p0 p0 c_p0), (3, Nv i4)] Os) ⟨I, rfl, lr, hS⟩ ?_ ?_)))))))))
 rintro i4 _ _ w6 hi10 ⟨I2, rfl, L3, S7⟩ x8 R1 hext1
 refine W.seq (yg nL4 (ya 0 4 z (yb (yat fun _ => W.skip (ye (W.seq (yn (yg nL5 (ya 0 2 z ?_)))))))))
 obtain ⟨x11, R1, Hx11, _, rfl, Zx11⟩ := sx I2 h_p0 R1
 refine y0 3 1 Hx11 z (yan Zx11 S7.rm z (ya 4 1 z (yb (y6 R1 (fun G R1 => ?_) (fun G R1 => ?_)))))
 refine yg nL5 (ya 0 2 z ?_)
 obtain ⟨x12, R1, Hx12, _, rfl, Zx12⟩ := sx I2 h_p0 R1
 refine y0 3 1 Hx12 z (yan Zx12 S7.rm z (ya 4 1 z (yb (yp (yk (yh (yr ?_)))))))
 obtain rfl := hext1 _ (sj R1).symm
 exact yk (yh (sj D ▸ yw ⟨I2, rfl, L3, S7⟩))
 exact W.skip (yl (ye (yai nL3 (ya 0 1 z (yao i4 z (ya 2 1 z (yt (yv ⟨(), (sj R1).symm, I2, rfl, L3, S7⟩))))))))
 rintro _ _ w15 ⟨I2, rfl, L3, S16⟩ he
 cases he
 exact W.seq (yg nL4 (ya 0 4 z (yb (yas fun _ => W.exit (yo (yq (yu (ye (yg [0] (ya 0 1 z (yb (yp (sj D ▸ yw ⟨I2, rfl, L3, S16⟩)))))))))))))
def r15_all (p0 : List Int) (p1 : Int) : Option Bool := (forN (fun (i4 : Nat) (_s : Unit) => (idx p0 (i4 : Int)).bind (fun x11 => ((bif (x11 != 0) then (idx p0 (i4 : Int)).bind (fun x16 => some (x16 != p1)) else some false)).bind (fun (j12 : Bool) => (bif j12 then some (.inr false) else some (.inl ()))))) p0.length 0 ()).bind (fun (t : Unit ⊕ (Bool)) => match t with | .inl _ => some true | .inr s20 => some s20)
theorem r15_all_ok {p0 : List Int} {p1 : Int} {a_p0 : Option Addr} {c_p0 : Nat} (h_p0 : RSl 1 (RInt .i64) I a_p0 c_p0 p0) (hS : St E w I Os) {r : Bool} (D : r15_all p0 p1 = some r) :
    Calls P 174 #[(Sl a_p0 p0 c_p0), (Iv p1)] w (RT E I Os (.bool r)) := by
 refine calls_W (fn := Tryz.f174) rfl rfl rfl ?_
 unfold r15_all at D
 refine yg [0] (ya 0 1 z (yb (W.seq (yg [0] (ya 0 1 z (yb (yn (bsk D fun t1 hloop5 D => have hlt9 := (h_p0).len_lt; W.wk (yap (m := p0.length) hloop5 (fun (i4 : Nat) (_s : Unit) => JI E I [(0, Sl a_p0 p0 c_p0), (1, Iv p1), (5, Nv i4)] Os) ⟨I, rfl, lr, hS⟩ ?_ ?_)))))))))
 rintro i4 _ _ w6 hi10 ⟨I2, rfl, L3, S7⟩ x8 R1 hext1
 refine W.seq (yg nL4 (ya 0 4 z (yb (yat fun _ => W.skip (ye (W.seq (yn (yg nL13 (ya 0 2 z ?_)))))))))
 obtain ⟨x11, R1, Hx11, _, rfl, Zx11⟩ := sx I2 h_p0 R1
 refine y0 3 1 Hx11 z (yan Zx11 S7.rm z (ya 4 2 z (bsk R1 fun j12 R2 R1 => yam (l1 := [6, 7, 8, 9, 10, 11, 12]) (J := JI E I2 [(0, Sl a_p0 p0 c_p0), (1, Iv p1), (5, Nv i4), (24, .bool j12)] Os) ?_ ?_)))
 refine yal R2 (fun G R2 => ?_) (fun G R2 => ?_)
 refine yz 17 G (ya 6 2 z ?_)
 obtain ⟨x16, R2, Hx16, _, rfl, Zx16⟩ := sx I2 h_p0 R2
 exact y0 3 1 Hx16 z (yan Zx16 S7.rm z (ya 10 3 z (sj R2 ▸ yy ⟨I2, rfl, lr, S7⟩)))
 refine yz 17 G ?_
 iterate 6 refine WO.ps ?_
 exact ya 12 1 z (sj R2 ▸ yy ⟨I2, rfl, lr, S7⟩)
 rintro _ w17 ⟨I14, rfl, L15, S18⟩
 refine yb (y6 R1 (fun G R1 => ?_) (fun G R1 => ?_))
 refine yg [0] (ya 0 1 z (yb (yp (yk (yh (yr ?_))))))
 obtain rfl := hext1 _ (sj R1).symm
 exact yk (yh (sj D ▸ yw ⟨I14, rfl, le, S18⟩))
 exact W.skip (yl (ye (yai nL3 (ya 0 1 z (yao i4 z (ya 2 1 z (yt (yv ⟨(), (sj R1).symm, I14, rfl, le, S18⟩))))))))
 rintro _ _ w21 ⟨I2, rfl, L3, S22⟩ he
 cases he
 exact W.seq (yg nL4 (ya 0 4 z (yb (yas fun _ => W.exit (yo (yq (yu (ye (yg [0] (ya 0 1 z (yb (yp (sj D ▸ yw ⟨I2, rfl, L3, S22⟩)))))))))))))
def r15_made (p0 : qE) (p1 : List Int) : Option Int := (bif ((p0.Kind == 4) && (decide (p0.Op > 2))) then some 2 else (some (((p0.Kind == 4) && (p0.Op == 2)) || ((p0.Kind == 5) && (decide (p0.Op ≤ 2))))).bind (fun (q12 : Bool) => ((bif q12 then some (.inl ((2 : Int), (2 : Int))) else ((bif ((p0.Kind == 5) && (decide (p0.Op ≤ 8))) then (r15_first p1).bind (fun r35 => some (.inl (r35, (2 : Int)))) else ((bif ((p0.Kind == 5) && (p0.Op == 14)) then some (.inl ((3 : Int), (3 : Int))) else ((bif (p0.Kind == 6) then (idx p1 0).bind (fun x52 => some (x52 == 0)) else some false)).bind (fun (j48 : Bool) => (bif j48 then some (.inr 2) else ((bif (p0.Kind == 6) then (idx p1 0).bind (fun x69 => some (x69, (2 : Int))) else (some ((p0.Kind == 7) && (sEq p0.Name (⟨#[108, 101, 110, 103, 116, 104]⟩ : By8)))).bind (fun (q73 : Bool) => ((bif q73 then some ((3 : Int), (1 : Int)) else (some ((p0.Kind == 7) && (sEq p0.Name (⟨#[99, 111, 97, 108, 101, 115, 99, 101]⟩ : By8)))).bind (fun (q83 : Bool) => ((bif q83 then (r15_first p1).bind (fun r95 => (r15_first p1).bind (fun r101 => some (r95, r101))) else some ((1 : Int), (1 : Int)))).bind (fun ((s102, s103) : Int × Int) => some (s102, s103))))).bind (fun ((s80, s81) : Int × Int) => some (s80, s81))))).bind (fun ((s70, s71) : Int × Int) => some (.inl (s70, s71))))))).bind (fun (t : (Int × Int) ⊕ Int) => match t with | (.inl (s45, s46)) => some (.inl (s45, s46)) | (.inr s56) => some (.inr s56)))).bind (fun (t : (Int × Int) ⊕ Int) => match t with | (.inl (s36, s37)) => some (.inl (s36, s37)) | (.inr s58) => some (.inr s58)))).bind (fun (t : (Int × Int) ⊕ Int) => match t with | (.inl (s21, s22)) => (r15_all p1 s21).bind (fun r123 => (bif (!r123) then some (-1) else some s22)) | (.inr s60) => some s60)))
theorem r15_made_ok {p0 : qE} {p1 : List Int} {w_p0 : W_qE} {a_p1 : Option Addr} {c_p1 : Nat} (h_p0 : ok_qE I p0 w_p0) (h_p1 : RSl 1 (RInt .i64) I a_p1 c_p1 p1) (hS : St E w I Os) {r : Int} (D : r15_made p0 p1 = some r) :
    Calls P 169 #[(vE p0 w_p0), (Sl a_p1 p1 c_p1)] w (RT E I Os (Iv r)) := by
 refine calls_W (fn := Tryz.f169) rfl rfl rfl ?_
 unfold r15_made at D
 refine yg nL2 (yab hS (cs_qE p0 w_p0) 41 z fun b1 w4 S3 => ya 1 1 z (yac nL2 (ya 0 2 z (yb (W.seq (yn (yg nL9 (yf 0 1 [0] z (yj (S3.rf m0) z (ya 2 2 z (yaw [4, 5, 6] 7 11 15 (.refl ((p0.Kind == 4) && (decide (p0.Op > 2)))) (fun _ => yf 4 1 [1] z (yj (S3.rf m0) z (ya 6 2 z yak))) (ya 8 1 z (yb (y6 D (fun G D => ?_) (fun G D => ?_)))))))))))))))
 exact yg [0] (ya 0 1 z (yb (yp (yk (yh (sj D ▸ yw ⟨I, rfl, lr, S3.drop⟩))))))
 refine yg nL19 (yf 0 1 [0] z (yj (S3.rf m0) z (ya 2 2 z (yaw [4, 5, 6] 7 20 24 (.refl ((p0.Kind == 4) && (p0.Op == 2))) (fun _ => yf 4 1 [1] z (yj (S3.rf m0) z (ya 6 2 z yak))) (ya 8 1 z (bsq D fun q12 Xq12 D => yav [9, 10, 11, 12, 13, 14, 15, 16] 17 25 34 Xq12 (fun _ => yf 9 1 [0] z (yj (S3.rf m0) z (ya 11 2 z (yaw [13, 14, 15] 16 29 33 (.refl ((p0.Kind == 5) && (decide (p0.Op ≤ 2)))) (fun _ => yf 13 1 [1] z (yj (S3.rf m0) z (ya 15 2 z yak))) (ya 17 1 z yak))))) (ya 18 1 z (yb (bsk D fun j17 R1 D => yay (J := (fun fr w => ∃ (s21 : Int) (s22 : Int), ∃ I19, (.inl (s21, s22)) = j17 ∧ fr = [(1, Sl a_p1 p1 c_p1), (5, Iv s21), (6, Iv s22)] ∧ I.Le I19 ∧ St E w I19 Os)) ?_ ?_)))))))))
 refine y6 R1 (fun G R1 => ?_) (fun G R1 => ?_)
 exact yg [0] (ya 0 1 z (yb (yai [0] (ya 0 1 z (yt (yv ⟨2, 2, I, sj R1, rfl, lr, S3.drop⟩))))))
 refine yg nL9 (yf 0 1 [0] z (yj (S3.rf m0) z (ya 2 2 z (yaw [4, 5, 6] 7 39 43 (.refl ((p0.Kind == 5) && (decide (p0.Op ≤ 8)))) (fun _ => yf 4 1 [1] z (yj (S3.rf m0) z (ya 6 2 z yak))) (ya 8 1 z (yb (bsk R1 fun j26 R2 R1 => yay (J := (fun fr w => ∃ (s36 : Int) (s37 : Int), ∃ I28, (.inl (s36, s37)) = j26 ∧ fr = [(1, Sl a_p1 p1 c_p1), (5, Iv s36), (6, Iv s37)] ∧ I.Le I28 ∧ St E w I28 Os)) ?_ ?_)))))))
 refine y6 R2 (fun G R2 => ?_) (fun G R2 => ?_)
 exact yg nL3 (ya 0 1 z (bsk R2 fun r35 Xr30 R2 => WO.c1 (r15_first_ok h_p1 S3 Xr30) z fun I32 w31 L33 S34 => ya 2 1 z (yb (yai [0] (ya 0 1 z (yt (yv ⟨r35, 2, I32, sj R2, rfl, L33, S34.drop⟩)))))))
 refine yg nL9 (yf 0 1 [0] z (yj (S3.rf m0) z (ya 2 2 z (yaw [4, 5, 6] 7 50 54 (.refl ((p0.Kind == 5) && (p0.Op == 14))) (fun _ => yf 4 1 [1] z (yj (S3.rf m0) z (ya 6 2 z yak))) (ya 8 1 z (yb (bsk R2 fun j41 R3 R2 => yay (J := (fun fr w => ∃ (s45 : Int) (s46 : Int), ∃ I43, (.inl (s45, s46)) = j41 ∧ fr = [(1, Sl a_p1 p1 c_p1), (5, Iv s45), (6, Iv s46)] ∧ I.Le I43 ∧ St E w I43 Os)) ?_ ?_)))))))
 refine y6 R3 (fun G R3 => ?_) (fun G R3 => ?_)
 exact yg [0] (ya 0 1 z (yb (yai [0] (ya 0 1 z (yt (yv ⟨3, 3, I, sj R3, rfl, lr, S3.drop⟩))))))
 refine yg nL10 (yf 0 1 [0] z (yj (S3.rf m0) z (ya 2 2 z (bsk R3 fun j48 R4 R3 => yam (l1 := [4, 5, 6, 7, 8]) (J := JI E I [(1, Sl a_p1 p1 c_p1), (2, Pt b1 0), (5, Iv 1), (6, Iv 1), (64, .bool j48)] (bE b1 p0 w_p0 :: Os)) ?_ ?_))))
 refine yal R4 (fun G R4 => ?_) (fun G R4 => ?_)
 refine yz 59 G (ya 4 1 z ?_)
 obtain ⟨x52, R4, Hx52, _, rfl, Zx52⟩ := sl_ix (h_p1) R4
 exact y0 3 1 Hx52 z (yan Zx52 S3.rm z (ya 7 2 z (sj R4 ▸ yy ⟨I, rfl, lr, S3⟩)))
 refine yz 59 G ?_
 iterate 4 refine WO.ps ?_
 exact ya 8 1 z (sj R4 ▸ yy ⟨I, rfl, lr, S3⟩)
 rintro _ w53 ⟨I50, rfl, L51, S54⟩
 refine ya 9 1 z (yb (y6 R3 (fun G R3 => ?_) (fun G R3 => ?_)))
 refine yg [0] (ya 0 1 z (yb (yp (yr ?_))))
 obtain rfl := sj R3
 refine yr ?_
 obtain rfl := sj R2
 refine yr ?_
 obtain rfl := sj R1
 exact yk (yh (sj D ▸ yw ⟨I50, rfl, L51, S54.drop⟩))
 refine yg nL4 (yf 0 1 [0] z (yj (S54.rf m0) z (ya 2 2 z (yb (bsk R3 fun j65 R4 R3 => yay (J := (fun fr w => ∃ (s70 : Int) (s71 : Int), ∃ I67, (s70, s71) = j65 ∧ fr = [(1, Sl a_p1 p1 c_p1), (5, Iv s70), (6, Iv s71)] ∧ I50.Le I67 ∧ St E w I67 Os)) ?_ ?_)))))
 refine y6 R4 (fun G R4 => ?_) (fun G R4 => ?_)
 refine yg nL4 (ya 0 1 z ?_)
 obtain ⟨x69, R4, Hx69, _, rfl, Zx69⟩ := sx I50 h_p1 R4
 exact y0 3 1 Hx69 z (yan Zx69 S54.rm z (ya 3 1 z (yb (yai [0] (ya 0 1 z (yt (yv ⟨x69, 2, I50, sj R4, rfl, lr, S54.drop⟩)))))))
 refine yg nL9 (yf 0 1 [0] z (yj (S54.rf m0) z (ya 2 2 z (bsq R4 fun q73 Xq73 R4 => yaw [4, 5, 6] 7 76 80 Xq73 (fun _ => yf 4 1 [5] z (yj (S54.rf m0) z (ya 6 2 z yak))) (ya 8 1 z (yb (bsk R4 fun j76 R5 R4 => yay (J := (fun fr w => ∃ (s80 : Int) (s81 : Int), ∃ I78, (s80, s81) = j76 ∧ fr = [(1, Sl a_p1 p1 c_p1), (5, Iv s80), (6, Iv s81)] ∧ I50.Le I78 ∧ St E w I78 Os)) ?_ ?_)))))))
 refine y6 R5 (fun G R5 => ?_) (fun G R5 => ?_)
 exact yai [0] (ya 0 1 z (yt (yv ⟨3, 1, I50, sj R5, rfl, lr, S54.drop⟩)))
 refine yg nL9 (yf 0 1 [0] z (yj (S54.rf m0) z (ya 2 2 z (bsq R5 fun q83 Xq83 R5 => yaw [4, 5, 6] 7 85 89 Xq83 (fun _ => yf 4 1 [5] z (yj (S54.rf m0) z (ya 6 2 z yak))) (ya 8 1 z (yb (bsk R5 fun j86 R6 R5 => yay (J := (fun fr w => ∃ (s102 : Int) (s103 : Int), ∃ I88, (s102, s103) = j86 ∧ fr = [(1, Sl a_p1 p1 c_p1), (5, Iv s102), (6, Iv s103)] ∧ I50.Le I88 ∧ St E w I88 Os)) ?_ ?_)))))))
 refine y6 R6 (fun G R6 => ?_) (fun G R6 => ?_)
 exact yg nL3 (ya 0 1 z (bsk R6 fun r95 Xr90 R6 => WO.c1 (r15_first_ok (RSl.mono h_p1 L51) S54 Xr90) z fun I92 w91 L93 S94 => ya 2 1 z (yb (yai nL3 (ya 0 1 z (bsk R6 fun r101 Xr96 R6 => WO.c1 (r15_first_ok (up h_p1) S94 Xr96) z fun I98 w97 L99 S100 => ya 2 1 z (yt (yv ⟨r95, r101, I98, sj R6, rfl, le, S100.drop⟩))))))))
 exact W.skip (yv ⟨1, 1, I50, sj R6, rfl, lr, S54.drop⟩)
 rintro _ w106 ⟨s102, s103, I88, rfl, rfl, L89, S107⟩
 exact yv ⟨s102, s103, I88, sj R5, rfl, L89, S107⟩
 rintro _ w108 ⟨s80, s81, I78, rfl, rfl, L79, S109⟩
 exact yv ⟨s80, s81, I78, sj R4, rfl, L79, S109⟩
 rintro _ w110 ⟨s70, s71, I67, rfl, rfl, L68, S111⟩
 exact yv ⟨s70, s71, I67, sj R3, rfl, le, S111⟩
 rintro _ w112 ⟨s45, s46, I43, rfl, rfl, L44, S113⟩
 exact yv ⟨s45, s46, I43, sj R2, rfl, L44, S113⟩
 rintro _ w114 ⟨s36, s37, I28, rfl, rfl, L29, S115⟩
 exact yv ⟨s36, s37, I28, sj R1, rfl, L29, S115⟩
 rintro _ w116 ⟨s21, s22, I19, rfl, rfl, L20, S117⟩
 refine yl (ye (W.seq (yg nL4 (ya 0 2 z (bsk D fun r123 Xr118 D => WO.c1 (r15_all_ok (RSl.mono h_p1 L20) S117 Xr118) z fun I120 w119 L121 S122 => ya 3 1 z (yb (y6 D (fun G D => ?_) (fun G D => ?_))))))))
 exact yg [0] (ya 0 1 z (yb (yp (yh (sj D ▸ yw ⟨I120, rfl, le, S122⟩)))))
 exact W.skip (ye (yg nL2 (ya 0 2 z (yb (yp (sj D ▸ yw ⟨I120, rfl, le, S122⟩))))))
def r15_find_fu : Nat → qE → (List Int) → (List Int) → Option (Int × Int)
  | 0, _, _, _ => none
  | fu + 1, p0, p1, p2 => (bif (p0.Kind == 1) then some (p0.V.Kind, 0) else (bif (p0.Kind == 2) then some (0, 4) else ((bif (p0.Kind == 3) then some (p2, (w64 (p0.Op - 1))) else some (p1, p0.Op))).bind (fun ((s13, s14) : (List Int) × Int) => (bif ((p0.Kind == 3) || (p0.Kind == 8)) then (bif (decide (s14 ≥ (s13.length : Int))) then some (0, 37) else (idx s13 s14).bind (fun x20 => ((bif (decide (x20 < 0)) then some true else (idx s13 s14).bind (fun x26 => some (decide (x26 > 3))))).bind (fun (j21 : Bool) => (bif j21 then some (0, 11) else (idx s13 s14).bind (fun x30 => some (x30, 0)))))) else (forN (fun (i35 : Nat) (s34 : List Int) => (idx p0.Kids (i35 : Int)).bind (fun x45 => (r15_find_fu fu x45 p1 p2).bind (fun (r51, r52) => (bif (r52 != 0) then some (.inr ((0 : Int), r52)) else (app 8 s34 ([r51] : List Int)).bind (fun x68 => some (.inl x68)))))) p0.Kids.length 0 ([] : List Int)).bind (fun (t : (List Int) ⊕ ((Int × Int))) => match t with | .inl s34 => (r15_made p0 s34).bind (fun r88 => (bif (decide (r88 < 0)) then some (0, 11) else some (r88, 0))) | .inr (s54, s55) => some (s54, s55))))))
noncomputable def r15_find (p0 : qE) (p1 : List Int) (p2 : List Int) : Option (Int × Int) := anyFuel (fun fu => r15_find_fu fu p0 p1 p2)
theorem r15_find_fu_ok : ∀ (fu : Nat) {E w : World} {I : Mem} {Os : List Mem} {p0 : qE} {p1 : List Int} {p2 : List Int} {w_p0 : W_qE} {a_p1 : Option Addr} {c_p1 : Nat} {a_p2 : Option Addr} {c_p2 : Nat} (h_p0 : ok_qE I p0 w_p0) (h_p1 : RSl 1 (RInt .i64) I a_p1 c_p1 p1) (h_p2 : RSl 1 (RInt .i64) I a_p2 c_p2 p2) (hS : St E w I Os) {r : Int × Int} (D : r15_find_fu fu p0 p1 p2 = some r),
    Calls P 154 #[(vE p0 w_p0), (Sl a_p1 p1 c_p1), (Sl a_p2 p2 c_p2)] w (RT E I Os (.tuple #[(Iv r.1), (Iv r.2)])) := by
 intro fu
 induction fu with
 | zero => intro E w I Os p0 p1 p2 w_p0 a_p1 c_p1 a_p2 c_p2 h_p0 h_p1 h_p2 hS r D; cases D
 | succ fu ih =>
 intro E w I Os p0 p1 p2 w_p0 a_p1 c_p1 a_p2 c_p2 h_p0 h_p1 h_p2 hS r D
 refine calls_W (fn := Tryz.f154) rfl rfl rfl ?_
 unfold r15_find_fu at D
 refine yg nL3 (yab hS (cs_qE p0 w_p0) 41 z fun b1 w4 S3 => ya 1 2 z (yb (W.seq (have S5 := S3.drew; ybl (l := nL5) kr 4 (KR I [bE b1 p0 w_p0]) qR (.ords nL5 [0, 3, 1, 2, 4] kr kr kr kr kr) kr (ym (S5.rd m0) (yx S5.im)) ?_))))
 generalize World.drew _ = w6 at *
 refine yf 0 2 [1] z (yj (rd_c m0 (S5.rd m0)) z (ya 3 1 z (WO.tail z (ya 4 1 z (yb (W.seq (yg nL2 (yf 0 1 [0] z (yj (S5.rf m0) z (yb (yn (yg nL2 (ya 0 2 z (yb (y6 D (fun G D => ?_) (fun G D => ?_))))))))))))))))
 exact yg nL5 (yf 0 2 [2, 0] z (yj (S5.rf m0) z (ya 3 2 z (yb (yp (yk (yh (sj D ▸ yaz ⟨I, rfl, lr, S5.drop⟩))))))))
 refine yg nL2 (ya 0 2 z (yb (y6 D (fun G D => ?_) (fun G D => ?_))))
 exact yg nL2 (ya 0 2 z (yb (yp (yk (yh (sj D ▸ yaz ⟨I, rfl, lr, S5.drop⟩))))))
 refine yg nL2 (ya 0 2 z (yb (bsk D fun j9 R1 D => yay (J := (fun fr w => ∃ (s13 : List Int) (s14 : Int), ∃ I11 a_s13 c_s13, (s13, s14) = j9 ∧ fr = [(1, Sl a_p1 p1 c_p1), (2, Sl a_p2 p2 c_p2), (3, Pt b1 0), (8, Sl a_s13 s13 c_s13), (9, Iv s14)] ∧ I.Le I11 ∧ St E w I11 (bE b1 p0 w_p0 :: Os) ∧ RSl 1 (RInt .i64) I11 a_s13 c_s13 s13)) ?_ ?_)))
 refine y6 R1 (fun G R1 => ?_) (fun G R1 => ?_)
 exact yg nL2 (ya 0 2 z (yb (yai nL4 (yf 0 1 [1] z (yj (S5.rf m0) z (ya 2 2 z (yt (yv ⟨p2, (w64 (p0.Op - 1)), I, a_p2, c_p2, sj R1, rfl, lr, S5, h_p2⟩))))))))
 exact W.skip (yv ⟨p1, p0.Op, I, a_p1, c_p1, sj R1, rfl, lr, S5, h_p1⟩)
 rintro _ w15 ⟨s13, s14, I11, a_s13, c_s13, rfl, rfl, L12, S16, h_s13⟩
 refine yl (ye (W.seq (yg nL8 (yf 0 1 [0] z (yj (S16.rf m0) z (ya 2 2 z (yav [4, 5, 6] 7 36 40 (.refl ((p0.Kind == 3) || (p0.Kind == 8))) (fun _ => yf 4 1 [0] z (yj (S16.rf m0) z (ya 6 2 z yak))) (yb (y6 D (fun G D => ?_) (fun G D => ?_))))))))))
 refine W.seq (yg nL4 (ya 0 4 z (yb (y6 D (fun G D => ?_) (fun G D => ?_)))))
 exact yg nL2 (ya 0 2 z (yb (yp (yh (yh (sj D ▸ yaz ⟨I11, rfl, L12, S16.drop⟩))))))
 refine W.skip (ye (W.seq (yg nL12 (ya 0 2 z ?_))))
 obtain ⟨x20, D, Hx20, _, rfl, Zx20⟩ := sl_ix (h_s13) D
 refine y0 3 1 Hx20 z (yan Zx20 S16.rm z (ya 4 2 z (bsk D fun j21 R1 D => yam (l1 := [6, 7, 8, 9, 10, 11]) (J := JI E I11 [(8, Sl a_s13 s13 c_s13), (9, Iv s14), (56, .bool j21)] Os) ?_ ?_)))
 refine yal R1 (fun G R1 => ?_) (fun G R1 => ?_)
 refine yz 50 G ?_
 iterate 5 refine WO.ps ?_
 exact ya 11 1 z (sj R1 ▸ yy ⟨I11, rfl, lr, S16.drop⟩)
 refine yz 50 G (ya 6 2 z ?_)
 obtain ⟨x26, R1, Hx26, _, rfl, Zx26⟩ := sl_ix (h_s13) R1
 exact y0 3 1 Hx26 z (yan Zx26 S16.rm z (ya 10 2 z (sj R1 ▸ yy ⟨I11, rfl, lr, S16.drop⟩)))
 rintro _ w28 ⟨I23, rfl, L24, S29⟩
 refine yb (y6 D (fun G D => ?_) (fun G D => ?_))
 exact yg nL2 (ya 0 2 z (yb (yp (yh (yh (sj D ▸ yaz ⟨I23, rfl, le, S29⟩))))))
 refine W.skip (ye (yg nL6 (ya 0 2 z ?_)))
 obtain ⟨x30, D, Hx30, _, rfl, Zx30⟩ := sx I23 h_s13 D
 exact y0 3 1 Hx30 z (yan Zx30 S29.rm z (ya 4 2 z (yb (yp (yh (sj D ▸ yaz ⟨I23, rfl, le, S29⟩))))))
 refine W.skip (ye (yg [0] (yaf 0 10 (.slice none 0 0) (yb (W.seq (yg [0] (ya 0 1 z (yb (yn (bsk D fun t31 hloop36 D => have hlt43 := ((RSl.mono h_p0.Kids L12)).len_lt; W.wk (yap (m := p0.Kids.length) hloop36 (fun (i35 : Nat) (s34 : List Int) fr w => ∃ I32 a_s34 c_s34 C_s34, fr = [(1, Sl a_p1 p1 c_p1), (2, Sl a_p2 p2 c_p2), (3, Pt b1 0), (10, Sl a_s34 s34 c_s34), (11, Nv i35)] ∧ I11.Le I32 ∧ St E w I32 (bE b1 p0 w_p0 :: (C_s34) :: Os) ∧ OwnSl 3 1 (RInt .i64) I32 C_s34 a_s34 c_s34 s34) ⟨I11, none, 0, Mem.no, rfl, lr, S16.no.front1, OwnSl.nil⟩ ?_ ?_)))))))))))
 rintro i35 s34 _ w40 hi44 ⟨I32, a_s34, c_s34, C_s34, rfl, L33, S41, h_s34⟩ x42 R1 hext31
 refine W.seq (yg nL5 (yf 0 2 [6] z (yj (S41.rf m0) z (ya 3 2 z (yb (yat fun _ => W.skip (ye (W.seq (yn (yg nL13 (yf 0 1 [6] z (yj (S41.rf m0) z (ya 2 1 z ?_)))))))))))))
 obtain ⟨x45, Xx45, R1⟩ := bsm R1
 obtain ⟨h0_x45, h1_x45, Xx45⟩ := idx_some Xx45
 obtain ⟨ha_x45, cs_x45, hn_x45, hr_x45, Zx45⟩ := ((RSl.mono h_p0.Kids (L12.trans L33))).el _ _ Xx45
 obtain ⟨w_x45, rfl, h_x45⟩ := Q_qE_iff.1 hr_x45
 refine ya4 41 7 ha_x45 h0_x45 h1_x45 ?_
 refine yaq ((cs_qE x45 w_x45)) Zx45 0 S41.rm z (ya 5 2 z ?_)
 obtain ⟨⟨r51, r52⟩, Xr46, R1⟩ := bsm R1
 refine WO.c1 (ih h_x45 (up h_p1) (up h_p2) S41 Xr46) z fun I48 w47 L49 S50 => ya 8 5 z (yb (W.seq (yg nL2 (ya 0 2 z (yb (y6 R1 (fun G R1 => ?_) (fun G R1 => ?_)))))))
 refine yg nL3 (ya 0 3 z (yb (yp (yh (yk (yh (yr ?_)))))))
 obtain rfl := hext31 _ (sj R1).symm
 exact yk (yh (sj D ▸ yaz ⟨I48, rfl, le, S50.d2⟩))
 refine W.skip (ye (yai nL5 (ya 0 2 z (yad (rel := (RInt .i64)) (xs := ([r51] : List Int)) S50 z kr z 3 1 [[(Iv r51)]] kr z ((Elr.cons z Elr.nil)) tv ?_))))
 intro a62 C60 w65 S63 ho61
 have S67 := S63.front2
 exact apk R1 fun x68 h0_x68 he_x68 R1 => yau 3 8 [(Iv 0)] S67 (OwnSl.mono h_s34 L49) ho61.sl (S67.rd m1) h0_x68 he_x68 z fun a69 c70 w71 C72 S73 ho74 => ya 4 1 z (yt (yl (ye (yai nL3 (ya 0 1 z (yao i35 z (ya 2 1 z (yt (yv ⟨x68, (sj R1).symm, I48, a69, c70, C72, rfl, le, S73.front1.drop.front1, ho74⟩)))))))))
 rintro s34 _ w78 ⟨I32, a_s34, c_s34, C_s34, rfl, L33, S79, h_s34⟩ he
 cases he
 refine W.seq (yg nL5 (yf 0 2 [6] z (yj (S79.rf m0) z (ya 3 2 z (yb (yas fun _ => W.exit (yo (yq (yu (ye (yg nL4 (y7 ((cs_qE p0 w_p0)) (S79.rf m0) z (ya 1 1 z (have S80 := S79.front1; have hp82 := (h_s34).publish S80; bsk D fun r88 Xr83 D => yae (r15_made_ok (h_p0.mono ((L12.trans L33).trans (ybd I32 C_s34))) hp82 S80.publish Xr83) ?_))))))))))))))
 rintro _ w84 ⟨I85, rfl, L86, S87⟩
 have S89 := St.back S80 L86 S87
 refine cv (ya 3 1 z (yb (W.seq (yg nL2 (ya 0 2 z (yb (y6 D (fun G D => ?_) (fun G D => ?_))))))))
 exact yg nL2 (ya 0 2 z (yb (yp (yh (sj D ▸ yaz ⟨I32, rfl, le, S89.d2⟩)))))
 exact W.skip (ye (yg nL3 (ya 0 3 z (yb (yp (sj D ▸ yaz ⟨I32, rfl, le, S89.d2⟩))))))
theorem r15_find_ok {p0 : qE} {p1 : List Int} {p2 : List Int} {w_p0 : W_qE} {a_p1 : Option Addr} {c_p1 : Nat} {a_p2 : Option Addr} {c_p2 : Nat} (h_p0 : ok_qE I p0 w_p0) (h_p1 : RSl 1 (RInt .i64) I a_p1 c_p1 p1) (h_p2 : RSl 1 (RInt .i64) I a_p2 c_p2 p2) (hS : St E w I Os) {r : Int × Int} (D : r15_find p0 p1 p2 = some r) :
    Calls P 154 #[(vE p0 w_p0), (Sl a_p1 p1 c_p1), (Sl a_p2 p2 c_p2)] w (RT E I Os (.tuple #[(Iv r.1), (Iv r.2)])) := by
 obtain ⟨fu, hf⟩ := anyFuel_some D
 exact r15_find_fu_ok fu h_p0 h_p1 h_p2 hS hf
noncomputable def r15_Type (p0 : qE) (p1 : List Int) (p2 : List Int) : Option (Int × Int) := (r10_Check p0 true).bind (fun r10 => (bif (r10 != 0) then some (0, r10) else (r15_find p0 p1 p2).bind (fun (r17, r18) => some (r17, r18))))
theorem r15_Type_ok {p0 : qE} {p1 : List Int} {p2 : List Int} {w_p0 : W_qE} {a_p1 : Option Addr} {c_p1 : Nat} {a_p2 : Option Addr} {c_p2 : Nat} (h_p0 : ok_qE I p0 w_p0) (h_p1 : RSl 1 (RInt .i64) I a_p1 c_p1 p1) (h_p2 : RSl 1 (RInt .i64) I a_p2 c_p2 p2) (hS : St E w I Os) {r : Int × Int} (D : r15_Type p0 p1 p2 = some r) :
    Calls P 122 #[(vE p0 w_p0), (Sl a_p1 p1 c_p1), (Sl a_p2 p2 c_p2)] w (RT E I Os (.tuple #[(Iv r.1), (Iv r.2)])) := by
 refine calls_W (fn := Tryz.f122) rfl rfl rfl ?_
 unfold r15_Type at D
 refine yg nL3 (yab hS (cs_qE p0 w_p0) 41 z fun b1 w4 S3 => ya 1 2 z (yac nL3 (y7 ((cs_qE p0 w_p0)) (S3.rf m0) z (bsk D fun r10 Xr5 D => WO.c1 (r10_Check_ok h_p0 S3 Xr5) z fun I7 w6 L8 S9 => ya 2 1 z (yb (W.seq (yg nL2 (ya 0 2 z (yb (y6 D (fun G D => ?_) (fun G D => ?_)))))))))))
 exact yg nL3 (ya 0 3 z (yb (yp (yh (sj D ▸ yaz ⟨I7, rfl, L8, S9.drop⟩)))))
 refine W.skip (ye (yg nL8 (y7 ((cs_qE p0 w_p0)) (S9.rf m0) z (ya 1 2 z ?_))))
 obtain ⟨⟨r17, r18⟩, Xr12, D⟩ := bsm D
 exact WO.c1 (r15_find_ok (h_p0.mono L8) (RSl.mono h_p1 L8) (RSl.mono h_p2 L8) S9 Xr12) z fun I14 w13 L15 S16 => ya 4 4 z (yb (yp (sj D ▸ yaz ⟨I14, rfl, le, S16.drop⟩)))
noncomputable def r15_Bool (p0 : qE) (p1 : List Int) (p2 : List Int) : Option Int := (r15_Type p0 p1 p2).bind (fun (r10, r11) => (bif (r11 != 0) then some r11 else (bif ((r10 != 2) && (r10 != 0)) then some 11 else some 0)))
theorem r15_Bool_ok {p0 : qE} {p1 : List Int} {p2 : List Int} {w_p0 : W_qE} {a_p1 : Option Addr} {c_p1 : Nat} {a_p2 : Option Addr} {c_p2 : Nat} (h_p0 : ok_qE I p0 w_p0) (h_p1 : RSl 1 (RInt .i64) I a_p1 c_p1 p1) (h_p2 : RSl 1 (RInt .i64) I a_p2 c_p2 p2) (hS : St E w I Os) {r : Int} (D : r15_Bool p0 p1 p2 = some r) :
    Calls P 96 #[(vE p0 w_p0), (Sl a_p1 p1 c_p1), (Sl a_p2 p2 c_p2)] w (RT E I Os (Iv r)) := by
 refine calls_W (fn := Tryz.f96) rfl rfl rfl ?_
 unfold r15_Bool at D
 refine yg nL2 (yab hS (cs_qE p0 w_p0) 41 z fun b1 w4 S3 => ya 1 1 z (yac nL9 (y7 ((cs_qE p0 w_p0)) (S3.rf m0) z (ya 1 2 z ?_))))
 obtain ⟨⟨r10, r11⟩, Xr5, D⟩ := bsm D
 refine WO.c1 (r15_Type_ok h_p0 h_p1 h_p2 S3 Xr5) z fun I7 w6 L8 S9 => ya 4 5 z (yb (W.seq (yg nL2 (ya 0 2 z (yb (y6 D (fun G D => ?_) (fun G D => ?_)))))))
 exact yg nL2 (ya 0 2 z (yb (yp (yh (sj D ▸ yw ⟨I7, rfl, L8, S9.drop⟩)))))
 refine W.skip (ye (W.seq (yg nL6 (ya 0 3 z (yaw [3, 4] 5 21 24 (.refl ((r10 != 2) && (r10 != 0))) (fun _ => ya 3 3 z yak) (yb (y6 D (fun G D => ?_) (fun G D => ?_))))))))
 exact yg [0] (ya 0 1 z (yb (yp (yh (sj D ▸ yw ⟨I7, rfl, L8, S9.drop⟩)))))
 exact W.skip (ye (yg [0] (ya 0 1 z (yb (yp (sj D ▸ yw ⟨I7, rfl, L8, S9.drop⟩))))))
def r14_Places (p0 : qT) (p1 : List By8) : Option ((List Int) × Int) := (forN (fun (i9 : Nat) (s8 : List Int) => (idx p1 (i9 : Int)).bind (fun x21 => (r14_Col p0 x21).bind (fun r27 => (bif (decide (r27 < 0)) then some (.inr (([] : List Int), (4 : Int))) else (app 8 s8 ([r27] : List Int)).bind (fun x42 => some (.inl x42)))))) p1.length 0 ([] : List Int)).bind (fun (t : (List Int) ⊕ (((List Int) × Int))) => match t with | .inl s8 => some (s8, 0) | .inr (s29, s30) => some (s29, s30))
theorem r14_Places_ok {p0 : qT} {p1 : List By8} {w_p0 : W_qT} {a_p1 : Option Addr} {c_p1 : Nat} (h_p0 : ok_qT I p0 w_p0) (h_p1 : RSl 1 RStr I a_p1 c_p1 p1) (hS : St E w I Os) {r : (List Int) × Int} (D : r14_Places p0 p1 = some r) :
    Calls P 123 #[(vT p0 w_p0), (Sl a_p1 p1 c_p1)] w (fun e w' => ∃ (I' : Mem) (ra0 : Option Addr) (rc0 : Nat), e = .returned (.tuple #[(Sl ra0 r.1 rc0), (Iv r.2)]) ∧ I.Le I' ∧ St E w' I' Os ∧ RSl 1 (RInt .i64) I' ra0 rc0 r.1) := by
 refine calls_W (fn := Tryz.f123) rfl rfl rfl ?_
 unfold r14_Places at D
 refine yg nL3 (yab hS (cs_qT p0 w_p0) 78 z fun b1 w4 S3 => yaf 1 4 (.slice none 0 0) (ya 2 1 z (yac [0] (yaf 0 6 (.slice none 0 0) (yb (W.seq (yg [0] (ya 0 1 z (yb (yn (bsk D fun t5 hloop10 D => have hlt17 := (h_p1).len_lt; W.wk (yap (m := p1.length) hloop10 (fun (i9 : Nat) (s8 : List Int) fr w => ∃ I6 a_s8 c_s8 C_s8, fr = [(1, Sl a_p1 p1 c_p1), (2, Pt b1 0), (6, Sl a_s8 s8 c_s8), (7, Nv i9)] ∧ I.Le I6 ∧ St E w I6 (bT b1 p0 w_p0 :: (C_s8) :: Os) ∧ OwnSl 3 1 (RInt .i64) I6 C_s8 a_s8 c_s8 s8) ⟨I, none, 0, Mem.no, rfl, lr, S3.no.front1, OwnSl.nil⟩ ?_ ?_))))))))))))
 rintro i9 s8 _ w14 hi18 ⟨I6, a_s8, c_s8, C_s8, rfl, L7, S15, h_s8⟩ x16 R1 hext5
 refine W.seq (yg nL4 (ya 0 4 z (yb (yat fun _ => W.skip (ye (W.seq (yn (W.seq (have S19 := S15.drew; ya1 nL7 5 (ym (S19.rd m0) (yx S19.im)) ?_)))))))))
 generalize World.drew _ = w20 at *
 refine y7 ((cs_qT p0 w_p0)) (rd_c m0 (S19.rd m0)) z (ya 1 2 z ?_)
 obtain ⟨x21, R1, Hx21, _, rfl, Zx21⟩ := sx I6 h_p1 R1
 refine y0 9 1 Hx21 z (yan Zx21 (rd_i S19.im) z (WO.tail z (bsk R1 fun r27 Xr22 R1 => WO.c1 (r14_Col_ok (h_p0.mono L7) S19 Xr22) z fun I24 w23 L25 S26 => ya 6 1 z (yb (W.seq (yg nL2 (ya 0 2 z (yb (y6 R1 (fun G R1 => ?_) (fun G R1 => ?_))))))))))
 refine yg nL2 (yaf 0 4 (.slice none 0 0) (ya 1 1 z (yb (yp (yh (yk (yh (yr ?_))))))))
 obtain rfl := hext5 _ (sj R1).symm
 exact yk (yh (sj D ▸ yaz ⟨I24, none, 0, rfl, le, S26.d2, SlAt.nil⟩))
 refine W.skip (ye (yai nL5 (ya 0 2 z (yad (rel := (RInt .i64)) (xs := ([r27] : List Int)) S26 z kr z 3 1 [[(Iv r27)]] kr z ((Elr.cons z Elr.nil)) tv ?_))))
 intro a37 C35 w39 S38 ho36
 have S41 := S38.front2
 exact apk R1 fun x42 h0_x42 he_x42 R1 => yau 3 8 [(Iv 0)] S41 (OwnSl.mono h_s8 L25) ho36.sl (S41.rd m1) h0_x42 he_x42 z fun a43 c44 w45 C46 S47 ho48 => ya 4 1 z (yt (yl (ye (yai nL3 (ya 0 1 z (yao i9 z (ya 2 1 z (yt (yv ⟨x42, (sj R1).symm, I24, a43, c44, C46, rfl, le, S47.front1.drop.front1, ho48⟩)))))))))
 rintro s8 _ w52 ⟨I6, a_s8, c_s8, C_s8, rfl, L7, S53, h_s8⟩ he
 cases he
 refine W.seq (yg nL4 (ya 0 4 z (yb (yas fun _ => W.exit (yo (yq (yu (ye (yg nL3 (ya 0 1 z ?_))))))))))
 obtain ⟨I55, L56, S58, hp57⟩ := yag h_s8 S53.front1
 exact ya 1 2 z (yb (yp (sj D ▸ yaz ⟨I55, a_s8, c_s8, rfl, le, S58.drop, hp57⟩)))
def r17_foreign (p0 : qC) (p1 : qT) (p2 : qK) : Option Int := ((bif (!sEq p2.Table p1.Name) then (r17_At p0 p2.Table).bind (fun r28 => (bif (decide (r28 < 0)) then some (.inl (4, p1)) else (idx p0.Tables r28).bind (fun x40 => some (.inr x40)))) else some (.inr p1))).bind (fun (t : (Int × qT) ⊕ qT) => match t with | (.inl (s30, s31)) => some s30 | (.inr s43) => (r14_Places s43 p2.Refs).bind (fun (r59, r60) => (r14_Places p1 p2.Cols).bind (fun (r66, r67) => (bif (r60 != 0) then some r60 else (forN (fun (i74 : Nat) (_s : Unit) => (idx r66 (i74 : Int)).bind (fun x83 => (idx p1.Cols x83).bind (fun x84 => (idx r59 (i74 : Int)).bind (fun x85 => (idx s43.Cols x85).bind (fun x86 => (bif (x84.Type_ != x86.Type_) then some (.inr (11 : Int)) else some (.inl ()))))))) r59.length 0 ()).bind (fun (t : Unit ⊕ (Int)) => match t with | .inl _ => (r17_keys s43 p2.Refs).bind (fun r102 => (bif (r102 == 0) then some 2 else some 0)) | .inr s88 => some s88)))))
theorem r17_foreign_ok {p0 : qC} {p1 : qT} {p2 : qK} {w_p0 : W_qC} {w_p1 : W_qT} {w_p2 : W_qK} (h_p0 : ok_qC I p0 w_p0) (h_p1 : ok_qT I p1 w_p1) (h_p2 : ok_qK I p2 w_p2) (hS : St E w I Os) {r : Int} (D : r17_foreign p0 p1 p2 = some r) :
    Calls P 98 #[(vC p0 w_p0), (vT p1 w_p1), (vK p2 w_p2)] w (RT E I Os (Iv r)) := by
 refine calls_W (fn := Tryz.f98) rfl rfl rfl ?_
 unfold r17_foreign at D
 refine yg nL4 (yab hS (cs_qC p0 w_p0) 29 z fun b1 w4 S3 => yab S3 (cs_qT p1 w_p1) 78 z fun b5 w8 S7 => yab S7 (cs_qK p2 w_p2) 137 z fun b9 w12 S11 => ya 3 1 z (yac nL3 (y7 ((cs_qT p1 w_p1)) (S11.rf m1) z (yab S11 (cs_qT z_qT zw_qT) 78 z fun b13 w16 S15 => yaa S15 0 (cs_qT p1 w_p1) fun w18 S17 => yb (W.seq (yg nL5 (yf 0 1 [10] z (yj (S17.rf m1) z (yf 2 1 [0] z (yj (S17.rf m2) z (ya 4 1 z (yb (bsk D fun j19 R1 D => yay (J := (fun fr w => ∃ (s43 : qT), ∃ I21 w_s43, (.inr s43) = j19 ∧ fr = [(4, Pt b5 0), (5, Pt b9 0), (7, Pt b13 0)] ∧ I.Le I21 ∧ St E w I21 (bT b5 p1 w_p1 :: (bK b9 p2 w_p2) :: (bT b13 s43 w_s43) :: Os) ∧ ok_qT I21 s43 w_s43)) ?_ ?_)))))))))))))
 refine y6 R1 (fun G R1 => ?_) (fun G R1 => ?_)
 refine yg nL5 (y7 ((cs_qC p0 w_p0)) (S17.rf m3) z (yf 1 1 [10] z (yj (S17.rf m1) z (bsk R1 fun r28 Xr23 R1 => WO.c1 (r17_At_ok h_p0 S17 Xr23) z fun I25 w24 L26 S27 => ya 4 1 z (yb (W.seq (yg nL2 (ya 0 2 z (yb (y6 R1 (fun G R1 => ?_) (fun G R1 => ?_)))))))))))
 refine yg [0] (ya 0 1 z (yb (yp (yh (yr ?_)))))
 obtain rfl := sj R1
 exact yh (sj D ▸ yw ⟨I25, rfl, L26, S27.d4⟩)
 refine W.skip (ye (yai nL6 (yf 0 1 [1] z (yj (S27.rf m3) z (ya 2 1 z ?_)))))
 obtain ⟨x40, R1, Hx40, _, ⟨w_x40, rfl, h_x40⟩, Zx40⟩ := sx I25 h_p0.Tables R1
 exact y0 78 6 Hx40 z (yaq ((cs_qT x40 w_x40)) Zx40 0 S27.rm z (yaa S27 0 (cs_qT x40 w_x40) fun w42 S41 => yt (yv ⟨x40, I25, w_x40, sj R1, rfl, L26, S41.front3.drop.front1.front2, h_x40⟩)))
 exact W.skip (yv ⟨p1, I, w_p1, sj R1, rfl, lr, S17.front3.drop.front1.front2, h_p1⟩)
 rintro _ w52 ⟨s43, I21, w_s43, rfl, rfl, L22, S53, h_s43⟩
 refine ye (yg nL9 (y7 ((cs_qT s43 w_s43)) (S53.rf m2) z (yf 1 1 [11] z (yj (S53.rf m1) z ?_))))
 obtain ⟨⟨r59, r60⟩, Xr54, D⟩ := bsm D
 refine yae (r14_Places_ok h_s43 (RSl.mono h_p2.Refs L22) S53 Xr54) ?_
 rintro _ w55 ⟨I56, a_r59, c_r59, rfl, L57, S58, h_r59⟩
 refine cv (ya 4 5 z (yac nL9 (y7 ((cs_qT p1 w_p1)) (S58.rf m0) z (yf 1 1 [2] z (yj (S58.rf m1) z ?_)))))
 obtain ⟨⟨r66, r67⟩, Xr61, D⟩ := bsm D
 refine yae (r14_Places_ok (h_p1.mono le) (up h_p2.Cols) S58 Xr61) ?_
 rintro _ w62 ⟨I63, a_r66, c_r66, rfl, L64, S65, h_r66⟩
 refine cv (ya 4 5 z (yb (W.seq (yg nL2 (ya 0 2 z (yb (y6 D (fun G D => ?_) (fun G D => ?_))))))))
 exact yg nL2 (ya 0 2 z (yb (yp (yh (sj D ▸ yw ⟨I63, rfl, le, S65.d3⟩)))))
 refine W.skip (ye (W.seq (yg [0] (ya 0 1 z (yb (yn (bsk D fun t71 hloop75 D => have hlt79 := ((RSl.mono h_r59 L64)).len_lt; W.wk (yap (m := r59.length) hloop75 (fun (i74 : Nat) (_s : Unit) => JI E I63 [(4, Pt b5 0), (5, Pt b9 0), (7, Pt b13 0), (9, Sl a_r59 r59 c_r59), (11, Sl a_r66 r66 c_r66), (13, Nv i74)] (bT b5 p1 w_p1 :: (bK b9 p2 w_p2) :: (bT b13 s43 w_s43) :: Os)) ⟨I63, rfl, lr, S65⟩ ?_ ?_))))))))
 rintro i74 _ _ w76 hi80 ⟨I72, rfl, L73, S77⟩ x78 R1 hext71
 refine W.seq (yg nL4 (ya 0 4 z (yb (yat fun _ => W.skip (ye (W.seq (yn (W.seq (have S81 := S77.drew; ya1 nL19 18 (ym (S81.rd m0) (ym (S81.rd m2) (yx S81.im))) ?_)))))))))
 generalize World.drew _ = w82 at *
 refine yf 0 1 [3] z (yj (rd_c m0 (S81.rd m0)) z (ya 2 2 z ?_))
 obtain ⟨x83, R1, Hx83, _, rfl, Zx83⟩ := sx I72 h_r66 R1
 refine y0 3 1 Hx83 z (yan Zx83 (rd_i S81.im) z ?_)
 obtain ⟨x84, R1, Hx84, _, rfl, Zx84⟩ := sx I72 h_p1.Cols R1
 refine y0 111 3 Hx84 z (yf 7 1 [1] z (yar Zx84 1 (rd_i S81.im) z (yf 9 1 [3] z (yj (rd_c m1 (S81.rd m2)) z (ya 11 2 z ?_)))))
 obtain ⟨x85, R1, Hx85, _, rfl, Zx85⟩ := sx I72 h_r59 R1
 refine y0 3 1 Hx85 z (yan Zx85 (rd_i S81.im) z ?_)
 obtain ⟨x86, R1, Hx86, _, rfl, Zx86⟩ := sx I72 h_s43.Cols R1
 refine y0 111 3 Hx86 z (yf 16 1 [1] z (yar Zx86 1 (rd_i S81.im) z (WO.tail z (ya 18 1 z (yb (y6 R1 (fun G R1 => ?_) (fun G R1 => ?_)))))))
 refine yg [0] (ya 0 1 z (yb (yp (yk (yh (yr ?_))))))
 obtain rfl := hext71 _ (sj R1).symm
 exact yk (yh (sj D ▸ yw ⟨I72, rfl, le, S81.d3⟩))
 exact W.skip (yl (ye (yai nL3 (ya 0 1 z (yao i74 z (ya 2 1 z (yt (yv ⟨(), (sj R1).symm, I72, rfl, L73, S81⟩))))))))
 rintro _ _ w95 ⟨I72, rfl, L73, S96⟩ he
 cases he
 refine W.seq (yg nL4 (ya 0 4 z (yb (yas fun _ => W.exit (yo (yq (yu (ye (W.seq (yg nL5 (y7 ((cs_qT s43 w_s43)) (S96.rf m2) z (yf 1 1 [11] z (yj (S96.rf m1) z (bsk D fun r102 Xr97 D => WO.c1 (r17_keys_ok (h_s43.mono le) (up h_p2.Refs) S96 Xr97) z fun I99 w98 L100 S101 => ya 4 1 z (yb (y6 D (fun G D => ?_) (fun G D => ?_)))))))))))))))))
 exact yg [0] (ya 0 1 z (yb (yp (yh (sj D ▸ yw ⟨I99, rfl, le, S101.d3⟩)))))
 exact W.skip (ye (yg [0] (ya 0 1 z (yb (yp (sj D ▸ yw ⟨I99, rfl, le, S101.d3⟩))))))
end Go.Proofs.YtpgmbifboopfmaaGreat
