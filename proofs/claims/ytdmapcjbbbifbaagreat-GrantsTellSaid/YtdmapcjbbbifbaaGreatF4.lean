/- What functions of the program come to, each by a plain one. Conditions: none. -/
import Derived.Test.YtdmapcjbbbifbaaGreatF3
import Derived.Test.YtdmapcjbbbifbaaGreatProg
set_option maxRecDepth 100000
namespace Go.Proofs.YtdmapcjbbbifbaaGreat
open Go.Gv
set_option maxHeartbeats 1000000
variable {E w : World} {I : Mem} {Os : List Mem}
def r15_Place_fu : Nat → qTable → qExpr → Option qExpr
  | 0, _, _ => none
  | fu + 1, p0, p1 => (bif (p1.Kind == 2) then (r14_Col p0 p1.Name).bind (fun r18 => some { z_qExpr with Kind := 8, Op := r18 }) else (forE (fun (i35 : Nat) => fun (s34 : List qExpr) => (idx p1.Kids (i35 : Int)).bind (fun x50 => (r15_Place_fu fu p0 x50).bind (fun r56 => (app 88 s34 ([r56] : List qExpr)).bind (fun x65 => some x65)))) p1.Kids.length 0 ([] : List qExpr)).bind (fun s34 => some { p1 with Kids := s34 }))
noncomputable def r15_Place (p0 : qTable) (p1 : qExpr) : Option qExpr := anyFuel (fun fu => r15_Place_fu fu p0 p1)
theorem r15_Place_fu_ok : ∀ (fu : Nat) {E w : World} {I : Mem} {Os : List Mem} {p0 : qTable} {p1 : qExpr} {w_p0 : W_qTable} {w_p1 : W_qExpr} (h_p0 : ok_qTable I p0 w_p0) (h_p1 : ok_qExpr I p1 w_p1) (hS : St E w I Os) {r : qExpr} (hr : r15_Place_fu fu p0 p1 = some r),
    Calls P 129 #[(.agg (cs_qTable p0 w_p0).toArray), (.agg (cs_qExpr p1 w_p1).toArray)] w (fun e w' => ∃ I' w_rw0, e = .returned (.agg (cs_qExpr r w_rw0).toArray) ∧ I.Le I' ∧ St E w' I' Os ∧ ok_qExpr I' r w_rw0) := by
 intro fu
 induction fu with
 | zero => intro E w I Os p0 p1 w_p0 w_p1 h_p0 h_p1 hS r hr; cases hr
 | succ fu ih =>
 intro E w I Os p0 p1 w_p0 w_p1 h_p0 h_p1 hS r hr
 refine calls_W (fn := Tryz.f129) rfl rfl rfl ?_
 unfold r15_Place_fu at hr
 refine yd nL3 ?_
 refine yx hS (cs_qTable p0 w_p0) 89 ?_
 intro b1 w4 hS3
 refine yx hS3 (cs_qExpr p1 w_p1) 39 ?_
 intro b5 w8 hS7
 refine yx hS7 (cs_qExpr z_qExpr zw_qExpr) 39 ?_
 intro b9 w12 hS11
 refine yb (ye (yd nL3 ?_))
 refine ya 0 7 (Pt b5 0) (yf (v := (Iv p1.Kind)) (hS11.rf m1) ?_)
 refine ya 2 9 (.bool (p1.Kind == 2)) (yb (W.cb hr (fun hc hr => ?_) (fun hc hr => ?_)))
 refine yd nL6 ?_
 refine yu ((cs_qTable p0 w_p0)) (hS11.rf m2) ?_
 refine ya 1 11 (Pt b5 5) (yf (v := (.string p1.Name)) (hS11.rf m1) ?_)
 obtain ⟨r18, hx_r13, hr⟩ := bsm hr
 refine y6 (r14_Col_ok h_p0 hS11 hx_r13) ?_
 intro I15 w14 hl16 hS17
 refine ya 4 14 (.agg (cs_qExpr ({ z_qExpr with Kind := 8, Op := r18 }) zw_qExpr).toArray) (yw hS17 0 (cs_qExpr ({ z_qExpr with Kind := 8, Op := r18 }) zw_qExpr) ?_)
 intro w20 hS19
 refine yb (W.ret (yc ?_))
 have hk24 : ok_qExpr I15 ({ z_qExpr with Kind := 8, Op := r18 }) zw_qExpr := ⟨SlAt.nil⟩
 obtain rfl := sj hr
 exact yay _ (hS19.rd m0) ⟨I15, zw_qExpr, rfl, hl16, hS19.drop.drop.drop, hk24⟩
 refine yg (En.next (yd nL11 ?_))
 refine ya 0 15 (Pt b5 0) (yf (v := (Iv p1.Kind)) (hS11.rf m1) ?_)
 refine ya 2 17 (Pt b5 1) (yf (v := (Iv p1.Op)) (hS11.rf m1) ?_)
 refine ya 4 19 (Pt b5 2) (yu ((cs_qValue p1.V)) (hS11.rf m1) ?_)
 refine ya 6 21 (Pt b5 5) (yf (v := (.string p1.Name)) (hS11.rf m1) ?_)
 refine ya 8 23 (.agg (cs_qExpr ({ p1 with Kids := ([] : List qExpr) }) (⟨⟨none, 0⟩⟩ : W_qExpr)).toArray) (yx hS11 (cs_qExpr z_qExpr zw_qExpr) 39 ?_)
 intro b25 w28 hS27
 refine yw hS27 0 (cs_qExpr ({ p1 with Kids := ([] : List qExpr) }) (⟨⟨none, 0⟩⟩ : W_qExpr)) ?_
 intro w30 hS29
 refine yb (ye (yd [0] ?_))
 refine ya 0 6 (Iv 0) (yb (W.block ?_))
 obtain ⟨s34, hloop36, hr⟩ := bsm hr
 have hlt46 := (h_p1.Kids).len_lt
 refine W.wk (W.forE (m := p1.Kids.length) hloop36 (fun (i35 : Nat) => fun (s34 : List qExpr) fr w => ∃ I32 a_s34 c_s34 C_s34, fr = [(2, Pt b1 0), (3, Pt b5 0), (4, Pt b9 0), (5, Pt b25 0), (6, Nv i35)] ∧ I.Le I32 ∧ St E w I32 ((Bx b1 (cs_qTable p0 w_p0) 89) :: (Bx b5 (cs_qExpr p1 w_p1) 39) :: (Bx b9 (cs_qExpr z_qExpr zw_qExpr) 39) :: (Bx b25 (cs_qExpr ({ p1 with Kids := s34 }) (⟨⟨a_s34, c_s34⟩⟩ : W_qExpr)) 39) :: (C_s34) :: Os) ∧ OwnSl 39 7 Q_qExpr I32 C_s34 a_s34 c_s34 s34) ⟨I, none, 0, Mem.no, rfl, lr, hS29.no.front1.front2.front3.front4, OwnSl.nil⟩ ?_ ?_)
 rintro i35 s34 _ w43 hi47 ⟨I32, a_s34, c_s34, C_s34, rfl, hl33, hS44, h_s34⟩ x45 hr1
 refine ye (yd nL5 ?_)
 refine WO.vs 0 [(24, Nv i35), (25, Pt b5 6)] (yf (v := (Sl w_p1.Kids.a p1.Kids w_p1.Kids.c)) (hS44.rf m1) ?_)
 refine WO.vs 3 [(27, Nv p1.Kids.length), (28, .bool (decide ((i35 : Int) < (p1.Kids.length : Int))))] (yb (yag (fun hc => ?_)))
 clear hc
 refine yg (En.next (ye (W.block ?_)))
 have hS48 := hS44.drew
 refine yao nL13 10 (KR.cons (hS48.rd m0) (KR.cons (hS48.rd m1) (KR.cons (hS48.rd m3) (KR.nil hS48.im)))) ?_
 generalize World.drew _ = w49 at *
 refine ya 0 31 (Pt b25 6) (yf (v := (Sl a_s34 s34 c_s34)) (rd_c m2 (hS48.rd m3)) ?_)
 refine yu ((cs_qTable p0 w_p0)) (rd_c m0 (hS48.rd m0)) ?_
 refine ya 3 34 (Pt b5 6) (yf (v := (Sl w_p1.Kids.a p1.Kids w_p1.Kids.c)) (rd_c m1 (hS48.rd m1)) ?_)
 refine ya 5 36 (Nv i35) ?_
 obtain ⟨x50, hx_x50, hr1⟩ := bsm hr1
 obtain ⟨h0_x50, h1_x50, hx_x50⟩ := idx_some hx_x50
 obtain ⟨ha_x50, cs_x50, hn_x50, hr_x50, hc_x50⟩ := ((RSl.mono h_p1.Kids hl33)).el _ _ hx_x50
 obtain ⟨w_x50, rfl, h_x50⟩ := Q_qExpr_iff.1 hr_x50
 refine yq 39 7 ha_x50 h0_x50 h1_x50 ?_
 refine yai ((cs_qExpr x50 w_x50)) hc_x50 0 (rd_i hS48.im) ?_
 obtain ⟨r56, hx_r51, hr1⟩ := bsm hr1
 refine y8 (ih (h_p0.mono hl33) h_x50 hS48 hx_r51) ?_
 rintro _ w52 ⟨I53, w_r56, rfl, hl54, hS55, h_r56⟩
 refine ⟨_, rfl, (KR.cons (hS55.rd m0) (KR.cons (hS55.rd m1) (KR.cons (hS55.rd m3) (KR.nil (hS55.im.of_le hl54))))), ?_⟩
 refine y3 (rel := Q_qExpr) (xs := ([r56] : List qExpr)) hS55 rfl (by kernel_rfl) rfl 39 7 [(cs_qExpr r56 w_r56)] (by kernel_rfl) rfl ((Elr.cons (Q_qExpr_iff.2 ⟨w_r56, rfl, h_r56⟩) Elr.nil)) (fun C58 w62 hS61 => (KR.cons (hS61.rd m1) (KR.cons (hS61.rd m2) (KR.cons (hS61.rd m4) (KR.nil (hS61.im.of_le hl54)))))) ?_
 intro a60 C58 w62 hS61 ho59
 refine WO.tail rfl ?_
 have hS64 := hS61.front5
 obtain ⟨x65, hx_x65, hr1⟩ := bsm hr1
 obtain ⟨h0_x65, he_x65⟩ := app_some hx_x65
 refine WO.ap 39 88 (cs_qExpr z_qExpr zw_qExpr) hS64 (OwnSl.mono h_s34 hl54) ho59.sl (hS64.rd m1) h0_x65 he_x65 ?_
 intro a66 c67 w68 C69 hS70 ho71
 refine ya 11 42 (Pt b25 6) (yw hS70.front1.drop.front4 6 (cs_qExpr ({ p1 with Kids := x65 }) (⟨⟨a66, c67⟩⟩ : W_qExpr)) ?_)
 intro w76 hS75
 refine WO.nil (yi (En.next (yaa nL3 ?_)))
 refine ya 0 29 (Nv i35) (y0 (j := i35) rfl (by kernel_rfl) rfl (by first | omega | (dsimp only at *; omega) | (simp only [List.length_cons, List.length_nil] at *; omega)) ?_)
 refine ya 2 6 (Iv ((i35 + 1 : Nat) : Int)) (WO.nil ?_)
 obtain rfl := sj hr1
 exact yo ⟨I53, a66, c67, C69, rfl, (hl33.trans hl54), hS75.front1.front1.front4.front4.front4, ho71⟩
 rintro _ w82 ⟨I32, a_s34, c_s34, C_s34, rfl, hl33, hS83, h_s34⟩
 refine ye (yd nL5 ?_)
 refine WO.vs 0 [(24, Nv p1.Kids.length), (25, Pt b5 6)] (yf (v := (Sl w_p1.Kids.a p1.Kids w_p1.Kids.c)) (hS83.rf m1) ?_)
 refine WO.vs 3 [(27, Nv p1.Kids.length), (28, .bool (decide ((p1.Kids.length : Int) < (p1.Kids.length : Int))))] (yb (yah (fun hc => ?_)))
 clear hc
 refine yy (yk (yl (yn (En.next (yd nL2 ?_)))))
 refine yu ((cs_qExpr ({ p1 with Kids := s34 }) (⟨⟨a_s34, c_s34⟩⟩ : W_qExpr))) (hS83.rf m3) ?_
 obtain ⟨I85, hl86, hS88, hp87⟩ := y4 h_s34 hS83.front4
 refine yw hS88.front2 0 (cs_qExpr ({ p1 with Kids := s34 }) (⟨⟨a_s34, c_s34⟩⟩ : W_qExpr)) ?_
 intro w91 hS90
 refine yb (W.ret ?_)
 have hk96 : ok_qExpr I85 ({ p1 with Kids := s34 }) (⟨⟨a_s34, c_s34⟩⟩ : W_qExpr) := ⟨hp87⟩
 obtain rfl := sj hr
 exact yay _ (hS90.rd m0) ⟨I85, (⟨⟨a_s34, c_s34⟩⟩ : W_qExpr), rfl, (hl33.trans hl86), hS90.drop.drop.drop.drop, hk96⟩
theorem r15_Place_ok {p0 : qTable} {p1 : qExpr} {w_p0 : W_qTable} {w_p1 : W_qExpr} (h_p0 : ok_qTable I p0 w_p0) (h_p1 : ok_qExpr I p1 w_p1) (hS : St E w I Os) {r : qExpr} (hr : r15_Place p0 p1 = some r) :
    Calls P 129 #[(.agg (cs_qTable p0 w_p0).toArray), (.agg (cs_qExpr p1 w_p1).toArray)] w (fun e w' => ∃ I' w_rw0, e = .returned (.agg (cs_qExpr r w_rw0).toArray) ∧ I.Le I' ∧ St E w' I' Os ∧ ok_qExpr I' r w_rw0) := by
 obtain ⟨fu, hf⟩ := anyFuel_some hr
 exact r15_Place_fu_ok fu h_p0 h_p1 hS hf
noncomputable def r15_Resolve (p0 : qTable) (p1 : qExpr) : Option (qExpr × Int) := (r10_Check p1 false).bind (fun r18 => (bif (r18 != 0) then some (z_qExpr, r18) else (r10_Names p1).bind (fun r29 => (forN (fun (i34 : Nat) => fun (s33 : qExpr) => (idx r29 (i34 : Int)).bind (fun x45 => (r14_Col p0 x45).bind (fun r51 => (bif ((decide (r51 < 0)) || (decide (r51 > 5))) then some (.inr ((4 : Int), z_qExpr)) else some (.inl s33))))) r29.length 0 z_qExpr).bind (fun (t : qExpr ⊕ ((Int × qExpr))) => match t with | .inl s33 => (r15_Place p0 p1).bind (fun r73 => some (r73, 0)) | .inr (s58, s59) => some (s59, s58)))))
theorem r15_Resolve_ok {p0 : qTable} {p1 : qExpr} {w_p0 : W_qTable} {w_p1 : W_qExpr} (h_p0 : ok_qTable I p0 w_p0) (h_p1 : ok_qExpr I p1 w_p1) (hS : St E w I Os) {r : qExpr × Int} (hr : r15_Resolve p0 p1 = some r) :
    Calls P 91 #[(.agg (cs_qTable p0 w_p0).toArray), (.agg (cs_qExpr p1 w_p1).toArray)] w (fun e w' => ∃ I' w_rw0, e = .returned (.tuple #[(.agg (cs_qExpr r.1 w_rw0).toArray), (Iv r.2)]) ∧ I.Le I' ∧ St E w' I' Os ∧ ok_qExpr I' r.1 w_rw0) := by
 refine calls_W (fn := Tryz.f91) rfl rfl rfl ?_
 unfold r15_Resolve at hr
 refine yd nL4 ?_
 refine yx hS (cs_qTable p0 w_p0) 89 ?_
 intro b1 w4 hS3
 refine yx hS3 (cs_qExpr p1 w_p1) 39 ?_
 intro b5 w8 hS7
 refine yx hS7 (cs_qExpr z_qExpr zw_qExpr) 39 ?_
 intro b9 w12 hS11
 refine ya 3 5 (Iv 0) (yz nL3 ?_)
 refine yu ((cs_qExpr p1 w_p1)) (hS11.rf m1) ?_
 obtain ⟨r18, hx_r13, hr⟩ := bsm hr
 refine y6 (r10_Check_ok h_p1 hS11 hx_r13) ?_
 intro I15 w14 hl16 hS17
 refine ya 2 6 (Iv r18) (yb (ye (yd nL2 ?_)))
 refine WO.vs 0 [(12, Iv r18), (13, .bool (r18 != 0))] (yb (W.cb hr (fun hc hr => ?_) (fun hc hr => ?_)))
 refine yd nL4 ?_
 refine WO.vs 0 [(14, .agg (cs_qExpr z_qExpr zw_qExpr).toArray), (15, Iv r18)] (yw hS17 0 (cs_qExpr z_qExpr zw_qExpr) ?_)
 intro w20 hS19
 refine ya 3 5 (Iv r18) (yb (W.ret (yc ?_)))
 obtain rfl := sj hr
 exact yak _ (hS19.rd m0) ⟨I15, zw_qExpr, rfl, hl16, hS19.drop.drop.drop, zok_qExpr⟩
 refine yg (En.next (yd nL3 ?_))
 refine yu ((cs_qExpr p1 w_p1)) (hS17.rf m1) ?_
 obtain ⟨r29, hx_r24, hr⟩ := bsm hr
 refine y8 (r10_Names_ok (h_p1.mono hl16) hS17 hx_r24) ?_
 rintro _ w25 ⟨I26, a_r29, c_r29, rfl, hl27, hS28, h_r29⟩
 refine ⟨_, rfl, trivial, ?_⟩
 refine ya 2 7 (Sl a_r29 r29 c_r29) (yb (ye (yd [0] ?_)))
 refine ya 0 8 (Iv 0) (yb (W.block ?_))
 obtain ⟨t30, hloop35, hr⟩ := bsm hr
 have hlt41 := (h_r29).len_lt
 refine W.wk (W.forN (m := r29.length) hloop35 (fun (i34 : Nat) => fun (s33 : qExpr) fr w => ∃ I31 w_s33, fr = [(2, Pt b1 0), (3, Pt b5 0), (4, Pt b9 0), (7, Sl a_r29 r29 c_r29), (8, Nv i34)] ∧ I26.Le I31 ∧ St E w I31 ((Bx b1 (cs_qTable p0 w_p0) 89) :: (Bx b5 (cs_qExpr p1 w_p1) 39) :: (Bx b9 (cs_qExpr s33 w_s33) 39) :: Os) ∧ ok_qExpr I31 s33 w_s33) ⟨I26, zw_qExpr, rfl, lr, hS28.front1.front2, zok_qExpr⟩ ?_ ?_)
 rintro i34 s33 _ w38 hi42 ⟨I31, w_s33, rfl, hl32, hS39, h_s33⟩ x40 hr1 hext30
 refine ye (yd nL4 ?_)
 refine WO.vs 0 [(18, Nv i34), (19, Sl a_r29 r29 c_r29), (20, Nv r29.length), (21, .bool (decide ((i34 : Int) < (r29.length : Int))))] (yb (yag (fun hc => ?_)))
 clear hc
 refine yg (En.next (ye (W.block (ye ?_))))
 have hS43 := hS39.drew
 refine yao nL7 5 (KR.cons (hS43.rd m0) (KR.nil hS43.im)) ?_
 generalize World.drew _ = w44 at *
 refine yu ((cs_qTable p0 w_p0)) (rd_c m0 (hS43.rd m0)) ?_
 refine WO.vs 1 [(25, Sl a_r29 r29 c_r29), (26, Nv i34)] ?_
 obtain ⟨x45, hr1, h0_x45, h1_x45, hx_x45, ha_x45, _, _, rfl, hc_x45⟩ := sl_at ((RSl.mono h_r29 hl32)) hr1
 refine yq 9 1 ha_x45 h0_x45 h1_x45 ?_
 refine yae (v := (.string x45)) hc_x45 (rd_i hS43.im) ?_
 refine WO.tail rfl ?_
 obtain ⟨r51, hx_r46, hr1⟩ := bsm hr1
 refine y6 (r14_Col_ok (h_p0.mono ((hl16.trans hl27).trans hl32)) hS43 hx_r46) ?_
 intro I48 w47 hl49 hS50
 refine ya 6 9 (Iv r51) (yz nL6 ?_)
 refine WO.vs 0 [(30, Iv r51), (31, .bool (decide (r51 < 0))), (32, .bool (decide (r51 < 0)))] (yac (l1 := [3, 4, 5]) 35 ((decide (r51 < 0)) || (decide (r51 > 5))) ?_ ?_)
 refine yp (decide (r51 < 0)) (fun hc => ?_) (fun hc => ?_)
 refine yj 32 hc ?_
 iterate 2 refine yt ?_
 exact ya 5 35 (.bool true) (WO.mk 32 hc (by rw [hc]; rfl))
 exact yj 32 hc (WO.vs 3 [(33, Iv r51), (34, .bool (decide (r51 > 5))), (35, .bool (decide (r51 > 5)))] (WO.mk 32 hc (by rw [hc]; rfl)))
 refine yb (W.cb hr1 (fun hc hr1 => ?_) (fun hc hr1 => ?_))
 refine yd nL3 ?_
 refine ya 0 36 (.agg (cs_qExpr z_qExpr zw_qExpr).toArray) (yw hS50.front2 0 (cs_qExpr z_qExpr zw_qExpr) ?_)
 intro w56 hS55
 refine ya 2 5 (Iv 4) (yb (W.ret (yh (yc (ym ?_)))))
 obtain rfl := hext30 _ (sj hr1).symm
 refine yh (yc ?_)
 obtain rfl := sj hr
 exact yak _ (hS55.rd m0) ⟨I48, zw_qExpr, rfl, (((hl16.trans hl27).trans hl32).trans hl49), hS55.drop.drop.drop, zok_qExpr⟩
 refine yg (yi (En.next (yaa nL3 ?_)))
 refine ya 0 22 (Nv i34) (y0 (j := i34) rfl (by kernel_rfl) rfl (by first | omega | (dsimp only at *; omega) | (simp only [List.length_cons, List.length_nil] at *; omega)) ?_)
 exact ya 2 8 (Iv ((i34 + 1 : Nat) : Int)) (WO.nil (yo ⟨s33, (sj hr1).symm, I48, w_s33, rfl, (hl32.trans hl49), hS50, (h_s33.mono hl49)⟩))
 rintro s33 _ w66 ⟨I31, w_s33, rfl, hl32, hS67, h_s33⟩ he
 cases he
 refine ye (yd nL4 ?_)
 refine WO.vs 0 [(18, Nv r29.length), (19, Sl a_r29 r29 c_r29), (20, Nv r29.length), (21, .bool (decide ((r29.length : Int) < (r29.length : Int))))] (yb (yah (fun hc => ?_)))
 clear hc
 refine yy (yk (yl (yn (En.next (yd nL5 ?_)))))
 refine yu ((cs_qTable p0 w_p0)) (hS67.rf m0) ?_
 refine yu ((cs_qExpr p1 w_p1)) (hS67.rf m1) ?_
 obtain ⟨r73, hx_r68, hr⟩ := bsm hr
 refine y8 (r15_Place_ok (h_p0.mono ((hl16.trans hl27).trans hl32)) (h_p1.mono ((hl16.trans hl27).trans hl32)) hS67 hx_r68) ?_
 rintro _ w69 ⟨I70, w_r73, rfl, hl71, hS72, h_r73⟩
 refine ⟨_, rfl, trivial, ?_⟩
 refine yw hS72.front2 0 (cs_qExpr r73 w_r73) ?_
 intro w76 hS75
 refine ya 4 5 (Iv 0) (yb (W.ret ?_))
 obtain rfl := sj hr
 exact yak _ (hS75.rd m0) ⟨I70, w_r73, rfl, (((hl16.trans hl27).trans hl32).trans hl71), hS75.drop.drop.drop, h_r73⟩
def r15_Cols (p0 : qTable) : Option (List Int) := (forE (fun (i9 : Nat) => fun (s8 : List Int) => (idx p0.Cols (i9 : Int)).bind (fun x19 => (app 8 s8 ([x19.Type_] : List Int)).bind (fun x28 => some x28))) p0.Cols.length 0 ([] : List Int)).bind (fun s8 => some s8)
theorem r15_Cols_ok {p0 : qTable} {w_p0 : W_qTable} (h_p0 : ok_qTable I p0 w_p0) (hS : St E w I Os) {r : (List Int)} (hr : r15_Cols p0 = some r) :
    Calls P 93 #[(.agg (cs_qTable p0 w_p0).toArray)] w (fun e w' => ∃ (I' : Mem) (ra0 : Option Addr) (rc0 : Nat), e = .returned (Sl ra0 r rc0) ∧ I.Le I' ∧ St E w' I' Os ∧ RSl 1 (RInt .i64) I' ra0 rc0 r) := by
 refine calls_W (fn := Tryz.f93) rfl rfl rfl ?_
 unfold r15_Cols at hr
 refine yd nL2 ?_
 refine yx hS (cs_qTable p0 w_p0) 89 ?_
 intro b1 w4 hS3
 refine ya 1 2 (.slice none 0 0) (yz [0] ?_)
 refine ya 0 3 (.slice none 0 0) (yb (ye (yd [0] ?_)))
 refine ya 0 4 (Iv 0) (yb (W.block ?_))
 obtain ⟨s8, hloop10, hr⟩ := bsm hr
 have hlt17 := (h_p0.Cols).len_lt
 refine W.wk (W.forE (m := p0.Cols.length) hloop10 (fun (i9 : Nat) => fun (s8 : List Int) fr w => ∃ I6 a_s8 c_s8 C_s8, fr = [(1, Pt b1 0), (3, Sl a_s8 s8 c_s8), (4, Nv i9)] ∧ I.Le I6 ∧ St E w I6 ((Bx b1 (cs_qTable p0 w_p0) 89) :: (C_s8) :: Os) ∧ OwnSl 3 1 (RInt .i64) I6 C_s8 a_s8 c_s8 s8) ⟨I, none, 0, Mem.no, rfl, lr, hS3.no.front1, OwnSl.nil⟩ ?_ ?_)
 rintro i9 s8 _ w14 hi18 ⟨I6, a_s8, c_s8, C_s8, rfl, hl7, hS15, h_s8⟩ x16 hr1
 refine ye (yd nL5 ?_)
 refine WO.vs 0 [(5, Nv i9), (6, Pt b1 3)] (yf (v := (Sl w_p0.Cols.a p0.Cols w_p0.Cols.c)) (hS15.rf m0) ?_)
 refine WO.vs 3 [(8, Nv p0.Cols.length), (9, .bool (decide ((i9 : Int) < (p0.Cols.length : Int))))] (yb (yag (fun hc => ?_)))
 clear hc
 refine yg (En.next (ye (W.block (yaa nL10 ?_))))
 refine WO.vs 0 [(12, Sl a_s8 s8 c_s8), (13, Pt b1 3)] (yf (v := (Sl w_p0.Cols.a p0.Cols w_p0.Cols.c)) (hS15.rf m0) ?_)
 refine ya 3 15 (Nv i9) ?_
 obtain ⟨x19, hr1, h0_x19, h1_x19, hx_x19, ha_x19, _, _, rfl, hc_x19⟩ := sl_at ((RSl.mono h_p0.Cols hl7)) hr1
 refine yq 73 3 ha_x19 h0_x19 h1_x19 ?_
 refine ya 5 17 (.pointer (some ⟨bl w_p0.Cols.a, of w_p0.Cols.a + ((i9 : Int)).toNat * 3 + 1, none⟩)) (WO.le (v := (Iv x19.Type_)) hc_x19 1 hS15.rm ?_)
 refine y3 (rel := (RInt .i64)) (xs := ([x19.Type_] : List Int)) hS15 rfl (by kernel_rfl) rfl 3 1 [[(Iv x19.Type_)]] (by kernel_rfl) rfl ((Elr.cons rfl Elr.nil)) (fun _ _ _ => trivial) ?_
 intro a23 C21 w25 hS24 ho22
 have hS27 := hS24.front2
 obtain ⟨x28, hx_x28, hr1⟩ := bsm hr1
 obtain ⟨h0_x28, he_x28⟩ := app_some hx_x28
 refine WO.ap 3 8 [(Iv 0)] hS27 h_s8 ho22.sl (hS27.rd m1) h0_x28 he_x28 ?_
 intro a29 c30 w31 C32 hS33 ho34
 refine ya 9 3 (Sl a29 x28 c30) (WO.nil (yi (En.next (yaa nL3 ?_))))
 refine ya 0 10 (Nv i9) (y0 (j := i9) rfl (by kernel_rfl) rfl (by first | omega | (dsimp only at *; omega) | (simp only [List.length_cons, List.length_nil] at *; omega)) ?_)
 refine ya 2 4 (Iv ((i9 + 1 : Nat) : Int)) (WO.nil ?_)
 obtain rfl := sj hr1
 exact yo ⟨I6, a29, c30, C32, rfl, hl7, hS33.front1.drop.front1, ho34⟩
 rintro _ w38 ⟨I6, a_s8, c_s8, C_s8, rfl, hl7, hS39, h_s8⟩
 refine ye (yd nL5 ?_)
 refine WO.vs 0 [(5, Nv p0.Cols.length), (6, Pt b1 3)] (yf (v := (Sl w_p0.Cols.a p0.Cols w_p0.Cols.c)) (hS39.rf m0) ?_)
 refine WO.vs 3 [(8, Nv p0.Cols.length), (9, .bool (decide ((p0.Cols.length : Int) < (p0.Cols.length : Int))))] (yb (yah (fun hc => ?_)))
 clear hc
 refine yy (yk (yl (yn (En.next (yd nL2 ?_)))))
 refine ya 0 21 (Sl a_s8 s8 c_s8) ?_
 obtain ⟨I41, hl42, hS44, hp43⟩ := y4 h_s8 hS39.front1
 refine ya 1 2 (Sl a_s8 s8 c_s8) (yb (W.ret ?_))
 obtain rfl := sj hr
 exact yr ⟨I41, a_s8, c_s8, rfl, (hl7.trans hl42), hS44.drop, hp43⟩
def r15_first (p0 : List Int) : Option Int := (forN (fun (i4 : Nat) => fun (_s : Unit) => (idx p0 (i4 : Int)).bind (fun x11 => (bif (x11 != 0) then (idx p0 (i4 : Int)).bind (fun x12 => some (.inr x12)) else some (.inl ())))) p0.length 0 ()).bind (fun (t : Unit ⊕ (Int)) => match t with | .inl _ => some 0 | .inr s14 => some s14)
theorem r15_first_ok {p0 : List Int} {a_p0 : Option Addr} {c_p0 : Nat} (h_p0 : RSl 1 (RInt .i64) I a_p0 c_p0 p0) (hS : St E w I Os) {r : Int} (hr : r15_first p0 = some r) :
    Calls P 192 #[(Sl a_p0 p0 c_p0)] w (fun e w' => ∃ I', e = .returned (Iv r) ∧ I.Le I' ∧ St E w' I' Os) := by
 refine calls_W (fn := Tryz.f192) rfl rfl rfl ?_
 unfold r15_first at hr
 refine yd [0] ?_
 refine ya 0 2 (Iv 0) (yb (ye (yd [0] ?_)))
 refine ya 0 3 (Iv 0) (yb (W.block ?_))
 obtain ⟨t1, hloop5, hr⟩ := bsm hr
 have hlt9 := (h_p0).len_lt
 refine W.wk (W.forN (m := p0.length) hloop5 (fun (i4 : Nat) => fun (_s : Unit) fr w => ∃ I2, fr = [(0, Sl a_p0 p0 c_p0), (3, Nv i4)] ∧ I.Le I2 ∧ St E w I2 Os) ⟨I, rfl, lr, hS⟩ ?_ ?_)
 rintro i4 _ _ w6 hi10 ⟨I2, rfl, hl3, hS7⟩ x8 hr1 hext1
 refine ye (yd nL4 ?_)
 refine WO.vs 0 [(4, Nv i4), (5, Sl a_p0 p0 c_p0), (6, Nv p0.length), (7, .bool (decide ((i4 : Int) < (p0.length : Int))))] (yb (yag (fun hc => ?_)))
 clear hc
 refine yg (En.next (ye (W.block (yd nL5 ?_))))
 refine WO.vs 0 [(10, Sl a_p0 p0 c_p0), (11, Nv i4)] ?_
 obtain ⟨x11, hr1, h0_x11, h1_x11, hx_x11, ha_x11, _, _, rfl, hc_x11⟩ := sl_at ((RSl.mono h_p0 hl3)) hr1
 refine yq 3 1 ha_x11 h0_x11 h1_x11 ?_
 refine yae (v := (Iv x11)) hc_x11 hS7.rm ?_
 refine ya 4 14 (.bool (x11 != 0)) (yb (W.cb hr1 (fun hc hr1 => ?_) (fun hc hr1 => ?_)))
 refine yd nL5 ?_
 refine WO.vs 0 [(15, Sl a_p0 p0 c_p0), (16, Nv i4)] ?_
 obtain ⟨x12, hr1, h0_x12, h1_x12, hx_x12, ha_x12, _, _, rfl, hc_x12⟩ := sl_at ((RSl.mono h_p0 hl3)) hr1
 refine yq 3 1 ha_x12 h0_x12 h1_x12 ?_
 refine yae (v := (Iv x12)) hc_x12 hS7.rm ?_
 refine ya 4 2 (Iv x12) (yb (W.ret (yh (yc (ym ?_)))))
 obtain rfl := hext1 _ (sj hr1).symm
 refine yh (yc ?_)
 obtain rfl := sj hr
 exact yr ⟨I2, rfl, hl3, hS7⟩
 refine yg (yi (En.next (yaa nL3 ?_)))
 refine ya 0 8 (Nv i4) (y0 (j := i4) rfl (by kernel_rfl) rfl (by first | omega | (dsimp only at *; omega) | (simp only [List.length_cons, List.length_nil] at *; omega)) ?_)
 exact ya 2 3 (Iv ((i4 + 1 : Nat) : Int)) (WO.nil (yo ⟨(), (sj hr1).symm, I2, rfl, hl3, hS7⟩))
 rintro _ _ w15 ⟨I2, rfl, hl3, hS16⟩ he
 cases he
 refine ye (yd nL4 ?_)
 refine WO.vs 0 [(4, Nv p0.length), (5, Sl a_p0 p0 c_p0), (6, Nv p0.length), (7, .bool (decide ((p0.length : Int) < (p0.length : Int))))] (yb (yah (fun hc => ?_)))
 clear hc
 refine yy (yk (yl (yn (En.next (yd [0] ?_)))))
 refine ya 0 2 (Iv 0) (yb (W.ret ?_))
 obtain rfl := sj hr
 exact yr ⟨I2, rfl, hl3, hS16⟩
def r15_all (p0 : List Int) (p1 : Int) : Option Bool := (forN (fun (i4 : Nat) => fun (_s : Unit) => (idx p0 (i4 : Int)).bind (fun x11 => ((bif (x11 != 0) then (idx p0 (i4 : Int)).bind (fun x16 => some (x16 != p1)) else some false)).bind (fun (j12 : Bool) => (bif j12 then some (.inr false) else some (.inl ()))))) p0.length 0 ()).bind (fun (t : Unit ⊕ (Bool)) => match t with | .inl _ => some true | .inr s20 => some s20)
theorem r15_all_ok {p0 : List Int} {p1 : Int} {a_p0 : Option Addr} {c_p0 : Nat} (h_p0 : RSl 1 (RInt .i64) I a_p0 c_p0 p0) (hS : St E w I Os) {r : Bool} (hr : r15_all p0 p1 = some r) :
    Calls P 193 #[(Sl a_p0 p0 c_p0), (Iv p1)] w (fun e w' => ∃ I', e = .returned (.bool r) ∧ I.Le I' ∧ St E w' I' Os) := by
 refine calls_W (fn := Tryz.f193) rfl rfl rfl ?_
 unfold r15_all at hr
 refine yd [0] ?_
 refine ya 0 4 (.bool false) (yb (ye (yd [0] ?_)))
 refine ya 0 5 (Iv 0) (yb (W.block ?_))
 obtain ⟨t1, hloop5, hr⟩ := bsm hr
 have hlt9 := (h_p0).len_lt
 refine W.wk (W.forN (m := p0.length) hloop5 (fun (i4 : Nat) => fun (_s : Unit) fr w => ∃ I2, fr = [(0, Sl a_p0 p0 c_p0), (1, Iv p1), (5, Nv i4)] ∧ I.Le I2 ∧ St E w I2 Os) ⟨I, rfl, lr, hS⟩ ?_ ?_)
 rintro i4 _ _ w6 hi10 ⟨I2, rfl, hl3, hS7⟩ x8 hr1 hext1
 refine ye (yd nL4 ?_)
 refine WO.vs 0 [(6, Nv i4), (7, Sl a_p0 p0 c_p0), (8, Nv p0.length), (9, .bool (decide ((i4 : Int) < (p0.length : Int))))] (yb (yag (fun hc => ?_)))
 clear hc
 refine yg (En.next (ye (W.block (yd nL13 ?_))))
 refine WO.vs 0 [(12, Sl a_p0 p0 c_p0), (13, Nv i4)] ?_
 obtain ⟨x11, hr1, h0_x11, h1_x11, hx_x11, ha_x11, _, _, rfl, hc_x11⟩ := sl_at ((RSl.mono h_p0 hl3)) hr1
 refine yq 3 1 ha_x11 h0_x11 h1_x11 ?_
 refine yae (v := (Iv x11)) hc_x11 hS7.rm ?_
 refine WO.vs 4 [(16, .bool (x11 != 0)), (17, .bool (x11 != 0))] ?_
 obtain ⟨j12, hr2, hr1⟩ := bsm hr1
 refine WO.jw (l1 := [6, 7, 8, 9, 10, 11, 12]) (J := (fun fr w => ∃ I14, fr = [(0, Sl a_p0 p0 c_p0), (1, Iv p1), (5, Nv i4), (24, .bool j12)] ∧ I2.Le I14 ∧ St E w I14 Os)) ?_ ?_
 refine WO.cb hr2 (fun hc hr2 => ?_) (fun hc hr2 => ?_)
 refine yj 17 hc (WO.vs 6 [(18, Sl a_p0 p0 c_p0), (19, Nv i4)] ?_)
 obtain ⟨x16, hr2, h0_x16, h1_x16, hx_x16, ha_x16, _, _, rfl, hc_x16⟩ := sl_at ((RSl.mono h_p0 hl3)) hr2
 refine yq 3 1 ha_x16 h0_x16 h1_x16 ?_
 refine yae (v := (Iv x16)) hc_x16 hS7.rm ?_
 refine WO.vs 10 [(22, Iv p1), (23, .bool (x16 != p1)), (24, .bool (x16 != p1))] ?_
 obtain rfl := sj hr2
 exact yv ⟨I2, rfl, lr, hS7⟩
 refine yj 17 hc ?_
 iterate 6 refine yt ?_
 refine ya 12 24 (.bool false) ?_
 obtain rfl := sj hr2
 exact yv ⟨I2, rfl, lr, hS7⟩
 rintro _ w17 ⟨I14, rfl, hl15, hS18⟩
 refine yb (W.cb hr1 (fun hc hr1 => ?_) (fun hc hr1 => ?_))
 refine yd [0] ?_
 refine ya 0 4 (.bool false) (yb (W.ret (yh (yc (ym ?_)))))
 obtain rfl := hext1 _ (sj hr1).symm
 refine yh (yc ?_)
 obtain rfl := sj hr
 exact yr ⟨I14, rfl, (hl3.trans hl15), hS18⟩
 refine yg (yi (En.next (yaa nL3 ?_)))
 refine ya 0 10 (Nv i4) (y0 (j := i4) rfl (by kernel_rfl) rfl (by first | omega | (dsimp only at *; omega) | (simp only [List.length_cons, List.length_nil] at *; omega)) ?_)
 exact ya 2 5 (Iv ((i4 + 1 : Nat) : Int)) (WO.nil (yo ⟨(), (sj hr1).symm, I14, rfl, (hl3.trans hl15), hS18⟩))
 rintro _ _ w21 ⟨I2, rfl, hl3, hS22⟩ he
 cases he
 refine ye (yd nL4 ?_)
 refine WO.vs 0 [(6, Nv p0.length), (7, Sl a_p0 p0 c_p0), (8, Nv p0.length), (9, .bool (decide ((p0.length : Int) < (p0.length : Int))))] (yb (yah (fun hc => ?_)))
 clear hc
 refine yy (yk (yl (yn (En.next (yd [0] ?_)))))
 refine ya 0 4 (.bool true) (yb (W.ret ?_))
 obtain rfl := sj hr
 exact yr ⟨I2, rfl, hl3, hS22⟩
def r15_made (p0 : qExpr) (p1 : List Int) : Option Int := (bif ((p0.Kind == 4) && (decide (p0.Op > 2))) then some 2 else (some (((p0.Kind == 4) && (p0.Op == 2)) || ((p0.Kind == 5) && (decide (p0.Op ≤ 2))))).bind (fun (q12 : Bool) => ((bif q12 then some (.inl ((2 : Int), (2 : Int))) else ((bif ((p0.Kind == 5) && (decide (p0.Op ≤ 8))) then (r15_first p1).bind (fun r35 => some (.inl (r35, (2 : Int)))) else ((bif ((p0.Kind == 5) && (p0.Op == 14)) then some (.inl ((3 : Int), (3 : Int))) else ((bif (p0.Kind == 6) then (idx p1 0).bind (fun x52 => some (x52 == 0)) else some false)).bind (fun (j48 : Bool) => (bif j48 then some (.inr 2) else ((bif (p0.Kind == 6) then (idx p1 0).bind (fun x69 => some (x69, (2 : Int))) else (some ((p0.Kind == 7) && (sEq p0.Name (⟨#[108, 101, 110, 103, 116, 104]⟩ : ByteArray)))).bind (fun (q73 : Bool) => ((bif q73 then some ((3 : Int), (1 : Int)) else (some ((p0.Kind == 7) && (sEq p0.Name (⟨#[99, 111, 97, 108, 101, 115, 99, 101]⟩ : ByteArray)))).bind (fun (q83 : Bool) => ((bif q83 then (r15_first p1).bind (fun r95 => (r15_first p1).bind (fun r101 => some (r95, r101))) else some ((1 : Int), (1 : Int)))).bind (fun ((s102, s103) : Int × Int) => some (s102, s103))))).bind (fun ((s80, s81) : Int × Int) => some (s80, s81))))).bind (fun ((s70, s71) : Int × Int) => some (.inl (s70, s71))))))).bind (fun (t : (Int × Int) ⊕ Int) => match t with | (.inl (s45, s46)) => some (.inl (s45, s46)) | (.inr s56) => some (.inr s56)))).bind (fun (t : (Int × Int) ⊕ Int) => match t with | (.inl (s36, s37)) => some (.inl (s36, s37)) | (.inr s58) => some (.inr s58)))).bind (fun (t : (Int × Int) ⊕ Int) => match t with | (.inl (s21, s22)) => (r15_all p1 s21).bind (fun r123 => (bif (!r123) then some (-1) else some s22)) | (.inr s60) => some s60)))
theorem r15_made_ok {p0 : qExpr} {p1 : List Int} {w_p0 : W_qExpr} {a_p1 : Option Addr} {c_p1 : Nat} (h_p0 : ok_qExpr I p0 w_p0) (h_p1 : RSl 1 (RInt .i64) I a_p1 c_p1 p1) (hS : St E w I Os) {r : Int} (hr : r15_made p0 p1 = some r) :
    Calls P 169 #[(.agg (cs_qExpr p0 w_p0).toArray), (Sl a_p1 p1 c_p1)] w (fun e w' => ∃ I', e = .returned (Iv r) ∧ I.Le I' ∧ St E w' I' Os) := by
 refine calls_W (fn := Tryz.f169) rfl rfl rfl ?_
 unfold r15_made at hr
 refine yd nL2 ?_
 refine yx hS (cs_qExpr p0 w_p0) 39 ?_
 intro b1 w4 hS3
 refine ya 1 4 (Iv 0) (yz nL2 ?_)
 refine WO.vs 0 [(5, Iv 1), (6, Iv 1)] (yb (ye (W.block (yd nL9 ?_))))
 refine ya 0 8 (Pt b1 0) (yf (v := (Iv p0.Kind)) (hS3.rf m0) ?_)
 refine WO.vs 2 [(10, .bool (p0.Kind == 4)), (11, .bool (p0.Kind == 4))] (yac (l1 := [4, 5, 6, 7]) 15 ((p0.Kind == 4) && (decide (p0.Op > 2))) ?_ ?_)
 refine yp (p0.Kind == 4) (fun hc => ?_) (fun hc => ?_)
 refine yj 11 hc (ya 4 12 (Pt b1 1) (yf (v := (Iv p0.Op)) (hS3.rf m0) ?_))
 exact WO.vs 6 [(14, .bool (decide (p0.Op > 2))), (15, .bool (decide (p0.Op > 2)))] (WO.mk 11 hc (by rw [hc]; rfl))
 refine yj 11 hc ?_
 iterate 3 refine yt ?_
 exact ya 7 15 (.bool false) (WO.mk 11 hc (by rw [hc]; rfl))
 refine ya 8 7 (.bool ((p0.Kind == 4) && (decide (p0.Op > 2)))) (yb (W.cb hr (fun hc hr => ?_) (fun hc hr => ?_)))
 refine yd [0] ?_
 refine ya 0 4 (Iv 2) (yb (W.ret (yh (yc ?_))))
 obtain rfl := sj hr
 exact yr ⟨I, rfl, lr, hS3.drop⟩
 refine yd nL19 ?_
 refine ya 0 17 (Pt b1 0) (yf (v := (Iv p0.Kind)) (hS3.rf m0) ?_)
 refine WO.vs 2 [(19, .bool (p0.Kind == 4)), (20, .bool (p0.Kind == 4))] (yac (l1 := [4, 5, 6, 7]) 24 ((p0.Kind == 4) && (p0.Op == 2)) ?_ ?_)
 refine yp (p0.Kind == 4) (fun hc => ?_) (fun hc => ?_)
 refine yj 20 hc (ya 4 21 (Pt b1 1) (yf (v := (Iv p0.Op)) (hS3.rf m0) ?_))
 exact WO.vs 6 [(23, .bool (p0.Op == 2)), (24, .bool (p0.Op == 2))] (WO.mk 20 hc (by rw [hc]; rfl))
 refine yj 20 hc ?_
 iterate 3 refine yt ?_
 exact ya 7 24 (.bool false) (WO.mk 20 hc (by rw [hc]; rfl))
 refine ya 8 25 (.bool ((p0.Kind == 4) && (p0.Op == 2))) ?_
 obtain ⟨q12, hx_q12, hr⟩ := bsm hr
 replace hx_q12 := sj hx_q12
 refine yac (l1 := [9, 10, 11, 12, 13, 14, 15, 16, 17]) 34 q12 ?_ ?_
 refine yp ((p0.Kind == 4) && (p0.Op == 2)) (fun hc => ?_) (fun hc => ?_)
 refine yj 25 hc ?_
 iterate 8 refine yt ?_
 exact ya 17 34 (.bool true) (WO.mk 25 hc (by rw [← hx_q12, hc]; rfl))
 refine yj 25 hc (ya 9 26 (Pt b1 0) (yf (v := (Iv p0.Kind)) (hS3.rf m0) ?_))
 refine WO.vs 11 [(28, .bool (p0.Kind == 5)), (29, .bool (p0.Kind == 5))] (yac (l1 := [13, 14, 15, 16]) 33 ((p0.Kind == 5) && (decide (p0.Op ≤ 2))) ?_ ?_)
 refine yp (p0.Kind == 5) (fun hc => ?_) (fun hc => ?_)
 refine yj 29 hc (ya 13 30 (Pt b1 1) (yf (v := (Iv p0.Op)) (hS3.rf m0) ?_))
 exact WO.vs 15 [(32, .bool (decide (p0.Op ≤ 2))), (33, .bool (decide (p0.Op ≤ 2)))] (WO.mk 29 hc (by rw [hc]; rfl))
 refine yj 29 hc ?_
 iterate 3 refine yt ?_
 exact ya 16 33 (.bool false) (WO.mk 29 hc (by rw [hc]; rfl))
 exact ya 17 34 (.bool ((p0.Kind == 5) && (decide (p0.Op ≤ 2)))) (WO.mk 25 hc (by rw [← hx_q12, hc]; rfl))
 refine ya 18 16 (.bool q12) (yb ?_)
 obtain ⟨j17, hr1, hr⟩ := bsm hr
 refine W.jw (J := (fun fr w => ∃ (s21 : Int) (s22 : Int), ∃ I19, (.inl (s21, s22)) = j17 ∧ fr = [(1, Sl a_p1 p1 c_p1), (5, Iv s21), (6, Iv s22)] ∧ I.Le I19 ∧ St E w I19 Os)) ?_ ?_
 refine W.cb hr1 (fun hc hr1 => ?_) (fun hc hr1 => ?_)
 refine yd [0] ?_
 refine ya 0 5 (Iv 2) (yb (yaa [0] ?_))
 exact ya 0 6 (Iv 2) (WO.nil (yo ⟨2, 2, I, sj hr1, rfl, lr, hS3.drop⟩))
 refine yd nL9 ?_
 refine ya 0 36 (Pt b1 0) (yf (v := (Iv p0.Kind)) (hS3.rf m0) ?_)
 refine WO.vs 2 [(38, .bool (p0.Kind == 5)), (39, .bool (p0.Kind == 5))] (yac (l1 := [4, 5, 6, 7]) 43 ((p0.Kind == 5) && (decide (p0.Op ≤ 8))) ?_ ?_)
 refine yp (p0.Kind == 5) (fun hc => ?_) (fun hc => ?_)
 refine yj 39 hc (ya 4 40 (Pt b1 1) (yf (v := (Iv p0.Op)) (hS3.rf m0) ?_))
 exact WO.vs 6 [(42, .bool (decide (p0.Op ≤ 8))), (43, .bool (decide (p0.Op ≤ 8)))] (WO.mk 39 hc (by rw [hc]; rfl))
 refine yj 39 hc ?_
 iterate 3 refine yt ?_
 exact ya 7 43 (.bool false) (WO.mk 39 hc (by rw [hc]; rfl))
 refine ya 8 35 (.bool ((p0.Kind == 5) && (decide (p0.Op ≤ 8)))) (yb ?_)
 obtain ⟨j26, hr2, hr1⟩ := bsm hr1
 refine W.jw (J := (fun fr w => ∃ (s36 : Int) (s37 : Int), ∃ I28, (.inl (s36, s37)) = j26 ∧ fr = [(1, Sl a_p1 p1 c_p1), (5, Iv s36), (6, Iv s37)] ∧ I.Le I28 ∧ St E w I28 Os)) ?_ ?_
 refine W.cb hr2 (fun hc hr2 => ?_) (fun hc hr2 => ?_)
 refine yd nL3 ?_
 refine ya 0 44 (Sl a_p1 p1 c_p1) ?_
 obtain ⟨r35, hx_r30, hr2⟩ := bsm hr2
 refine y6 (r15_first_ok h_p1 hS3 hx_r30) ?_
 intro I32 w31 hl33 hS34
 refine ya 2 5 (Iv r35) (yb (yaa [0] ?_))
 exact ya 0 6 (Iv 2) (WO.nil (yo ⟨r35, 2, I32, sj hr2, rfl, hl33, hS34.drop⟩))
 refine yd nL9 ?_
 refine ya 0 47 (Pt b1 0) (yf (v := (Iv p0.Kind)) (hS3.rf m0) ?_)
 refine WO.vs 2 [(49, .bool (p0.Kind == 5)), (50, .bool (p0.Kind == 5))] (yac (l1 := [4, 5, 6, 7]) 54 ((p0.Kind == 5) && (p0.Op == 14)) ?_ ?_)
 refine yp (p0.Kind == 5) (fun hc => ?_) (fun hc => ?_)
 refine yj 50 hc (ya 4 51 (Pt b1 1) (yf (v := (Iv p0.Op)) (hS3.rf m0) ?_))
 exact WO.vs 6 [(53, .bool (p0.Op == 14)), (54, .bool (p0.Op == 14))] (WO.mk 50 hc (by rw [hc]; rfl))
 refine yj 50 hc ?_
 iterate 3 refine yt ?_
 exact ya 7 54 (.bool false) (WO.mk 50 hc (by rw [hc]; rfl))
 refine ya 8 46 (.bool ((p0.Kind == 5) && (p0.Op == 14))) (yb ?_)
 obtain ⟨j41, hr3, hr2⟩ := bsm hr2
 refine W.jw (J := (fun fr w => ∃ (s45 : Int) (s46 : Int), ∃ I43, (.inl (s45, s46)) = j41 ∧ fr = [(1, Sl a_p1 p1 c_p1), (5, Iv s45), (6, Iv s46)] ∧ I.Le I43 ∧ St E w I43 Os)) ?_ ?_
 refine W.cb hr3 (fun hc hr3 => ?_) (fun hc hr3 => ?_)
 refine yd [0] ?_
 refine ya 0 5 (Iv 3) (yb (yaa [0] ?_))
 exact ya 0 6 (Iv 3) (WO.nil (yo ⟨3, 3, I, sj hr3, rfl, lr, hS3.drop⟩))
 refine yd nL10 ?_
 refine ya 0 56 (Pt b1 0) (yf (v := (Iv p0.Kind)) (hS3.rf m0) ?_)
 refine WO.vs 2 [(58, .bool (p0.Kind == 6)), (59, .bool (p0.Kind == 6))] ?_
 obtain ⟨j48, hr4, hr3⟩ := bsm hr3
 refine WO.jw (l1 := [4, 5, 6, 7, 8]) (J := (fun fr w => ∃ I50, fr = [(1, Sl a_p1 p1 c_p1), (2, Pt b1 0), (5, Iv 1), (6, Iv 1), (64, .bool j48)] ∧ I.Le I50 ∧ St E w I50 ((Bx b1 (cs_qExpr p0 w_p0) 39) :: Os))) ?_ ?_
 refine WO.cb hr4 (fun hc hr4 => ?_) (fun hc hr4 => ?_)
 refine yj 59 hc (ya 4 60 (Sl a_p1 p1 c_p1) ?_)
 obtain ⟨x52, hr4, h0_x52, h1_x52, hx_x52, ha_x52, _, _, rfl, hc_x52⟩ := sl_at (h_p1) hr4
 refine yq 3 1 ha_x52 h0_x52 h1_x52 ?_
 refine yae (v := (Iv x52)) hc_x52 hS3.rm ?_
 refine WO.vs 7 [(63, .bool (x52 == 0)), (64, .bool (x52 == 0))] ?_
 obtain rfl := sj hr4
 exact yv ⟨I, rfl, lr, hS3⟩
 refine yj 59 hc ?_
 iterate 4 refine yt ?_
 refine ya 8 64 (.bool false) ?_
 obtain rfl := sj hr4
 exact yv ⟨I, rfl, lr, hS3⟩
 rintro _ w53 ⟨I50, rfl, hl51, hS54⟩
 refine ya 9 55 (.bool j48) (yb (W.cb hr3 (fun hc hr3 => ?_) (fun hc hr3 => ?_)))
 refine yd [0] ?_
 refine ya 0 4 (Iv 2) (yb (W.ret (ym ?_)))
 obtain rfl := sj hr3
 refine ym ?_
 obtain rfl := sj hr2
 refine ym ?_
 obtain rfl := sj hr1
 refine yh (yc ?_)
 obtain rfl := sj hr
 exact yr ⟨I50, rfl, hl51, hS54.drop⟩
 refine yd nL4 ?_
 refine ya 0 66 (Pt b1 0) (yf (v := (Iv p0.Kind)) (hS54.rf m0) ?_)
 refine WO.vs 2 [(68, .bool (p0.Kind == 6)), (65, .bool (p0.Kind == 6))] (yb ?_)
 obtain ⟨j65, hr4, hr3⟩ := bsm hr3
 refine W.jw (J := (fun fr w => ∃ (s70 : Int) (s71 : Int), ∃ I67, (s70, s71) = j65 ∧ fr = [(1, Sl a_p1 p1 c_p1), (5, Iv s70), (6, Iv s71)] ∧ I50.Le I67 ∧ St E w I67 Os)) ?_ ?_
 refine W.cb hr4 (fun hc hr4 => ?_) (fun hc hr4 => ?_)
 refine yd nL4 ?_
 refine ya 0 69 (Sl a_p1 p1 c_p1) ?_
 obtain ⟨x69, hr4, h0_x69, h1_x69, hx_x69, ha_x69, _, _, rfl, hc_x69⟩ := sl_at ((RSl.mono h_p1 hl51)) hr4
 refine yq 3 1 ha_x69 h0_x69 h1_x69 ?_
 refine yae (v := (Iv x69)) hc_x69 hS54.rm ?_
 refine ya 3 5 (Iv x69) (yb (yaa [0] ?_))
 exact ya 0 6 (Iv 2) (WO.nil (yo ⟨x69, 2, I50, sj hr4, rfl, lr, hS54.drop⟩))
 refine yd nL9 ?_
 refine ya 0 73 (Pt b1 0) (yf (v := (Iv p0.Kind)) (hS54.rf m0) ?_)
 refine WO.vs 2 [(75, .bool (p0.Kind == 7)), (76, .bool (p0.Kind == 7))] ?_
 obtain ⟨q73, hx_q73, hr4⟩ := bsm hr4
 replace hx_q73 := sj hx_q73
 refine yac (l1 := [4, 5, 6, 7]) 80 q73 ?_ ?_
 refine yp (p0.Kind == 7) (fun hc => ?_) (fun hc => ?_)
 refine yj 76 hc (ya 4 77 (Pt b1 5) (yf (v := (.string p0.Name)) (hS54.rf m0) ?_))
 exact WO.vs 6 [(79, .bool (sEq p0.Name (⟨#[108, 101, 110, 103, 116, 104]⟩ : ByteArray))), (80, .bool (sEq p0.Name (⟨#[108, 101, 110, 103, 116, 104]⟩ : ByteArray)))] (WO.mk 76 hc (by rw [← hx_q73, hc]; rfl))
 refine yj 76 hc ?_
 iterate 3 refine yt ?_
 exact ya 7 80 (.bool false) (WO.mk 76 hc (by rw [← hx_q73, hc]; rfl))
 refine ya 8 72 (.bool q73) (yb ?_)
 obtain ⟨j76, hr5, hr4⟩ := bsm hr4
 refine W.jw (J := (fun fr w => ∃ (s80 : Int) (s81 : Int), ∃ I78, (s80, s81) = j76 ∧ fr = [(1, Sl a_p1 p1 c_p1), (5, Iv s80), (6, Iv s81)] ∧ I50.Le I78 ∧ St E w I78 Os)) ?_ ?_
 refine W.cb hr5 (fun hc hr5 => ?_) (fun hc hr5 => ?_)
 refine yaa [0] ?_
 exact ya 0 5 (Iv 3) (WO.nil (yo ⟨3, 1, I50, sj hr5, rfl, lr, hS54.drop⟩))
 refine yd nL9 ?_
 refine ya 0 82 (Pt b1 0) (yf (v := (Iv p0.Kind)) (hS54.rf m0) ?_)
 refine WO.vs 2 [(84, .bool (p0.Kind == 7)), (85, .bool (p0.Kind == 7))] ?_
 obtain ⟨q83, hx_q83, hr5⟩ := bsm hr5
 replace hx_q83 := sj hx_q83
 refine yac (l1 := [4, 5, 6, 7]) 89 q83 ?_ ?_
 refine yp (p0.Kind == 7) (fun hc => ?_) (fun hc => ?_)
 refine yj 85 hc (ya 4 86 (Pt b1 5) (yf (v := (.string p0.Name)) (hS54.rf m0) ?_))
 exact WO.vs 6 [(88, .bool (sEq p0.Name (⟨#[99, 111, 97, 108, 101, 115, 99, 101]⟩ : ByteArray))), (89, .bool (sEq p0.Name (⟨#[99, 111, 97, 108, 101, 115, 99, 101]⟩ : ByteArray)))] (WO.mk 85 hc (by rw [← hx_q83, hc]; rfl))
 refine yj 85 hc ?_
 iterate 3 refine yt ?_
 exact ya 7 89 (.bool false) (WO.mk 85 hc (by rw [← hx_q83, hc]; rfl))
 refine ya 8 81 (.bool q83) (yb ?_)
 obtain ⟨j86, hr6, hr5⟩ := bsm hr5
 refine W.jw (J := (fun fr w => ∃ (s102 : Int) (s103 : Int), ∃ I88, (s102, s103) = j86 ∧ fr = [(1, Sl a_p1 p1 c_p1), (5, Iv s102), (6, Iv s103)] ∧ I50.Le I88 ∧ St E w I88 Os)) ?_ ?_
 refine W.cb hr6 (fun hc hr6 => ?_) (fun hc hr6 => ?_)
 refine yd nL3 ?_
 refine ya 0 90 (Sl a_p1 p1 c_p1) ?_
 obtain ⟨r95, hx_r90, hr6⟩ := bsm hr6
 refine y6 (r15_first_ok (RSl.mono h_p1 hl51) hS54 hx_r90) ?_
 intro I92 w91 hl93 hS94
 refine ya 2 5 (Iv r95) (yb (yaa nL3 ?_))
 refine ya 0 92 (Sl a_p1 p1 c_p1) ?_
 obtain ⟨r101, hx_r96, hr6⟩ := bsm hr6
 refine y6 (r15_first_ok (RSl.mono h_p1 (hl51.trans hl93)) hS94 hx_r96) ?_
 intro I98 w97 hl99 hS100
 exact ya 2 6 (Iv r101) (WO.nil (yo ⟨r95, r101, I98, sj hr6, rfl, (hl93.trans hl99), hS100.drop⟩))
 exact yg (yo ⟨1, 1, I50, sj hr6, rfl, lr, hS54.drop⟩)
 rintro _ w106 ⟨s102, s103, I88, rfl, rfl, hl89, hS107⟩
 exact yo ⟨s102, s103, I88, sj hr5, rfl, hl89, hS107⟩
 rintro _ w108 ⟨s80, s81, I78, rfl, rfl, hl79, hS109⟩
 exact yo ⟨s80, s81, I78, sj hr4, rfl, hl79, hS109⟩
 rintro _ w110 ⟨s70, s71, I67, rfl, rfl, hl68, hS111⟩
 exact yo ⟨s70, s71, I67, sj hr3, rfl, (hl51.trans hl68), hS111⟩
 rintro _ w112 ⟨s45, s46, I43, rfl, rfl, hl44, hS113⟩
 exact yo ⟨s45, s46, I43, sj hr2, rfl, hl44, hS113⟩
 rintro _ w114 ⟨s36, s37, I28, rfl, rfl, hl29, hS115⟩
 exact yo ⟨s36, s37, I28, sj hr1, rfl, hl29, hS115⟩
 rintro _ w116 ⟨s21, s22, I19, rfl, rfl, hl20, hS117⟩
 refine yi (En.next (ye (yd nL4 ?_)))
 refine WO.vs 0 [(94, Sl a_p1 p1 c_p1), (95, Iv s21)] ?_
 obtain ⟨r123, hx_r118, hr⟩ := bsm hr
 refine y6 (r15_all_ok (RSl.mono h_p1 hl20) hS117 hx_r118) ?_
 intro I120 w119 hl121 hS122
 refine ya 3 97 (.bool (!r123)) (yb (W.cb hr (fun hc hr => ?_) (fun hc hr => ?_)))
 refine yd [0] ?_
 refine ya 0 4 (Iv (-1)) (yb (W.ret (yc ?_)))
 obtain rfl := sj hr
 exact yr ⟨I120, rfl, (hl20.trans hl121), hS122⟩
 refine yg (En.next (yd nL2 ?_))
 refine WO.vs 0 [(98, Iv s22), (4, Iv s22)] (yb (W.ret ?_))
 obtain rfl := sj hr
 exact yr ⟨I120, rfl, (hl20.trans hl121), hS122⟩
def r15_find_fu : Nat → qExpr → (List Int) → (List Int) → Option (Int × Int)
  | 0, _, _, _ => none
  | fu + 1, p0, p1, p2 => (bif (p0.Kind == 1) then some (p0.V.Kind, 0) else (bif (p0.Kind == 2) then some (0, 4) else ((bif (p0.Kind == 3) then some (p2, (w64 (p0.Op - 1))) else some (p1, p0.Op))).bind (fun ((s13, s14) : (List Int) × Int) => (bif ((p0.Kind == 3) || (p0.Kind == 8)) then (bif (decide (s14 ≥ (s13.length : Int))) then some (0, 37) else (idx s13 s14).bind (fun x20 => ((bif (decide (x20 < 0)) then some true else (idx s13 s14).bind (fun x26 => some (decide (x26 > 3))))).bind (fun (j21 : Bool) => (bif j21 then some (0, 11) else (idx s13 s14).bind (fun x30 => some (x30, 0)))))) else (forN (fun (i35 : Nat) => fun (s34 : List Int) => (idx p0.Kids (i35 : Int)).bind (fun x45 => (r15_find_fu fu x45 p1 p2).bind (fun (r51, r52) => (bif (r52 != 0) then some (.inr ((0 : Int), r52)) else (app 8 s34 ([r51] : List Int)).bind (fun x68 => some (.inl x68)))))) p0.Kids.length 0 ([] : List Int)).bind (fun (t : (List Int) ⊕ ((Int × Int))) => match t with | .inl s34 => (r15_made p0 s34).bind (fun r88 => (bif (decide (r88 < 0)) then some (0, 11) else some (r88, 0))) | .inr (s54, s55) => some (s54, s55))))))
noncomputable def r15_find (p0 : qExpr) (p1 : List Int) (p2 : List Int) : Option (Int × Int) := anyFuel (fun fu => r15_find_fu fu p0 p1 p2)
theorem r15_find_fu_ok : ∀ (fu : Nat) {E w : World} {I : Mem} {Os : List Mem} {p0 : qExpr} {p1 : List Int} {p2 : List Int} {w_p0 : W_qExpr} {a_p1 : Option Addr} {c_p1 : Nat} {a_p2 : Option Addr} {c_p2 : Nat} (h_p0 : ok_qExpr I p0 w_p0) (h_p1 : RSl 1 (RInt .i64) I a_p1 c_p1 p1) (h_p2 : RSl 1 (RInt .i64) I a_p2 c_p2 p2) (hS : St E w I Os) {r : Int × Int} (hr : r15_find_fu fu p0 p1 p2 = some r),
    Calls P 156 #[(.agg (cs_qExpr p0 w_p0).toArray), (Sl a_p1 p1 c_p1), (Sl a_p2 p2 c_p2)] w (fun e w' => ∃ I', e = .returned (.tuple #[(Iv r.1), (Iv r.2)]) ∧ I.Le I' ∧ St E w' I' Os) := by
 intro fu
 induction fu with
 | zero => intro E w I Os p0 p1 p2 w_p0 a_p1 c_p1 a_p2 c_p2 h_p0 h_p1 h_p2 hS r hr; cases hr
 | succ fu ih =>
 intro E w I Os p0 p1 p2 w_p0 a_p1 c_p1 a_p2 c_p2 h_p0 h_p1 h_p2 hS r hr
 refine calls_W (fn := Tryz.f156) rfl rfl rfl ?_
 unfold r15_find_fu at hr
 refine yd nL3 ?_
 refine yx hS (cs_qExpr p0 w_p0) 39 ?_
 intro b1 w4 hS3
 refine WO.vs 1 [(6, Iv 0), (7, Iv 0)] (yb (ye ?_))
 have hS5 := hS3.drew
 refine yaz (l := nL5) (by kernel_rfl) 4 (KR I [Bx b1 (cs_qExpr p0 w_p0) 39]) qR (.ords nL5 [0, 3, 1, 2, 4] (by kernel_rfl) (by kernel_rfl) (by kernel_rfl) (by kernel_rfl) (by kernel_rfl)) (by kernel_rfl) (KR.cons (hS5.rd m0) (KR.nil hS5.im)) ?_
 generalize World.drew _ = w6 at *
 refine WO.vs 0 [(15, Sl a_p1 p1 c_p1), (16, Pt b1 1)] (yf (v := (Iv p0.Op)) (rd_c m0 (hS5.rd m0)) ?_)
 refine ya 3 8 (Sl a_p1 p1 c_p1) (WO.tail rfl ?_)
 refine ya 4 9 (Iv p0.Op) (yb (ye (yd nL2 ?_)))
 refine ya 0 18 (Pt b1 0) (yf (v := (Iv p0.Kind)) (hS5.rf m0) ?_)
 refine yb (W.block (yd nL2 ?_))
 refine WO.vs 0 [(21, .bool (p0.Kind == 1)), (20, .bool (p0.Kind == 1))] (yb (W.cb hr (fun hc hr => ?_) (fun hc hr => ?_)))
 refine yd nL5 ?_
 refine WO.vs 0 [(22, Pt b1 2), (23, Pt b1 2)] (yf (v := (Iv p0.V.Kind)) (hS5.rf m0) ?_)
 refine WO.vs 3 [(6, Iv p0.V.Kind), (7, Iv 0)] (yb (W.ret (yh (yc ?_))))
 obtain rfl := sj hr
 exact yaj ⟨I, rfl, lr, hS5.drop⟩
 refine yd nL2 ?_
 refine WO.vs 0 [(26, .bool (p0.Kind == 2)), (25, .bool (p0.Kind == 2))] (yb (W.cb hr (fun hc hr => ?_) (fun hc hr => ?_)))
 refine yd nL2 ?_
 refine WO.vs 0 [(6, Iv 0), (7, Iv 4)] (yb (W.ret (yh (yc ?_))))
 obtain rfl := sj hr
 exact yaj ⟨I, rfl, lr, hS5.drop⟩
 refine yd nL2 ?_
 refine WO.vs 0 [(28, .bool (p0.Kind == 3)), (27, .bool (p0.Kind == 3))] (yb ?_)
 obtain ⟨j9, hr1, hr⟩ := bsm hr
 refine W.jw (J := (fun fr w => ∃ (s13 : List Int) (s14 : Int), ∃ I11 a_s13 c_s13, (s13, s14) = j9 ∧ fr = [(1, Sl a_p1 p1 c_p1), (2, Sl a_p2 p2 c_p2), (3, Pt b1 0), (8, Sl a_s13 s13 c_s13), (9, Iv s14)] ∧ I.Le I11 ∧ St E w I11 ((Bx b1 (cs_qExpr p0 w_p0) 39) :: Os) ∧ RSl 1 (RInt .i64) I11 a_s13 c_s13 s13)) ?_ ?_
 refine W.cb hr1 (fun hc hr1 => ?_) (fun hc hr1 => ?_)
 refine yd nL2 ?_
 refine WO.vs 0 [(29, Sl a_p2 p2 c_p2), (8, Sl a_p2 p2 c_p2)] (yb (yaa nL4 ?_))
 refine ya 0 30 (Pt b1 1) (yf (v := (Iv p0.Op)) (hS5.rf m0) ?_)
 exact WO.vs 2 [(32, Iv (w64 (p0.Op - 1))), (9, Iv (w64 (p0.Op - 1)))] (WO.nil (yo ⟨p2, (w64 (p0.Op - 1)), I, a_p2, c_p2, sj hr1, rfl, lr, hS5, h_p2⟩))
 exact yg (yo ⟨p1, p0.Op, I, a_p1, c_p1, sj hr1, rfl, lr, hS5, h_p1⟩)
 rintro _ w15 ⟨s13, s14, I11, a_s13, c_s13, rfl, rfl, hl12, hS16, h_s13⟩
 refine yi (En.next (ye (yd nL8 ?_)))
 refine ya 0 33 (Pt b1 0) (yf (v := (Iv p0.Kind)) (hS16.rf m0) ?_)
 refine WO.vs 2 [(35, .bool (p0.Kind == 3)), (36, .bool (p0.Kind == 3))] (yac (l1 := [4, 5, 6, 7]) 40 ((p0.Kind == 3) || (p0.Kind == 8)) ?_ ?_)
 refine yp (p0.Kind == 3) (fun hc => ?_) (fun hc => ?_)
 refine yj 36 hc ?_
 iterate 3 refine yt ?_
 exact ya 7 40 (.bool true) (WO.mk 36 hc (by rw [hc]; rfl))
 refine yj 36 hc (ya 4 37 (Pt b1 0) (yf (v := (Iv p0.Kind)) (hS16.rf m0) ?_))
 exact WO.vs 6 [(39, .bool (p0.Kind == 8)), (40, .bool (p0.Kind == 8))] (WO.mk 36 hc (by rw [hc]; rfl))
 refine yb (W.cb hr (fun hc hr => ?_) (fun hc hr => ?_))
 refine ye (yd nL4 ?_)
 refine WO.vs 0 [(41, Iv s14), (42, Sl a_s13 s13 c_s13), (43, Nv s13.length), (44, .bool (decide (s14 ≥ (s13.length : Int))))] (yb (W.cb hr (fun hc hr => ?_) (fun hc hr => ?_)))
 refine yd nL2 ?_
 refine WO.vs 0 [(6, Iv 0), (7, Iv 37)] (yb (W.ret (yc (yc ?_))))
 obtain rfl := sj hr
 exact yaj ⟨I11, rfl, hl12, hS16.drop⟩
 refine yg (En.next (ye (yd nL12 ?_)))
 refine WO.vs 0 [(45, Sl a_s13 s13 c_s13), (46, Iv s14)] ?_
 obtain ⟨x20, hr, h0_x20, h1_x20, hx_x20, ha_x20, _, _, rfl, hc_x20⟩ := sl_at (h_s13) hr
 refine yq 3 1 ha_x20 h0_x20 h1_x20 ?_
 refine yae (v := (Iv x20)) hc_x20 hS16.rm ?_
 refine WO.vs 4 [(49, .bool (decide (x20 < 0))), (50, .bool (decide (x20 < 0)))] ?_
 obtain ⟨j21, hr1, hr⟩ := bsm hr
 refine WO.jw (l1 := [6, 7, 8, 9, 10, 11]) (J := (fun fr w => ∃ I23, fr = [(8, Sl a_s13 s13 c_s13), (9, Iv s14), (56, .bool j21)] ∧ I11.Le I23 ∧ St E w I23 Os)) ?_ ?_
 refine WO.cb hr1 (fun hc hr1 => ?_) (fun hc hr1 => ?_)
 refine yj 50 hc ?_
 iterate 5 refine yt ?_
 refine ya 11 56 (.bool true) ?_
 obtain rfl := sj hr1
 exact yv ⟨I11, rfl, lr, hS16.drop⟩
 refine yj 50 hc (WO.vs 6 [(51, Sl a_s13 s13 c_s13), (52, Iv s14)] ?_)
 obtain ⟨x26, hr1, h0_x26, h1_x26, hx_x26, ha_x26, _, _, rfl, hc_x26⟩ := sl_at (h_s13) hr1
 refine yq 3 1 ha_x26 h0_x26 h1_x26 ?_
 refine yae (v := (Iv x26)) hc_x26 hS16.rm ?_
 refine WO.vs 10 [(55, .bool (decide (x26 > 3))), (56, .bool (decide (x26 > 3)))] ?_
 obtain rfl := sj hr1
 exact yv ⟨I11, rfl, lr, hS16.drop⟩
 rintro _ w28 ⟨I23, rfl, hl24, hS29⟩
 refine yb (W.cb hr (fun hc hr => ?_) (fun hc hr => ?_))
 refine yd nL2 ?_
 refine WO.vs 0 [(6, Iv 0), (7, Iv 11)] (yb (W.ret (yc (yc ?_))))
 obtain rfl := sj hr
 exact yaj ⟨I23, rfl, (hl12.trans hl24), hS29⟩
 refine yg (En.next (yd nL6 ?_))
 refine WO.vs 0 [(57, Sl a_s13 s13 c_s13), (58, Iv s14)] ?_
 obtain ⟨x30, hr, h0_x30, h1_x30, hx_x30, ha_x30, _, _, rfl, hc_x30⟩ := sl_at ((RSl.mono h_s13 hl24)) hr
 refine yq 3 1 ha_x30 h0_x30 h1_x30 ?_
 refine yae (v := (Iv x30)) hc_x30 hS29.rm ?_
 refine WO.vs 4 [(6, Iv x30), (7, Iv 0)] (yb (W.ret (yc ?_)))
 obtain rfl := sj hr
 exact yaj ⟨I23, rfl, (hl12.trans hl24), hS29⟩
 refine yg (En.next (yd [0] ?_))
 refine ya 0 10 (.slice none 0 0) (yb (ye (yd [0] ?_)))
 refine ya 0 11 (Iv 0) (yb (W.block ?_))
 obtain ⟨t31, hloop36, hr⟩ := bsm hr
 have hlt43 := ((RSl.mono h_p0.Kids hl12)).len_lt
 refine W.wk (W.forN (m := p0.Kids.length) hloop36 (fun (i35 : Nat) => fun (s34 : List Int) fr w => ∃ I32 a_s34 c_s34 C_s34, fr = [(1, Sl a_p1 p1 c_p1), (2, Sl a_p2 p2 c_p2), (3, Pt b1 0), (10, Sl a_s34 s34 c_s34), (11, Nv i35)] ∧ I11.Le I32 ∧ St E w I32 ((Bx b1 (cs_qExpr p0 w_p0) 39) :: (C_s34) :: Os) ∧ OwnSl 3 1 (RInt .i64) I32 C_s34 a_s34 c_s34 s34) ⟨I11, none, 0, Mem.no, rfl, lr, hS16.no.front1, OwnSl.nil⟩ ?_ ?_)
 rintro i35 s34 _ w40 hi44 ⟨I32, a_s34, c_s34, C_s34, rfl, hl33, hS41, h_s34⟩ x42 hr1 hext31
 refine ye (yd nL5 ?_)
 refine WO.vs 0 [(61, Nv i35), (62, Pt b1 6)] (yf (v := (Sl w_p0.Kids.a p0.Kids w_p0.Kids.c)) (hS41.rf m0) ?_)
 refine WO.vs 3 [(64, Nv p0.Kids.length), (65, .bool (decide ((i35 : Int) < (p0.Kids.length : Int))))] (yb (yag (fun hc => ?_)))
 clear hc
 refine yg (En.next (ye (W.block (yd nL13 ?_))))
 refine ya 0 69 (Pt b1 6) (yf (v := (Sl w_p0.Kids.a p0.Kids w_p0.Kids.c)) (hS41.rf m0) ?_)
 refine ya 2 71 (Nv i35) ?_
 obtain ⟨x45, hx_x45, hr1⟩ := bsm hr1
 obtain ⟨h0_x45, h1_x45, hx_x45⟩ := idx_some hx_x45
 obtain ⟨ha_x45, cs_x45, hn_x45, hr_x45, hc_x45⟩ := ((RSl.mono h_p0.Kids (hl12.trans hl33))).el _ _ hx_x45
 obtain ⟨w_x45, rfl, h_x45⟩ := Q_qExpr_iff.1 hr_x45
 refine yq 39 7 ha_x45 h0_x45 h1_x45 ?_
 refine yai ((cs_qExpr x45 w_x45)) hc_x45 0 hS41.rm ?_
 refine WO.vs 5 [(74, Sl a_p1 p1 c_p1), (75, Sl a_p2 p2 c_p2)] ?_
 obtain ⟨⟨r51, r52⟩, hx_r46, hr1⟩ := bsm hr1
 refine y6 (ih h_x45 (RSl.mono h_p1 (hl12.trans hl33)) (RSl.mono h_p2 (hl12.trans hl33)) hS41 hx_r46) ?_
 intro I48 w47 hl49 hS50
 refine WO.vs 8 [(68, .tuple #[(Iv r51), (Iv r52)]), (77, Iv r51), (78, Iv r52), (12, Iv r51), (13, Iv r52)] (yb (ye (yd nL2 ?_)))
 refine WO.vs 0 [(79, Iv r52), (80, .bool (r52 != 0))] (yb (W.cb hr1 (fun hc hr1 => ?_) (fun hc hr1 => ?_)))
 refine yd nL3 ?_
 refine WO.vs 0 [(81, Iv r52), (6, Iv 0), (7, Iv r52)] (yb (W.ret (yc (yh (yc (ym ?_))))))
 obtain rfl := hext31 _ (sj hr1).symm
 refine yh (yc ?_)
 obtain rfl := sj hr
 exact yaj ⟨I48, rfl, ((hl12.trans hl33).trans hl49), hS50.drop.drop⟩
 refine yg (En.next (yaa nL5 ?_))
 refine WO.vs 0 [(82, Sl a_s34 s34 c_s34), (83, Iv r51)] (y3 (rel := (RInt .i64)) (xs := ([r51] : List Int)) hS50 rfl (by kernel_rfl) rfl 3 1 [[(Iv r51)]] (by kernel_rfl) rfl ((Elr.cons rfl Elr.nil)) (fun _ _ _ => trivial) ?_)
 intro a62 C60 w65 hS63 ho61
 have hS67 := hS63.front2
 obtain ⟨x68, hx_x68, hr1⟩ := bsm hr1
 obtain ⟨h0_x68, he_x68⟩ := app_some hx_x68
 refine WO.ap 3 8 [(Iv 0)] hS67 (OwnSl.mono h_s34 hl49) ho61.sl (hS67.rd m1) h0_x68 he_x68 ?_
 intro a69 c70 w71 C72 hS73 ho74
 refine ya 4 10 (Sl a69 x68 c70) (WO.nil (yi (En.next (yaa nL3 ?_))))
 refine ya 0 66 (Nv i35) (y0 (j := i35) rfl (by kernel_rfl) rfl (by first | omega | (dsimp only at *; omega) | (simp only [List.length_cons, List.length_nil] at *; omega)) ?_)
 exact ya 2 11 (Iv ((i35 + 1 : Nat) : Int)) (WO.nil (yo ⟨x68, (sj hr1).symm, I48, a69, c70, C72, rfl, (hl33.trans hl49), hS73.front1.drop.front1, ho74⟩))
 rintro s34 _ w78 ⟨I32, a_s34, c_s34, C_s34, rfl, hl33, hS79, h_s34⟩ he
 cases he
 refine ye (yd nL5 ?_)
 refine WO.vs 0 [(61, Nv p0.Kids.length), (62, Pt b1 6)] (yf (v := (Sl w_p0.Kids.a p0.Kids w_p0.Kids.c)) (hS79.rf m0) ?_)
 refine WO.vs 3 [(64, Nv p0.Kids.length), (65, .bool (decide ((p0.Kids.length : Int) < (p0.Kids.length : Int))))] (yb (yah (fun hc => ?_)))
 clear hc
 refine yy (yk (yl (yn (En.next (yd nL4 ?_)))))
 refine yu ((cs_qExpr p0 w_p0)) (hS79.rf m0) ?_
 refine ya 1 87 (Sl a_s34 s34 c_s34) ?_
 have hS80 := hS79.front1
 have hp82 := (h_s34).publish hS80
 obtain ⟨r88, hx_r83, hr⟩ := bsm hr
 refine y8 (r15_made_ok (h_p0.mono ((hl12.trans hl33).trans (yaq I32 C_s34))) hp82 hS80.publish hx_r83) ?_
 rintro _ w84 ⟨I85, rfl, hl86, hS87⟩
 have hS89 := St.back hS80 hl86 hS87
 refine ⟨_, rfl, trivial, ?_⟩
 refine ya 3 14 (Iv r88) (yb (ye (yd nL2 ?_)))
 refine WO.vs 0 [(89, Iv r88), (90, .bool (decide (r88 < 0)))] (yb (W.cb hr (fun hc hr => ?_) (fun hc hr => ?_)))
 refine yd nL2 ?_
 refine WO.vs 0 [(6, Iv 0), (7, Iv 11)] (yb (W.ret (yc ?_)))
 obtain rfl := sj hr
 exact yaj ⟨I32, rfl, (hl12.trans hl33), hS89.drop.drop⟩
 refine yg (En.next (yd nL3 ?_))
 refine WO.vs 0 [(91, Iv r88), (6, Iv r88), (7, Iv 0)] (yb (W.ret ?_))
 obtain rfl := sj hr
 exact yaj ⟨I32, rfl, (hl12.trans hl33), hS89.drop.drop⟩
theorem r15_find_ok {p0 : qExpr} {p1 : List Int} {p2 : List Int} {w_p0 : W_qExpr} {a_p1 : Option Addr} {c_p1 : Nat} {a_p2 : Option Addr} {c_p2 : Nat} (h_p0 : ok_qExpr I p0 w_p0) (h_p1 : RSl 1 (RInt .i64) I a_p1 c_p1 p1) (h_p2 : RSl 1 (RInt .i64) I a_p2 c_p2 p2) (hS : St E w I Os) {r : Int × Int} (hr : r15_find p0 p1 p2 = some r) :
    Calls P 156 #[(.agg (cs_qExpr p0 w_p0).toArray), (Sl a_p1 p1 c_p1), (Sl a_p2 p2 c_p2)] w (fun e w' => ∃ I', e = .returned (.tuple #[(Iv r.1), (Iv r.2)]) ∧ I.Le I' ∧ St E w' I' Os) := by
 obtain ⟨fu, hf⟩ := anyFuel_some hr
 exact r15_find_fu_ok fu h_p0 h_p1 h_p2 hS hf
noncomputable def r15_Type (p0 : qExpr) (p1 : List Int) (p2 : List Int) : Option (Int × Int) := (r10_Check p0 true).bind (fun r10 => (bif (r10 != 0) then some (0, r10) else (r15_find p0 p1 p2).bind (fun (r17, r18) => some (r17, r18))))
theorem r15_Type_ok {p0 : qExpr} {p1 : List Int} {p2 : List Int} {w_p0 : W_qExpr} {a_p1 : Option Addr} {c_p1 : Nat} {a_p2 : Option Addr} {c_p2 : Nat} (h_p0 : ok_qExpr I p0 w_p0) (h_p1 : RSl 1 (RInt .i64) I a_p1 c_p1 p1) (h_p2 : RSl 1 (RInt .i64) I a_p2 c_p2 p2) (hS : St E w I Os) {r : Int × Int} (hr : r15_Type p0 p1 p2 = some r) :
    Calls P 130 #[(.agg (cs_qExpr p0 w_p0).toArray), (Sl a_p1 p1 c_p1), (Sl a_p2 p2 c_p2)] w (fun e w' => ∃ I', e = .returned (.tuple #[(Iv r.1), (Iv r.2)]) ∧ I.Le I' ∧ St E w' I' Os) := by
 refine calls_W (fn := Tryz.f130) rfl rfl rfl ?_
 unfold r15_Type at hr
 refine yd nL3 ?_
 refine yx hS (cs_qExpr p0 w_p0) 39 ?_
 intro b1 w4 hS3
 refine WO.vs 1 [(6, Iv 0), (7, Iv 0)] (yz nL3 ?_)
 refine yu ((cs_qExpr p0 w_p0)) (hS3.rf m0) ?_
 obtain ⟨r10, hx_r5, hr⟩ := bsm hr
 refine y6 (r10_Check_ok h_p0 hS3 hx_r5) ?_
 intro I7 w6 hl8 hS9
 refine ya 2 8 (Iv r10) (yb (ye (yd nL2 ?_)))
 refine WO.vs 0 [(11, Iv r10), (12, .bool (r10 != 0))] (yb (W.cb hr (fun hc hr => ?_) (fun hc hr => ?_)))
 refine yd nL3 ?_
 refine WO.vs 0 [(13, Iv r10), (6, Iv 0), (7, Iv r10)] (yb (W.ret (yc ?_)))
 obtain rfl := sj hr
 exact yaj ⟨I7, rfl, hl8, hS9.drop⟩
 refine yg (En.next (yd nL8 ?_))
 refine yu ((cs_qExpr p0 w_p0)) (hS9.rf m0) ?_
 refine WO.vs 1 [(15, Sl a_p1 p1 c_p1), (16, Sl a_p2 p2 c_p2)] ?_
 obtain ⟨⟨r17, r18⟩, hx_r12, hr⟩ := bsm hr
 refine y6 (r15_find_ok (h_p0.mono hl8) (RSl.mono h_p1 hl8) (RSl.mono h_p2 hl8) hS9 hx_r12) ?_
 intro I14 w13 hl15 hS16
 refine WO.vs 4 [(18, Iv r17), (19, Iv r18), (6, Iv r17), (7, Iv r18)] (yb (W.ret ?_))
 obtain rfl := sj hr
 exact yaj ⟨I14, rfl, (hl8.trans hl15), hS16.drop⟩
noncomputable def r15_Bool (p0 : qExpr) (p1 : List Int) (p2 : List Int) : Option Int := (r15_Type p0 p1 p2).bind (fun (r10, r11) => (bif (r11 != 0) then some r11 else (bif ((r10 != 2) && (r10 != 0)) then some 11 else some 0)))
theorem r15_Bool_ok {p0 : qExpr} {p1 : List Int} {p2 : List Int} {w_p0 : W_qExpr} {a_p1 : Option Addr} {c_p1 : Nat} {a_p2 : Option Addr} {c_p2 : Nat} (h_p0 : ok_qExpr I p0 w_p0) (h_p1 : RSl 1 (RInt .i64) I a_p1 c_p1 p1) (h_p2 : RSl 1 (RInt .i64) I a_p2 c_p2 p2) (hS : St E w I Os) {r : Int} (hr : r15_Bool p0 p1 p2 = some r) :
    Calls P 92 #[(.agg (cs_qExpr p0 w_p0).toArray), (Sl a_p1 p1 c_p1), (Sl a_p2 p2 c_p2)] w (fun e w' => ∃ I', e = .returned (Iv r) ∧ I.Le I' ∧ St E w' I' Os) := by
 refine calls_W (fn := Tryz.f92) rfl rfl rfl ?_
 unfold r15_Bool at hr
 refine yd nL2 ?_
 refine yx hS (cs_qExpr p0 w_p0) 39 ?_
 intro b1 w4 hS3
 refine ya 1 6 (Iv 0) (yz nL9 ?_)
 refine yu ((cs_qExpr p0 w_p0)) (hS3.rf m0) ?_
 refine WO.vs 1 [(11, Sl a_p1 p1 c_p1), (12, Sl a_p2 p2 c_p2)] ?_
 obtain ⟨⟨r10, r11⟩, hx_r5, hr⟩ := bsm hr
 refine y6 (r15_Type_ok h_p0 h_p1 h_p2 hS3 hx_r5) ?_
 intro I7 w6 hl8 hS9
 refine WO.vs 4 [(9, .tuple #[(Iv r10), (Iv r11)]), (14, Iv r10), (15, Iv r11), (7, Iv r10), (8, Iv r11)] (yb (ye (yd nL2 ?_)))
 refine WO.vs 0 [(16, Iv r11), (17, .bool (r11 != 0))] (yb (W.cb hr (fun hc hr => ?_) (fun hc hr => ?_)))
 refine yd nL2 ?_
 refine WO.vs 0 [(18, Iv r11), (6, Iv r11)] (yb (W.ret (yc ?_)))
 obtain rfl := sj hr
 exact yr ⟨I7, rfl, hl8, hS9.drop⟩
 refine yg (En.next (ye (yd nL6 ?_)))
 refine WO.vs 0 [(19, Iv r10), (20, .bool (r10 != 2)), (21, .bool (r10 != 2))] (yac (l1 := [3, 4, 5]) 24 ((r10 != 2) && (r10 != 0)) ?_ ?_)
 refine yp (r10 != 2) (fun hc => ?_) (fun hc => ?_)
 exact yj 21 hc (WO.vs 3 [(22, Iv r10), (23, .bool (r10 != 0)), (24, .bool (r10 != 0))] (WO.mk 21 hc (by rw [hc]; rfl)))
 refine yj 21 hc ?_
 iterate 2 refine yt ?_
 exact ya 5 24 (.bool false) (WO.mk 21 hc (by rw [hc]; rfl))
 refine yb (W.cb hr (fun hc hr => ?_) (fun hc hr => ?_))
 refine yd [0] ?_
 refine ya 0 6 (Iv 11) (yb (W.ret (yc ?_)))
 obtain rfl := sj hr
 exact yr ⟨I7, rfl, hl8, hS9.drop⟩
 refine yg (En.next (yd [0] ?_))
 refine ya 0 6 (Iv 0) (yb (W.ret ?_))
 obtain rfl := sj hr
 exact yr ⟨I7, rfl, hl8, hS9.drop⟩
def r14_Places (p0 : qTable) (p1 : List ByteArray) : Option ((List Int) × Int) := (forN (fun (i9 : Nat) => fun (s8 : List Int) => (idx p1 (i9 : Int)).bind (fun x21 => (r14_Col p0 x21).bind (fun r27 => (bif (decide (r27 < 0)) then some (.inr (([] : List Int), (4 : Int))) else (app 8 s8 ([r27] : List Int)).bind (fun x42 => some (.inl x42)))))) p1.length 0 ([] : List Int)).bind (fun (t : (List Int) ⊕ (((List Int) × Int))) => match t with | .inl s8 => some (s8, 0) | .inr (s29, s30) => some (s29, s30))
theorem r14_Places_ok {p0 : qTable} {p1 : List ByteArray} {w_p0 : W_qTable} {a_p1 : Option Addr} {c_p1 : Nat} (h_p0 : ok_qTable I p0 w_p0) (h_p1 : RSl 1 RStr I a_p1 c_p1 p1) (hS : St E w I Os) {r : (List Int) × Int} (hr : r14_Places p0 p1 = some r) :
    Calls P 131 #[(.agg (cs_qTable p0 w_p0).toArray), (Sl a_p1 p1 c_p1)] w (fun e w' => ∃ (I' : Mem) (ra0 : Option Addr) (rc0 : Nat), e = .returned (.tuple #[(Sl ra0 r.1 rc0), (Iv r.2)]) ∧ I.Le I' ∧ St E w' I' Os ∧ RSl 1 (RInt .i64) I' ra0 rc0 r.1) := by
 refine calls_W (fn := Tryz.f131) rfl rfl rfl ?_
 unfold r14_Places at hr
 refine yd nL3 ?_
 refine yx hS (cs_qTable p0 w_p0) 89 ?_
 intro b1 w4 hS3
 refine WO.vs 1 [(4, .slice none 0 0), (5, Iv 0)] (yz [0] ?_)
 refine ya 0 6 (.slice none 0 0) (yb (ye (yd [0] ?_)))
 refine ya 0 7 (Iv 0) (yb (W.block ?_))
 obtain ⟨t5, hloop10, hr⟩ := bsm hr
 have hlt17 := (h_p1).len_lt
 refine W.wk (W.forN (m := p1.length) hloop10 (fun (i9 : Nat) => fun (s8 : List Int) fr w => ∃ I6 a_s8 c_s8 C_s8, fr = [(1, Sl a_p1 p1 c_p1), (2, Pt b1 0), (6, Sl a_s8 s8 c_s8), (7, Nv i9)] ∧ I.Le I6 ∧ St E w I6 ((Bx b1 (cs_qTable p0 w_p0) 89) :: (C_s8) :: Os) ∧ OwnSl 3 1 (RInt .i64) I6 C_s8 a_s8 c_s8 s8) ⟨I, none, 0, Mem.no, rfl, lr, hS3.no.front1, OwnSl.nil⟩ ?_ ?_)
 rintro i9 s8 _ w14 hi18 ⟨I6, a_s8, c_s8, C_s8, rfl, hl7, hS15, h_s8⟩ x16 hr1 hext5
 refine ye (yd nL4 ?_)
 refine WO.vs 0 [(9, Nv i9), (10, Sl a_p1 p1 c_p1), (11, Nv p1.length), (12, .bool (decide ((i9 : Int) < (p1.length : Int))))] (yb (yag (fun hc => ?_)))
 clear hc
 refine yg (En.next (ye (W.block (ye ?_))))
 have hS19 := hS15.drew
 refine yao nL7 5 (KR.cons (hS19.rd m0) (KR.nil hS19.im)) ?_
 generalize World.drew _ = w20 at *
 refine yu ((cs_qTable p0 w_p0)) (rd_c m0 (hS19.rd m0)) ?_
 refine WO.vs 1 [(16, Sl a_p1 p1 c_p1), (17, Nv i9)] ?_
 obtain ⟨x21, hr1, h0_x21, h1_x21, hx_x21, ha_x21, _, _, rfl, hc_x21⟩ := sl_at ((RSl.mono h_p1 hl7)) hr1
 refine yq 9 1 ha_x21 h0_x21 h1_x21 ?_
 refine yae (v := (.string x21)) hc_x21 (rd_i hS19.im) ?_
 refine WO.tail rfl ?_
 obtain ⟨r27, hx_r22, hr1⟩ := bsm hr1
 refine y6 (r14_Col_ok (h_p0.mono hl7) hS19 hx_r22) ?_
 intro I24 w23 hl25 hS26
 refine ya 6 8 (Iv r27) (yb (ye (yd nL2 ?_)))
 refine WO.vs 0 [(21, Iv r27), (22, .bool (decide (r27 < 0)))] (yb (W.cb hr1 (fun hc hr1 => ?_) (fun hc hr1 => ?_)))
 refine yd nL2 ?_
 refine WO.vs 0 [(4, .slice none 0 0), (5, Iv 4)] (yb (W.ret (yc (yh (yc (ym ?_))))))
 obtain rfl := hext5 _ (sj hr1).symm
 refine yh (yc ?_)
 obtain rfl := sj hr
 exact yaj ⟨I24, none, 0, rfl, (hl7.trans hl25), hS26.drop.drop, SlAt.nil⟩
 refine yg (En.next (yaa nL5 ?_))
 refine WO.vs 0 [(23, Sl a_s8 s8 c_s8), (24, Iv r27)] (y3 (rel := (RInt .i64)) (xs := ([r27] : List Int)) hS26 rfl (by kernel_rfl) rfl 3 1 [[(Iv r27)]] (by kernel_rfl) rfl ((Elr.cons rfl Elr.nil)) (fun _ _ _ => trivial) ?_)
 intro a37 C35 w39 hS38 ho36
 have hS41 := hS38.front2
 obtain ⟨x42, hx_x42, hr1⟩ := bsm hr1
 obtain ⟨h0_x42, he_x42⟩ := app_some hx_x42
 refine WO.ap 3 8 [(Iv 0)] hS41 (OwnSl.mono h_s8 hl25) ho36.sl (hS41.rd m1) h0_x42 he_x42 ?_
 intro a43 c44 w45 C46 hS47 ho48
 refine ya 4 6 (Sl a43 x42 c44) (WO.nil (yi (En.next (yaa nL3 ?_))))
 refine ya 0 13 (Nv i9) (y0 (j := i9) rfl (by kernel_rfl) rfl (by first | omega | (dsimp only at *; omega) | (simp only [List.length_cons, List.length_nil] at *; omega)) ?_)
 exact ya 2 7 (Iv ((i9 + 1 : Nat) : Int)) (WO.nil (yo ⟨x42, (sj hr1).symm, I24, a43, c44, C46, rfl, (hl7.trans hl25), hS47.front1.drop.front1, ho48⟩))
 rintro s8 _ w52 ⟨I6, a_s8, c_s8, C_s8, rfl, hl7, hS53, h_s8⟩ he
 cases he
 refine ye (yd nL4 ?_)
 refine WO.vs 0 [(9, Nv p1.length), (10, Sl a_p1 p1 c_p1), (11, Nv p1.length), (12, .bool (decide ((p1.length : Int) < (p1.length : Int))))] (yb (yah (fun hc => ?_)))
 clear hc
 refine yy (yk (yl (yn (En.next (yd nL3 ?_)))))
 refine ya 0 27 (Sl a_s8 s8 c_s8) ?_
 obtain ⟨I55, hl56, hS58, hp57⟩ := y4 h_s8 hS53.front1
 refine WO.vs 1 [(4, Sl a_s8 s8 c_s8), (5, Iv 0)] (yb (W.ret ?_))
 obtain rfl := sj hr
 exact yaj ⟨I55, a_s8, c_s8, rfl, (hl7.trans hl56), hS58.drop, hp57⟩
def r17_foreign (p0 : qCatalog) (p1 : qTable) (p2 : qCons) : Option Int := ((bif (!sEq p2.Table p1.Name) then (r17_At p0 p2.Table).bind (fun r28 => (bif (decide (r28 < 0)) then some (.inl (4, p1)) else (idx p0.Tables r28).bind (fun x40 => some (.inr x40)))) else some (.inr p1))).bind (fun (t : (Int × qTable) ⊕ qTable) => match t with | (.inl (s30, s31)) => some s30 | (.inr s43) => (r14_Places s43 p2.Refs).bind (fun (r59, r60) => (r14_Places p1 p2.Cols).bind (fun (r66, r67) => (bif (r60 != 0) then some r60 else (forN (fun (i74 : Nat) => fun (_s : Unit) => (idx r66 (i74 : Int)).bind (fun x83 => (idx p1.Cols x83).bind (fun x84 => (idx r59 (i74 : Int)).bind (fun x85 => (idx s43.Cols x85).bind (fun x86 => (bif (x84.Type_ != x86.Type_) then some (.inr (11 : Int)) else some (.inl ()))))))) r59.length 0 ()).bind (fun (t : Unit ⊕ (Int)) => match t with | .inl _ => (r17_keys s43 p2.Refs).bind (fun r102 => (bif (r102 == 0) then some 2 else some 0)) | .inr s88 => some s88)))))
theorem r17_foreign_ok {p0 : qCatalog} {p1 : qTable} {p2 : qCons} {w_p0 : W_qCatalog} {w_p1 : W_qTable} {w_p2 : W_qCons} (h_p0 : ok_qCatalog I p0 w_p0) (h_p1 : ok_qTable I p1 w_p1) (h_p2 : ok_qCons I p2 w_p2) (hS : St E w I Os) {r : Int} (hr : r17_foreign p0 p1 p2 = some r) :
    Calls P 94 #[(.agg (cs_qCatalog p0 w_p0).toArray), (.agg (cs_qTable p1 w_p1).toArray), (.agg (cs_qCons p2 w_p2).toArray)] w (fun e w' => ∃ I', e = .returned (Iv r) ∧ I.Le I' ∧ St E w' I' Os) := by
 refine calls_W (fn := Tryz.f94) rfl rfl rfl ?_
 unfold r17_foreign at hr
 refine yd nL4 ?_
 refine yx hS (cs_qCatalog p0 w_p0) 29 ?_
 intro b1 w4 hS3
 refine yx hS3 (cs_qTable p1 w_p1) 89 ?_
 intro b5 w8 hS7
 refine yx hS7 (cs_qCons p2 w_p2) 100 ?_
 intro b9 w12 hS11
 refine ya 3 6 (Iv 0) (yz nL3 ?_)
 refine yu ((cs_qTable p1 w_p1)) (hS11.rf m1) ?_
 refine yx hS11 (cs_qTable z_qTable zw_qTable) 89 ?_
 intro b13 w16 hS15
 refine yw hS15 0 (cs_qTable p1 w_p1) ?_
 intro w18 hS17
 refine yb (ye (yd nL5 ?_))
 refine ya 0 15 (Pt b9 10) (yf (v := (.string p2.Table)) (hS17.rf m1) ?_)
 refine ya 2 17 (Pt b5 0) (yf (v := (.string p1.Name)) (hS17.rf m2) ?_)
 refine ya 4 19 (.bool (!sEq p2.Table p1.Name)) (yb ?_)
 obtain ⟨j19, hr1, hr⟩ := bsm hr
 refine W.jw (J := (fun fr w => ∃ (s43 : qTable), ∃ I21 w_s43, (.inr s43) = j19 ∧ fr = [(4, Pt b5 0), (5, Pt b9 0), (7, Pt b13 0)] ∧ I.Le I21 ∧ St E w I21 ((Bx b5 (cs_qTable p1 w_p1) 89) :: (Bx b9 (cs_qCons p2 w_p2) 100) :: (Bx b13 (cs_qTable s43 w_s43) 89) :: Os) ∧ ok_qTable I21 s43 w_s43)) ?_ ?_
 refine W.cb hr1 (fun hc hr1 => ?_) (fun hc hr1 => ?_)
 refine yd nL5 ?_
 refine yu ((cs_qCatalog p0 w_p0)) (hS17.rf m3) ?_
 refine ya 1 21 (Pt b9 10) (yf (v := (.string p2.Table)) (hS17.rf m1) ?_)
 obtain ⟨r28, hx_r23, hr1⟩ := bsm hr1
 refine y6 (r17_At_ok h_p0 hS17 hx_r23) ?_
 intro I25 w24 hl26 hS27
 refine ya 4 8 (Iv r28) (yb (ye (yd nL2 ?_)))
 refine WO.vs 0 [(24, Iv r28), (25, .bool (decide (r28 < 0)))] (yb (W.cb hr1 (fun hc hr1 => ?_) (fun hc hr1 => ?_)))
 refine yd [0] ?_
 refine ya 0 6 (Iv 4) (yb (W.ret (yc (ym ?_))))
 obtain rfl := sj hr1
 refine yc ?_
 obtain rfl := sj hr
 exact yr ⟨I25, rfl, hl26, hS27.drop.drop.drop.drop⟩
 refine yg (En.next (yaa nL6 ?_))
 refine ya 0 26 (Pt b1 1) (yf (v := (Sl w_p0.Tables.a p0.Tables w_p0.Tables.c)) (hS27.rf m3) ?_)
 refine ya 2 28 (Iv r28) ?_
 obtain ⟨x40, hr1, h0_x40, h1_x40, hx_x40, ha_x40, _, _, ⟨w_x40, rfl, h_x40⟩, hc_x40⟩ := sl_at ((RSl.mono h_p0.Tables hl26)) hr1
 refine yq 89 6 ha_x40 h0_x40 h1_x40 ?_
 refine yai ((cs_qTable x40 w_x40)) hc_x40 0 hS27.rm ?_
 refine yw hS27 0 (cs_qTable x40 w_x40) ?_
 intro w42 hS41
 exact WO.nil (yo ⟨x40, I25, w_x40, sj hr1, rfl, hl26, hS41.front3.drop.front1.front2, h_x40⟩)
 exact yg (yo ⟨p1, I, w_p1, sj hr1, rfl, lr, hS17.front3.drop.front1.front2, h_p1⟩)
 rintro _ w52 ⟨s43, I21, w_s43, rfl, rfl, hl22, hS53, h_s43⟩
 refine En.next (yd nL9 ?_)
 refine yu ((cs_qTable s43 w_s43)) (hS53.rf m2) ?_
 refine ya 1 33 (Pt b9 11) (yf (v := (Sl w_p2.Refs.a p2.Refs w_p2.Refs.c)) (hS53.rf m1) ?_)
 obtain ⟨⟨r59, r60⟩, hx_r54, hr⟩ := bsm hr
 refine y8 (r14_Places_ok h_s43 (RSl.mono h_p2.Refs hl22) hS53 hx_r54) ?_
 rintro _ w55 ⟨I56, a_r59, c_r59, rfl, hl57, hS58, h_r59⟩
 refine ⟨_, rfl, trivial, ?_⟩
 refine WO.vs 4 [(31, .tuple #[(Sl a_r59 r59 c_r59), (Iv r60)]), (36, Sl a_r59 r59 c_r59), (37, Iv r60), (9, Sl a_r59 r59 c_r59), (10, Iv r60)] (yz nL9 ?_)
 refine yu ((cs_qTable p1 w_p1)) (hS58.rf m0) ?_
 refine ya 1 40 (Pt b9 2) (yf (v := (Sl w_p2.Cols.a p2.Cols w_p2.Cols.c)) (hS58.rf m1) ?_)
 obtain ⟨⟨r66, r67⟩, hx_r61, hr⟩ := bsm hr
 refine y8 (r14_Places_ok (h_p1.mono (hl22.trans hl57)) (RSl.mono h_p2.Cols (hl22.trans hl57)) hS58 hx_r61) ?_
 rintro _ w62 ⟨I63, a_r66, c_r66, rfl, hl64, hS65, h_r66⟩
 refine ⟨_, rfl, trivial, ?_⟩
 refine WO.vs 4 [(38, .tuple #[(Sl a_r66 r66 c_r66), (Iv r67)]), (43, Sl a_r66 r66 c_r66), (44, Iv r67), (11, Sl a_r66 r66 c_r66), (12, Iv r67)] (yb (ye (yd nL2 ?_)))
 refine WO.vs 0 [(45, Iv r60), (46, .bool (r60 != 0))] (yb (W.cb hr (fun hc hr => ?_) (fun hc hr => ?_)))
 refine yd nL2 ?_
 refine WO.vs 0 [(47, Iv r60), (6, Iv r60)] (yb (W.ret (yc ?_)))
 obtain rfl := sj hr
 exact yr ⟨I63, rfl, ((hl22.trans hl57).trans hl64), hS65.drop.drop.drop⟩
 refine yg (En.next (ye (yd [0] ?_)))
 refine ya 0 13 (Iv 0) (yb (W.block ?_))
 obtain ⟨t71, hloop75, hr⟩ := bsm hr
 have hlt79 := ((RSl.mono h_r59 hl64)).len_lt
 refine W.wk (W.forN (m := r59.length) hloop75 (fun (i74 : Nat) => fun (_s : Unit) fr w => ∃ I72, fr = [(4, Pt b5 0), (5, Pt b9 0), (7, Pt b13 0), (9, Sl a_r59 r59 c_r59), (11, Sl a_r66 r66 c_r66), (13, Nv i74)] ∧ I63.Le I72 ∧ St E w I72 ((Bx b5 (cs_qTable p1 w_p1) 89) :: (Bx b9 (cs_qCons p2 w_p2) 100) :: (Bx b13 (cs_qTable s43 w_s43) 89) :: Os)) ⟨I63, rfl, lr, hS65⟩ ?_ ?_)
 rintro i74 _ _ w76 hi80 ⟨I72, rfl, hl73, hS77⟩ x78 hr1 hext71
 refine ye (yd nL4 ?_)
 refine WO.vs 0 [(48, Nv i74), (49, Sl a_r59 r59 c_r59), (50, Nv r59.length), (51, .bool (decide ((i74 : Int) < (r59.length : Int))))] (yb (yag (fun hc => ?_)))
 clear hc
 refine yg (En.next (ye (W.block (ye ?_))))
 have hS81 := hS77.drew
 refine yao nL19 18 (KR.cons (hS81.rd m0) (KR.cons (hS81.rd m2) (KR.nil hS81.im))) ?_
 generalize World.drew _ = w82 at *
 refine ya 0 54 (Pt b5 3) (yf (v := (Sl w_p1.Cols.a p1.Cols w_p1.Cols.c)) (rd_c m0 (hS81.rd m0)) ?_)
 refine WO.vs 2 [(56, Sl a_r66 r66 c_r66), (57, Nv i74)] ?_
 obtain ⟨x83, hr1, h0_x83, h1_x83, hx_x83, ha_x83, _, _, rfl, hc_x83⟩ := sl_at ((RSl.mono h_r66 hl73)) hr1
 refine yq 3 1 ha_x83 h0_x83 h1_x83 ?_
 refine yae (v := (Iv x83)) hc_x83 (rd_i hS81.im) ?_
 obtain ⟨x84, hr1, h0_x84, h1_x84, hx_x84, ha_x84, _, _, rfl, hc_x84⟩ := sl_at ((RSl.mono h_p1.Cols (((hl22.trans hl57).trans hl64).trans hl73))) hr1
 refine yq 73 3 ha_x84 h0_x84 h1_x84 ?_
 refine ya 7 61 (.pointer (some ⟨bl w_p1.Cols.a, of w_p1.Cols.a + (x83).toNat * 3 + 1, none⟩)) (WO.le (v := (Iv x84.Type_)) hc_x84 1 (rd_i hS81.im) ?_)
 refine ya 9 63 (Pt b13 3) (yf (v := (Sl w_s43.Cols.a s43.Cols w_s43.Cols.c)) (rd_c m1 (hS81.rd m2)) ?_)
 refine WO.vs 11 [(65, Sl a_r59 r59 c_r59), (66, Nv i74)] ?_
 obtain ⟨x85, hr1, h0_x85, h1_x85, hx_x85, ha_x85, _, _, rfl, hc_x85⟩ := sl_at ((RSl.mono h_r59 (hl64.trans hl73))) hr1
 refine yq 3 1 ha_x85 h0_x85 h1_x85 ?_
 refine yae (v := (Iv x85)) hc_x85 (rd_i hS81.im) ?_
 obtain ⟨x86, hr1, h0_x86, h1_x86, hx_x86, ha_x86, _, _, rfl, hc_x86⟩ := sl_at ((RSl.mono h_s43.Cols ((hl57.trans hl64).trans hl73))) hr1
 refine yq 73 3 ha_x86 h0_x86 h1_x86 ?_
 refine ya 16 70 (.pointer (some ⟨bl w_s43.Cols.a, of w_s43.Cols.a + (x85).toNat * 3 + 1, none⟩)) (WO.le (v := (Iv x86.Type_)) hc_x86 1 (rd_i hS81.im) ?_)
 refine WO.tail rfl ?_
 refine ya 18 72 (.bool (x84.Type_ != x86.Type_)) (yb (W.cb hr1 (fun hc hr1 => ?_) (fun hc hr1 => ?_)))
 refine yd [0] ?_
 refine ya 0 6 (Iv 11) (yb (W.ret (yh (yc (ym ?_)))))
 obtain rfl := hext71 _ (sj hr1).symm
 refine yh (yc ?_)
 obtain rfl := sj hr
 exact yr ⟨I72, rfl, (((hl22.trans hl57).trans hl64).trans hl73), hS81.drop.drop.drop⟩
 refine yg (yi (En.next (yaa nL3 ?_)))
 refine ya 0 52 (Nv i74) (y0 (j := i74) rfl (by kernel_rfl) rfl (by first | omega | (dsimp only at *; omega) | (simp only [List.length_cons, List.length_nil] at *; omega)) ?_)
 exact ya 2 13 (Iv ((i74 + 1 : Nat) : Int)) (WO.nil (yo ⟨(), (sj hr1).symm, I72, rfl, hl73, hS81⟩))
 rintro _ _ w95 ⟨I72, rfl, hl73, hS96⟩ he
 cases he
 refine ye (yd nL4 ?_)
 refine WO.vs 0 [(48, Nv r59.length), (49, Sl a_r59 r59 c_r59), (50, Nv r59.length), (51, .bool (decide ((r59.length : Int) < (r59.length : Int))))] (yb (yah (fun hc => ?_)))
 clear hc
 refine yy (yk (yl (yn (En.next (ye (yd nL5 ?_))))))
 refine yu ((cs_qTable s43 w_s43)) (hS96.rf m2) ?_
 refine ya 1 74 (Pt b9 11) (yf (v := (Sl w_p2.Refs.a p2.Refs w_p2.Refs.c)) (hS96.rf m1) ?_)
 obtain ⟨r102, hx_r97, hr⟩ := bsm hr
 refine y6 (r17_keys_ok (h_s43.mono ((hl57.trans hl64).trans hl73)) (RSl.mono h_p2.Refs (((hl22.trans hl57).trans hl64).trans hl73)) hS96 hx_r97) ?_
 intro I99 w98 hl100 hS101
 refine ya 4 77 (.bool (r102 == 0)) (yb (W.cb hr (fun hc hr => ?_) (fun hc hr => ?_)))
 refine yd [0] ?_
 refine ya 0 6 (Iv 2) (yb (W.ret (yc ?_)))
 obtain rfl := sj hr
 exact yr ⟨I99, rfl, ((((hl22.trans hl57).trans hl64).trans hl73).trans hl100), hS101.drop.drop.drop⟩
 refine yg (En.next (yd [0] ?_))
 refine ya 0 6 (Iv 0) (yb (W.ret ?_))
 obtain rfl := sj hr
 exact yr ⟨I99, rfl, ((((hl22.trans hl57).trans hl64).trans hl73).trans hl100), hS101.drop.drop.drop⟩
noncomputable def r17_Sound (p0 : qCatalog) (p1 : qTable) : Option Int := (r14_Check p1).bind (fun r14 => (bif (r14 != 0) then some r14 else (forN (fun (i20 : Nat) => fun (_s : Unit) => (idx p1.Cons (i20 : Int)).bind (fun x28 => ((bif (x28.Kind == 2) then (r15_Resolve p1 x28.Check).bind (fun (r44, r45) => ((bif (r45 == 0) then (r15_Cols p1).bind (fun r63 => (r15_Bool r44 r63 ([] : List Int)).bind (fun r69 => some r69)) else some r45)).bind (fun (j52 : Int) => some j52)) else some 0)).bind (fun (j35 : Int) => ((bif (x28.Kind == 3) then (r17_foreign p0 p1 x28).bind (fun r91 => some r91) else some j35)).bind (fun (j82 : Int) => (bif (j82 != 0) then some (.inr j82) else some (.inl ())))))) p1.Cons.length 0 ()).bind (fun (t : Unit ⊕ (Int)) => match t with | .inl _ => some 0 | .inr s99 => some s99)))
theorem r17_Sound_ok {p0 : qCatalog} {p1 : qTable} {w_p0 : W_qCatalog} {w_p1 : W_qTable} (h_p0 : ok_qCatalog I p0 w_p0) (h_p1 : ok_qTable I p1 w_p1) (hS : St E w I Os) {r : Int} (hr : r17_Sound p0 p1 = some r) :
    Calls P 54 #[(.agg (cs_qCatalog p0 w_p0).toArray), (.agg (cs_qTable p1 w_p1).toArray)] w (fun e w' => ∃ I', e = .returned (Iv r) ∧ I.Le I' ∧ St E w' I' Os) := by
 refine calls_W (fn := Tryz.f54) rfl rfl rfl ?_
 unfold r17_Sound at hr
 refine yd nL3 ?_
 refine yx hS (cs_qCatalog p0 w_p0) 29 ?_
 intro b1 w4 hS3
 refine yx hS3 (cs_qTable p1 w_p1) 89 ?_
 intro b5 w8 hS7
 refine ya 2 4 (Iv 0) (yz nL3 ?_)
 refine yu ((cs_qTable p1 w_p1)) (hS7.rf m0) ?_
 obtain ⟨r14, hx_r9, hr⟩ := bsm hr
 refine y6 (r14_Check_ok h_p1 hS7 hx_r9) ?_
 intro I11 w10 hl12 hS13
 refine ya 2 5 (Iv r14) (yb (ye (yd nL2 ?_)))
 refine WO.vs 0 [(13, Iv r14), (14, .bool (r14 != 0))] (yb (W.cb hr (fun hc hr => ?_) (fun hc hr => ?_)))
 refine yd nL2 ?_
 refine WO.vs 0 [(15, Iv r14), (4, Iv r14)] (yb (W.ret (yc ?_)))
 obtain rfl := sj hr
 exact yr ⟨I11, rfl, hl12, hS13.drop.drop⟩
 refine yg (En.next (ye (yd [0] ?_)))
 refine ya 0 6 (Iv 0) (yb (W.block ?_))
 obtain ⟨t17, hloop21, hr⟩ := bsm hr
 have hlt26 := ((RSl.mono h_p1.Cons hl12)).len_lt
 refine W.wk (W.forN (m := p1.Cons.length) hloop21 (fun (i20 : Nat) => fun (_s : Unit) fr w => ∃ I18, fr = [(2, Pt b1 0), (3, Pt b5 0), (6, Nv i20)] ∧ I11.Le I18 ∧ St E w I18 ((Bx b1 (cs_qCatalog p0 w_p0) 29) :: (Bx b5 (cs_qTable p1 w_p1) 89) :: Os)) ⟨I11, rfl, lr, hS13.front1⟩ ?_ ?_)
 rintro i20 _ _ w23 hi27 ⟨I18, rfl, hl19, hS24⟩ x25 hr1 hext17
 refine ye (yd nL5 ?_)
 refine WO.vs 0 [(16, Nv i20), (17, Pt b5 4)] (yf (v := (Sl w_p1.Cons.a p1.Cons w_p1.Cons.c)) (hS24.rf m1) ?_)
 refine WO.vs 3 [(19, Nv p1.Cons.length), (20, .bool (decide ((i20 : Int) < (p1.Cons.length : Int))))] (yb (yag (fun hc => ?_)))
 clear hc
 refine yg (En.next (ye (W.block (yd nL7 ?_))))
 refine ya 0 23 (Pt b5 4) (yf (v := (Sl w_p1.Cons.a p1.Cons w_p1.Cons.c)) (hS24.rf m1) ?_)
 refine ya 2 25 (Nv i20) ?_
 obtain ⟨x28, hr1, h0_x28, h1_x28, hx_x28, ha_x28, _, _, ⟨w_x28, rfl, h_x28⟩, hc_x28⟩ := sl_at ((RSl.mono h_p1.Cons (hl12.trans hl19))) hr1
 refine yq 100 12 ha_x28 h0_x28 h1_x28 ?_
 refine yai ((cs_qCons x28 w_x28)) hc_x28 0 hS24.rm ?_
 refine yx hS24 (cs_qCons z_qCons zw_qCons) 100 ?_
 intro b29 w32 hS31
 refine yw hS31 0 (cs_qCons x28 w_x28) ?_
 intro w34 hS33
 refine yz [0] ?_
 refine ya 0 8 (Iv 0) (yb (ye (yd nL3 ?_)))
 refine ya 0 28 (Pt b29 1) (yf (v := (Iv x28.Kind)) (hS33.rf m0) ?_)
 refine ya 2 30 (.bool (x28.Kind == 2)) (yb ?_)
 obtain ⟨j35, hr2, hr1⟩ := bsm hr1
 refine W.jw (J := (fun fr w => ∃ I37, fr = [(2, Pt b1 0), (3, Pt b5 0), (6, Nv i20), (7, Pt b29 0), (8, Iv j35)] ∧ I18.Le I37 ∧ St E w I37 ((Bx b1 (cs_qCatalog p0 w_p0) 29) :: (Bx b5 (cs_qTable p1 w_p1) 89) :: (Bx b29 (cs_qCons x28 w_x28) 100) :: Os))) ?_ ?_
 refine W.cb hr2 (fun hc hr2 => ?_) (fun hc hr2 => ?_)
 refine yd nL10 ?_
 refine yu ((cs_qTable p1 w_p1)) (hS33.rf m2) ?_
 refine ya 1 33 (Pt b29 3) (yu ((cs_qExpr x28.Check w_x28.Check)) (hS33.rf m0) ?_)
 obtain ⟨⟨r44, r45⟩, hx_r39, hr2⟩ := bsm hr2
 refine y8 (r15_Resolve_ok (h_p1.mono (hl12.trans hl19)) h_x28.Check hS33 hx_r39) ?_
 rintro _ w40 ⟨I41, w_r44, rfl, hl42, hS43, h_r44⟩
 refine ⟨_, rfl, trivial, ?_⟩
 refine WO.vs 4 [(31, .tuple #[(.agg (cs_qExpr r44 w_r44).toArray), (Iv r45)]), (36, .agg (cs_qExpr r44 w_r44).toArray), (37, Iv r45)] (yx hS43 (cs_qExpr z_qExpr zw_qExpr) 39 ?_)
 intro b46 w49 hS48
 refine yw hS48 0 (cs_qExpr r44 w_r44) ?_
 intro w51 hS50
 refine ya 9 10 (Iv r45) (yz nL2 ?_)
 refine WO.vs 0 [(38, Iv r45), (8, Iv r45)] (yz nL2 ?_)
 refine WO.vs 0 [(39, Iv r45), (40, .bool (r45 == 0))] (yb ?_)
 obtain ⟨j52, hr3, hr2⟩ := bsm hr2
 refine W.jw (J := (fun fr w => ∃ I54, fr = [(2, Pt b1 0), (3, Pt b5 0), (6, Nv i20), (7, Pt b29 0), (8, Iv j52)] ∧ I41.Le I54 ∧ St E w I54 ((Bx b1 (cs_qCatalog p0 w_p0) 29) :: (Bx b5 (cs_qTable p1 w_p1) 89) :: (Bx b29 (cs_qCons x28 w_x28) 100) :: Os))) ?_ ?_
 refine W.cb hr3 (fun hc hr3 => ?_) (fun hc hr3 => ?_)
 have hS56 := hS50.drew
 refine yao nL5 3 (KR.cons (hS56.rd m0) (KR.cons (hS56.rd m3) (KR.nil hS56.im))) ?_
 generalize World.drew _ = w57 at *
 refine yu ((cs_qExpr r44 w_r44)) (rd_c m0 (hS56.rd m0)) ?_
 refine yu ((cs_qTable p1 w_p1)) (rd_c m1 (hS56.rd m3)) ?_
 obtain ⟨r63, hx_r58, hr3⟩ := bsm hr3
 refine y8 (r15_Cols_ok (h_p1.mono ((hl12.trans hl19).trans hl42)) hS56 hx_r58) ?_
 rintro _ w59 ⟨I60, a_r63, c_r63, rfl, hl61, hS62, h_r63⟩
 refine ⟨_, rfl, (KR.cons (hS62.rd m0) (KR.cons (hS62.rd m3) (KR.nil (hS62.im.of_le hl61)))), ?_⟩
 refine WO.tail rfl ?_
 obtain ⟨r69, hx_r64, hr3⟩ := bsm hr3
 refine y6 (r15_Bool_ok (h_r44.mono hl61) h_r63 SlAt.nil hS62 hx_r64) ?_
 intro I66 w65 hl67 hS68
 refine ya 4 8 (Iv r69) (WO.nil ?_)
 obtain rfl := sj hr3
 exact yo ⟨I66, rfl, (hl61.trans hl67), hS68.drop.front2.front2⟩
 refine yg ?_
 obtain rfl := sj hr3
 exact yo ⟨I41, rfl, lr, hS50.drop.front2.front2⟩
 rintro _ w76 ⟨I54, rfl, hl55, hS77⟩
 obtain rfl := sj hr2
 exact yo ⟨I54, rfl, (hl42.trans hl55), hS77⟩
 refine yg ?_
 obtain rfl := sj hr2
 exact yo ⟨I18, rfl, lr, hS33.front2.front2⟩
 rintro _ w80 ⟨I37, rfl, hl38, hS81⟩
 refine En.next (ye (yd nL3 ?_))
 refine ya 0 45 (Pt b29 1) (yf (v := (Iv x28.Kind)) (hS81.rf m2) ?_)
 refine ya 2 47 (.bool (x28.Kind == 3)) (yb ?_)
 obtain ⟨j82, hr2, hr1⟩ := bsm hr1
 refine W.jw (J := (fun fr w => ∃ I84, fr = [(2, Pt b1 0), (3, Pt b5 0), (6, Nv i20), (8, Iv j82)] ∧ I37.Le I84 ∧ St E w I84 ((Bx b1 (cs_qCatalog p0 w_p0) 29) :: (Bx b5 (cs_qTable p1 w_p1) 89) :: Os))) ?_ ?_
 refine W.cb hr2 (fun hc hr2 => ?_) (fun hc hr2 => ?_)
 refine yaa nL5 ?_
 refine yu ((cs_qCatalog p0 w_p0)) (hS81.rf m0) ?_
 refine yu ((cs_qTable p1 w_p1)) (hS81.rf m1) ?_
 refine yu ((cs_qCons x28 w_x28)) (hS81.rf m2) ?_
 obtain ⟨r91, hx_r86, hr2⟩ := bsm hr2
 refine y6 (r17_foreign_ok (h_p0.mono ((hl12.trans hl19).trans hl38)) (h_p1.mono ((hl12.trans hl19).trans hl38)) (h_x28.mono hl38) hS81 hx_r86) ?_
 intro I88 w87 hl89 hS90
 refine ya 4 8 (Iv r91) (WO.nil ?_)
 obtain rfl := sj hr2
 exact yo ⟨I88, rfl, hl89, hS90.front2.drop⟩
 refine yg ?_
 obtain rfl := sj hr2
 exact yo ⟨I37, rfl, lr, hS81.front2.drop⟩
 rintro _ w96 ⟨I84, rfl, hl85, hS97⟩
 refine En.next (yd nL2 ?_)
 refine WO.vs 0 [(52, Iv j82), (53, .bool (j82 != 0))] (yb (W.cb hr1 (fun hc hr1 => ?_) (fun hc hr1 => ?_)))
 refine yd nL2 ?_
 refine WO.vs 0 [(54, Iv j82), (4, Iv j82)] (yb (W.ret (yh (yc (ym ?_)))))
 obtain rfl := hext17 _ (sj hr1).symm
 refine yh (yc ?_)
 obtain rfl := sj hr
 exact yr ⟨I84, rfl, (((hl12.trans hl19).trans hl38).trans hl85), hS97.drop.drop⟩
 refine yg (yi (En.next (yaa nL3 ?_)))
 refine ya 0 21 (Nv i20) (y0 (j := i20) rfl (by kernel_rfl) rfl (by first | omega | (dsimp only at *; omega) | (simp only [List.length_cons, List.length_nil] at *; omega)) ?_)
 exact ya 2 6 (Iv ((i20 + 1 : Nat) : Int)) (WO.nil (yo ⟨(), (sj hr1).symm, I84, rfl, ((hl19.trans hl38).trans hl85), hS97⟩))
 rintro _ _ w104 ⟨I18, rfl, hl19, hS105⟩ he
 cases he
 refine ye (yd nL5 ?_)
 refine WO.vs 0 [(16, Nv p1.Cons.length), (17, Pt b5 4)] (yf (v := (Sl w_p1.Cons.a p1.Cons w_p1.Cons.c)) (hS105.rf m1) ?_)
 refine WO.vs 3 [(19, Nv p1.Cons.length), (20, .bool (decide ((p1.Cons.length : Int) < (p1.Cons.length : Int))))] (yb (yah (fun hc => ?_)))
 clear hc
 refine yy (yk (yl (yn (En.next (yd [0] ?_)))))
 refine ya 0 4 (Iv 0) (yb (W.ret ?_))
 obtain rfl := sj hr
 exact yr ⟨I18, rfl, (hl12.trans hl19), hS105.drop.drop⟩
noncomputable def r17_with (p0 : qCatalog) (p1 : qTable) : Option qCatalog := (loopO (fun (s24 : Int) => ((bif (decide (s24 < (p0.Tables.length : Int))) then (idx p0.Tables s24).bind (fun x38 => some (sLt x38.Name p1.Name)) else some false)).bind (fun (j34 : Bool) => (bif j34 then some (.inl (w64 (s24 + 1))) else some (.inr s24)))) 0).bind (fun (s42 : Int) => (sub p0.Tables 0 s42).bind (fun x45 => (app 112 ([] : List qTable) x45).bind (fun x48 => (app 112 x48 ([p1] : List qTable)).bind (fun x66 => (sub p0.Tables s42 (p0.Tables.length : Int)).bind (fun x80 => (app 112 x66 x80).bind (fun x82 => some { p0 with Tables := x82 }))))))
theorem r17_with_ok {p0 : qCatalog} {p1 : qTable} {w_p0 : W_qCatalog} {w_p1 : W_qTable} (h_p0 : ok_qCatalog I p0 w_p0) (h_p1 : ok_qTable I p1 w_p1) (hS : St E w I Os) {r : qCatalog} (hr : r17_with p0 p1 = some r) :
    Calls P 55 #[(.agg (cs_qCatalog p0 w_p0).toArray), (.agg (cs_qTable p1 w_p1).toArray)] w (fun e w' => ∃ I' w_rw0, e = .returned (.agg (cs_qCatalog r w_rw0).toArray) ∧ I.Le I' ∧ St E w' I' Os ∧ ok_qCatalog I' r w_rw0) := by
 refine calls_W (fn := Tryz.f55) rfl rfl rfl ?_
 unfold r17_with at hr
 refine yd nL3 ?_
 refine yx hS (cs_qCatalog p0 w_p0) 29 ?_
 intro b1 w4 hS3
 refine yx hS3 (cs_qTable p1 w_p1) 89 ?_
 intro b5 w8 hS7
 refine yx hS7 (cs_qCatalog z_qCatalog zw_qCatalog) 29 ?_
 intro b9 w12 hS11
 refine yz nL3 ?_
 refine yu ((cs_qCatalog p0 w_p0)) (hS11.rf m2) ?_
 refine yx hS11 (cs_qCatalog z_qCatalog zw_qCatalog) 29 ?_
 intro b13 w16 hS15
 refine yw hS15 0 (cs_qCatalog p0 w_p0) ?_
 intro w18 hS17
 refine yz nL2 ?_
 refine ya 0 8 (Pt b13 1) (yw hS17 1 (cs_qCatalog ({ p0 with Tables := ([] : List qTable) }) ({ w_p0 with Tables := ⟨none, 0⟩ })) ?_)
 intro w20 hS19
 refine yz [0] ?_
 refine ya 0 6 (Iv 0) (yb (ye (W.block ?_)))
 obtain ⟨t21, hloop25, hr⟩ := bsm hr
 refine W.wk (yap hloop25 (fun (s24 : Int) fr w => ∃ I22, fr = [(2, Pt b1 0), (3, Pt b5 0), (4, Pt b9 0), (5, Pt b13 0), (6, Iv s24)] ∧ I.Le I22 ∧ St E w I22 ((Bx b1 (cs_qCatalog p0 w_p0) 29) :: (Bx b5 (cs_qTable p1 w_p1) 89) :: (Bx b9 (cs_qCatalog z_qCatalog zw_qCatalog) 29) :: (Bx b13 (cs_qCatalog ({ p0 with Tables := ([] : List qTable) }) ({ w_p0 with Tables := ⟨none, 0⟩ })) 29) :: Os)) ⟨I, rfl, lr, hS19.front1.front2.front3⟩ ?_)
 rintro s24 _ w29 ⟨I22, rfl, hl23, hS30⟩ x31 hr1 hext21
 refine ye (ye ?_)
 have hS32 := hS30.drew
 refine yao nL16 16 (KR.cons (hS32.rd m0) (KR.cons (hS32.rd m1) (KR.nil hS32.im))) ?_
 generalize World.drew _ = w33 at *
 refine WO.vs 0 [(9, Iv s24), (10, Pt b1 1)] (yf (v := (Sl w_p0.Tables.a p0.Tables w_p0.Tables.c)) (rd_c m0 (hS32.rd m0)) ?_)
 refine WO.vs 3 [(12, Nv p0.Tables.length), (13, .bool (decide (s24 < (p0.Tables.length : Int)))), (14, .bool (decide (s24 < (p0.Tables.length : Int))))] ?_
 obtain ⟨j34, hr2, hr1⟩ := bsm hr1
 refine WO.jw (l1 := [6, 7, 8, 9, 10, 11, 12, 13, 14, 15]) (J := (fun fr w => ∃ I36, fr = [(2, Pt b1 0), (3, Pt b5 0), (4, Pt b9 0), (5, Pt b13 0), (6, Iv s24), (24, .bool j34)] ∧ I22.Le I36 ∧ St E w I36 ((Bx b1 (cs_qCatalog p0 w_p0) 29) :: (Bx b5 (cs_qTable p1 w_p1) 89) :: (Bx b9 (cs_qCatalog z_qCatalog zw_qCatalog) 29) :: (Bx b13 (cs_qCatalog ({ p0 with Tables := ([] : List qTable) }) ({ w_p0 with Tables := ⟨none, 0⟩ })) 29) :: Os))) ?_ ?_
 refine WO.cb hr2 (fun hc hr2 => ?_) (fun hc hr2 => ?_)
 refine yj 14 hc (ya 6 15 (Pt b1 1) (yf (v := (Sl w_p0.Tables.a p0.Tables w_p0.Tables.c)) (rd_c m0 (hS32.rd m0)) ?_))
 refine ya 8 17 (Iv s24) ?_
 obtain ⟨x38, hr2, h0_x38, h1_x38, hx_x38, ha_x38, _, _, ⟨w_x38, rfl, h_x38⟩, hc_x38⟩ := sl_at ((RSl.mono h_p0.Tables hl23)) hr2
 refine yq 89 6 ha_x38 h0_x38 h1_x38 ?_
 refine ya 10 19 (.pointer (some ⟨bl w_p0.Tables.a, of w_p0.Tables.a + (s24).toNat * 6, none⟩)) (yae (v := (.string x38.Name)) hc_x38 (rd_i hS32.im) ?_)
 refine ya 12 21 (Pt b5 0) (yf (v := (.string p1.Name)) (rd_c m1 (hS32.rd m1)) ?_)
 refine WO.vs 14 [(23, .bool (sLt x38.Name p1.Name)), (24, .bool (sLt x38.Name p1.Name))] ?_
 obtain rfl := sj hr2
 exact yv ⟨I22, rfl, lr, hS32⟩
 refine yj 14 hc ?_
 iterate 9 refine yt ?_
 refine ya 15 24 (.bool false) ?_
 obtain rfl := sj hr2
 exact yv ⟨I22, rfl, lr, hS32⟩
 rintro _ w39 ⟨I36, rfl, hl37, hS40⟩
 refine yb (W.cb hr1 (fun hc hr1 => ?_) (fun hc hr1 => ?_))
 refine yg (En.next (W.block (yaa nL3 ?_)))
 exact WO.vs 0 [(25, Iv s24), (26, Iv (w64 (s24 + 1))), (6, Iv (w64 (s24 + 1)))] (WO.nil (yi (yo ⟨(w64 (s24 + 1)), (sj hr1).symm, I36, rfl, (hl23.trans hl37), hS40⟩)))
 refine yy (yk (yl ?_))
 obtain rfl := hext21 _ (sj hr1).symm
 refine yn (En.next (ye ?_))
 have hS105 := hS40.drew
 refine yao nL9 6 (KR.cons (hS105.rd m0) (KR.cons (hS105.rd m3) (KR.nil hS105.im))) ?_
 generalize World.drew _ = w106 at *
 refine ya 0 27 (Pt b13 1) (yf (v := (.slice none 0 0)) (rd_c m1 (hS105.rd m3)) ?_)
 refine ya 2 29 (Pt b1 1) (yf (v := (Sl w_p0.Tables.a p0.Tables w_p0.Tables.c)) (rd_c m0 (hS105.rd m0)) ?_)
 refine ya 4 31 (Iv s24) ?_
 obtain ⟨x107, hx_x107, hr⟩ := bsm hr
 obtain ⟨h0_x107, h1_x107, h2_x107, he_x107⟩ := sub_some hx_x107
 have hl_x107 : (s24 : Int) ≤ (w_p0.Tables.c : Int) := Int.le_trans h2_x107 (Int.ofNat_le.2 ((RSl.mono h_p0.Tables (hl23.trans hl37))).le)
 refine WO.slice (e := 89) (sz := 6) rfl (by kernel_rfl) (by kernel_rfl) (by kernel_rfl) rfl (0 : Int) (s24 : Int) h0_x107 (.inl ⟨rfl, rfl⟩) (.inr ⟨_, _, rfl, rfl⟩) h1_x107 hl_x107 ?_
 obtain ⟨a_x107, c_x107, h_x107, ev_x107⟩ := sub_ok ((RSl.mono h_p0.Tables (hl23.trans hl37))) h0_x107 h1_x107 h2_x107 he_x107
 refine y7 32 rfl ev_x107 ?_
 refine WO.tail rfl ?_
 have hS109 := hS105.no
 obtain ⟨x110, hx_x110, hr⟩ := bsm hr
 obtain ⟨h0_x110, he_x110⟩ := app_some hx_x110
 refine WO.append (e' := 89) (b := 112) (zs := (cs_qTable z_qTable zw_qTable).toArray) hS109 (OwnSl.nil (T := 89) (rel := R_qTable) (I := I36)) rfl (by kernel_rfl) rfl (by kernel_rfl) (by kernel_rfl) (by kernel_rfl) rfl rfl rfl rfl h_x107 hS109.im h0_x110 he_x110 (fun _ _ _ => trivial) ?_
 intro a111 c112 w113 C114 hS115 ho116
 refine ya 7 34 (Pt b13 1) (yw hS115.front4 1 (cs_qCatalog ({ p0 with Tables := x110 }) ({ w_p0 with Tables := ⟨a111, c112⟩ })) ?_)
 intro w119 hS118
 refine yz nL7 ?_
 refine ya 0 35 (Pt b13 1) (yf (v := (Sl a111 x110 c112)) (hS118.rf m0) ?_)
 refine yu ((cs_qTable p1 w_p1)) (hS118.rf m3) ?_
 refine y3 (rel := R_qTable) (xs := ([p1] : List qTable)) hS118 rfl (by kernel_rfl) rfl 89 6 [(cs_qTable p1 w_p1)] (by kernel_rfl) rfl ((Elr.cons ⟨w_p1, rfl, (h_p1.mono (hl23.trans hl37))⟩ Elr.nil)) (fun _ _ _ => trivial) ?_
 intro a123 C121 w125 hS124 ho122
 have hS127 := hS124.front2
 obtain ⟨x128, hx_x128, hr⟩ := bsm hr
 obtain ⟨h0_x128, he_x128⟩ := app_some hx_x128
 refine WO.ap 89 112 (cs_qTable z_qTable zw_qTable) hS127 ho116 ho122.sl (hS127.rd m1) h0_x128 he_x128 ?_
 intro a129 c130 w131 C132 hS133 ho134
 refine ya 5 40 (Pt b13 1) (yw hS133.front1.drop.front1 1 (cs_qCatalog ({ p0 with Tables := x128 }) ({ w_p0 with Tables := ⟨a129, c130⟩ })) ?_)
 intro w139 hS138
 refine yb (ye ?_)
 have hS140 := hS138.drew
 refine yao nL9 6 (KR.cons (hS140.rd m0) (KR.cons (hS140.rd m2) (KR.nil hS140.im))) ?_
 generalize World.drew _ = w141 at *
 refine ya 0 41 (Pt b13 1) (yf (v := (Sl a129 x128 c130)) (rd_c m0 (hS140.rd m0)) ?_)
 refine ya 2 43 (Pt b1 1) (yf (v := (Sl w_p0.Tables.a p0.Tables w_p0.Tables.c)) (rd_c m1 (hS140.rd m2)) ?_)
 refine ya 4 45 (Iv s24) ?_
 obtain ⟨x142, hx_x142, hr⟩ := bsm hr
 obtain ⟨h0_x142, h1_x142, h2_x142, he_x142⟩ := sub_some hx_x142
 have hl_x142 : ((p0.Tables.length : Int) : Int) ≤ (w_p0.Tables.c : Int) := Int.le_trans h2_x142 (Int.ofNat_le.2 ((RSl.mono h_p0.Tables (hl23.trans hl37))).le)
 refine WO.slice (e := 89) (sz := 6) rfl (by kernel_rfl) (by kernel_rfl) (by kernel_rfl) rfl (s24 : Int) ((p0.Tables.length : Int) : Int) h0_x142 (.inr ⟨_, _, rfl, rfl⟩) (.inl ⟨rfl, rfl⟩) h1_x142 hl_x142 ?_
 obtain ⟨a_x142, c_x142, h_x142, ev_x142⟩ := sub_ok ((RSl.mono h_p0.Tables (hl23.trans hl37))) h0_x142 h1_x142 h2_x142 he_x142
 refine y7 46 rfl ev_x142 ?_
 refine WO.tail rfl ?_
 have hS143 := hS140.front1
 obtain ⟨x144, hx_x144, hr⟩ := bsm hr
 obtain ⟨h0_x144, he_x144⟩ := app_some hx_x144
 refine WO.ap 89 112 (cs_qTable z_qTable zw_qTable) hS143 ho134 h_x142 hS143.im h0_x144 he_x144 ?_
 intro a145 c146 w147 C148 hS149 ho150
 refine ya 7 48 (Pt b13 1) (yw hS149.front1 1 (cs_qCatalog ({ p0 with Tables := x144 }) ({ w_p0 with Tables := ⟨a145, c146⟩ })) ?_)
 intro w153 hS152
 refine yz nL2 ?_
 refine yu ((cs_qCatalog ({ p0 with Tables := x144 }) ({ w_p0 with Tables := ⟨a145, c146⟩ }))) (hS152.rf m0) ?_
 obtain ⟨I155, hl156, hS158, hp157⟩ := y4 ho150 hS152.front1
 refine yw hS158.front3 0 (cs_qCatalog ({ p0 with Tables := x144 }) ({ w_p0 with Tables := ⟨a145, c146⟩ })) ?_
 intro w161 hS160
 refine yb (W.ret ?_)
 have hk166 : ok_qCatalog I155 ({ p0 with Tables := x144 }) ({ w_p0 with Tables := ⟨a145, c146⟩ }) := ⟨hp157, (RSl.mono h_p0.Roles ((hl23.trans hl37).trans hl156)), (RSl.mono h_p0.Grants ((hl23.trans hl37).trans hl156))⟩
 obtain rfl := sj hr
 exact yay _ (hS160.rd m0) ⟨I155, ({ w_p0 with Tables := ⟨a145, c146⟩ }), rfl, ((hl23.trans hl37).trans hl156), hS160.drop.drop.drop.drop, hk166⟩
noncomputable def r17_Make (p0 : qCatalog) (p1 : qStmt) (p2 : ByteArray) (p3 : Int) : Option (qCatalog × Int) := (bif ((decide (p1.Kind < 1)) || (decide (p1.Kind > 9))) then some (z_qCatalog, 2) else (r17_At p0 p1.Table).bind (fun r25 => (bif ((p1.Kind == 1) && (decide (r25 ≥ 0))) then some (z_qCatalog, 19) else (bif ((p1.Kind == 1) && (decide ((p0.Tables.length : Int) ≥ 8))) then some (z_qCatalog, 5) else (bif ((p1.Kind != 1) && (decide (r25 < 0))) then some (z_qCatalog, 4) else (r17_without p0 p1.Table).bind (fun r52 => ((bif (p1.Kind == 1) then some (.inl ((0 : Int), z_qCatalog, r52.Version, r52.Tables, r52.Roles, r52.Grants, { z_qTable with Name := p1.Table, Owner := p2, Cols := p1.Cols, Cons := p1.Cons })) else ((bif (p1.Kind == 2) then (r17_refers_nilsl p0 p1.Table p1.Table (⟨#[]⟩ : ByteArray)).bind (fun r90 => (bif r90 then some (.inl (34, z_qCatalog, z_qTable)) else (forE (fun (i124 : Nat) => fun (s123 : List qGrant) => (idx p0.Grants (i124 : Int)).bind (fun x140 => ((bif (!sEq x140.Table p1.Table) then (idx p0.Grants (i124 : Int)).bind (fun x147 => (app 64 s123 ([x147] : List qGrant)).bind (fun x156 => some x156)) else some s123)).bind (fun (j141 : List qGrant) => some j141))) p0.Grants.length 0 ([] : List qGrant)).bind (fun s123 => some (.inr ((0 : Int), z_qCatalog, r52.Version, r52.Tables, r52.Roles, s123, z_qTable))))) else ((bif (p1.Kind == 5) then (r17_At p0 p1.Name).bind (fun r199 => (bif (decide (r199 ≥ 0)) then some (.inl (19, z_qCatalog, z_qTable)) else (idx p0.Tables r25).bind (fun x219 => (r17_renamed p0 x219 p1.Name).bind (fun (r225, r226) => some (.inr ((0 : Int), z_qCatalog, r225.Version, r225.Tables, r225.Roles, r225.Grants, r226)))))) else (idx p0.Tables r25).bind (fun x246 => (r17_turned p0 x246 p1).bind (fun (r252, r253) => some (.inr (r253, z_qCatalog, r52.Version, r52.Tables, r52.Roles, r52.Grants, r252)))))).bind (fun (t : (Int × qCatalog × qTable) ⊕ (Int × qCatalog × Int × (List qTable) × (List qRole) × (List qGrant) × qTable)) => match t with | (.inl (s204, s205, s206)) => some (.inl (s204, s205, s206)) | (.inr (s233, s234, s235, s236, s237, s238, s239)) => some (.inr (s233, s234, s235, s236, s237, s238, s239))))).bind (fun (t : (Int × qCatalog × qTable) ⊕ (Int × qCatalog × Int × (List qTable) × (List qRole) × (List qGrant) × qTable)) => match t with | (.inl (s95, s96, s97)) => some (.inr (s95, s96, s97)) | (.inr (s178, s179, s180, s181, s182, s183, s184)) => some (.inl (s178, s179, s180, s181, s182, s183, s184))))).bind (fun (t : (Int × qCatalog × Int × (List qTable) × (List qRole) × (List qGrant) × qTable) ⊕ (Int × qCatalog × qTable)) => match t with | (.inl (s69, s70, s71, s72, s73, s74, s75)) => ((bif ((s69 == 0) && (p1.Kind != 2)) then (r17_Sound (⟨s71, s72, s73, s74⟩ : qCatalog) s75).bind (fun r278 => some r278) else some s69)).bind (fun (j268 : Int) => ((bif ((j268 == 0) && (decide (p0.Version ≥ p3))) then some 52 else some j268)).bind (fun (j283 : Int) => (bif (j283 != 0) then some (z_qCatalog, j283) else ((bif (p1.Kind != 2) then (r17_with (⟨s71, s72, s73, s74⟩ : qCatalog) ({ s75 with Version := (w64 (p0.Version + 1)) })).bind (fun r311 => some (r311.Version, r311.Tables, r311.Roles, r311.Grants, { s75 with Version := (w64 (p0.Version + 1)) })) else some (s71, s72, s73, s74, s75))).bind (fun ((s315, s316, s317, s318, s319) : Int × (List qTable) × (List qRole) × (List qGrant) × qTable) => some ((⟨(w64 (p0.Version + 1)), s316, s317, s318⟩ : qCatalog), 0))))) | (.inr (s99, s100, s101)) => some (s100, s99))))))))
theorem r17_Make_ok {p0 : qCatalog} {p1 : qStmt} {p2 : ByteArray} {p3 : Int} {w_p0 : W_qCatalog} {w_p1 : W_qStmt} (h_p0 : ok_qCatalog I p0 w_p0) (h_p1 : ok_qStmt I p1 w_p1) (hS : St E w I Os) {r : qCatalog × Int} (hr : r17_Make p0 p1 p2 p3 = some r) :
    Calls P 31 #[(.agg (cs_qCatalog p0 w_p0).toArray), (.agg (cs_qStmt p1 w_p1).toArray), (.string p2), (Iv p3)] w (fun e w' => ∃ I' w_rw0, e = .returned (.tuple #[(.agg (cs_qCatalog r.1 w_rw0).toArray), (Iv r.2)]) ∧ I.Le I' ∧ St E w' I' Os ∧ ok_qCatalog I' r.1 w_rw0) := by
 refine calls_W (fn := Tryz.f31) rfl rfl rfl ?_
 unfold r17_Make at hr
 refine yd nL4 ?_
 refine yx hS (cs_qCatalog p0 w_p0) 29 ?_
 intro b1 w4 hS3
 refine yx hS3 (cs_qStmt p1 w_p1) 44 ?_
 intro b5 w8 hS7
 refine yx hS7 (cs_qCatalog z_qCatalog zw_qCatalog) 29 ?_
 intro b9 w12 hS11
 refine ya 3 9 (Iv 0) (yb (ye (yd nL8 ?_)))
 refine ya 0 15 (Pt b5 0) (yf (v := (Iv p1.Kind)) (hS11.rf m1) ?_)
 refine WO.vs 2 [(17, .bool (decide (p1.Kind < 1))), (18, .bool (decide (p1.Kind < 1)))] (yac (l1 := [4, 5, 6, 7]) 22 ((decide (p1.Kind < 1)) || (decide (p1.Kind > 9))) ?_ ?_)
 refine yp (decide (p1.Kind < 1)) (fun hc => ?_) (fun hc => ?_)
 refine yj 18 hc ?_
 iterate 3 refine yt ?_
 exact ya 7 22 (.bool true) (WO.mk 18 hc (by rw [hc]; rfl))
 refine yj 18 hc (ya 4 19 (Pt b5 0) (yf (v := (Iv p1.Kind)) (hS11.rf m1) ?_))
 exact WO.vs 6 [(21, .bool (decide (p1.Kind > 9))), (22, .bool (decide (p1.Kind > 9)))] (WO.mk 18 hc (by rw [hc]; rfl))
 refine yb (W.cb hr (fun hc hr => ?_) (fun hc hr => ?_))
 refine yd nL3 ?_
 refine ya 0 23 (.agg (cs_qCatalog z_qCatalog zw_qCatalog).toArray) (yw hS11 0 (cs_qCatalog z_qCatalog zw_qCatalog) ?_)
 intro w16 hS15
 refine ya 2 9 (Iv 2) (yb (W.ret (yc ?_)))
 obtain rfl := sj hr
 exact yak _ (hS15.rd m0) ⟨I, zw_qCatalog, rfl, lr, hS15.drop.drop.drop, zok_qCatalog⟩
 refine yg (En.next (yd nL5 ?_))
 refine yu ((cs_qCatalog p0 w_p0)) (hS11.rf m2) ?_
 refine ya 1 25 (Pt b5 1) (yf (v := (.string p1.Table)) (hS11.rf m1) ?_)
 obtain ⟨r25, hx_r20, hr⟩ := bsm hr
 refine y6 (r17_At_ok h_p0 hS11 hx_r20) ?_
 intro I22 w21 hl23 hS24
 refine ya 4 10 (Iv r25) (yb (ye (yd nL7 ?_)))
 refine ya 0 28 (Pt b5 0) (yf (v := (Iv p1.Kind)) (hS24.rf m1) ?_)
 refine WO.vs 2 [(30, .bool (p1.Kind == 1)), (31, .bool (p1.Kind == 1))] (yac (l1 := [4, 5, 6]) 34 ((p1.Kind == 1) && (decide (r25 ≥ 0))) ?_ ?_)
 refine yp (p1.Kind == 1) (fun hc => ?_) (fun hc => ?_)
 exact yj 31 hc (WO.vs 4 [(32, Iv r25), (33, .bool (decide (r25 ≥ 0))), (34, .bool (decide (r25 ≥ 0)))] (WO.mk 31 hc (by rw [hc]; rfl)))
 refine yj 31 hc ?_
 iterate 2 refine yt ?_
 exact ya 6 34 (.bool false) (WO.mk 31 hc (by rw [hc]; rfl))
 refine yb (W.cb hr (fun hc hr => ?_) (fun hc hr => ?_))
 refine yd nL3 ?_
 refine ya 0 35 (.agg (cs_qCatalog z_qCatalog zw_qCatalog).toArray) (yw hS24 0 (cs_qCatalog z_qCatalog zw_qCatalog) ?_)
 intro w29 hS28
 refine ya 2 9 (Iv 19) (yb (W.ret (yc ?_)))
 obtain rfl := sj hr
 exact yak _ (hS28.rd m0) ⟨I22, zw_qCatalog, rfl, hl23, hS28.drop.drop.drop, zok_qCatalog⟩
 refine yg (En.next (ye (yd nL9 ?_)))
 refine ya 0 36 (Pt b5 0) (yf (v := (Iv p1.Kind)) (hS24.rf m1) ?_)
 refine WO.vs 2 [(38, .bool (p1.Kind == 1)), (39, .bool (p1.Kind == 1))] (yac (l1 := [4, 5, 6, 7, 8]) 44 ((p1.Kind == 1) && (decide ((p0.Tables.length : Int) ≥ 8))) ?_ ?_)
 refine yp (p1.Kind == 1) (fun hc => ?_) (fun hc => ?_)
 refine yj 39 hc (ya 4 40 (Pt b1 1) (yf (v := (Sl w_p0.Tables.a p0.Tables w_p0.Tables.c)) (hS24.rf m2) ?_))
 exact WO.vs 6 [(42, Nv p0.Tables.length), (43, .bool (decide ((p0.Tables.length : Int) ≥ 8))), (44, .bool (decide ((p0.Tables.length : Int) ≥ 8)))] (WO.mk 39 hc (by rw [hc]; rfl))
 refine yj 39 hc ?_
 iterate 4 refine yt ?_
 exact ya 8 44 (.bool false) (WO.mk 39 hc (by rw [hc]; rfl))
 refine yb (W.cb hr (fun hc hr => ?_) (fun hc hr => ?_))
 refine yd nL3 ?_
 refine ya 0 45 (.agg (cs_qCatalog z_qCatalog zw_qCatalog).toArray) (yw hS24 0 (cs_qCatalog z_qCatalog zw_qCatalog) ?_)
 intro w36 hS35
 refine ya 2 9 (Iv 5) (yb (W.ret (yc ?_)))
 obtain rfl := sj hr
 exact yak _ (hS35.rd m0) ⟨I22, zw_qCatalog, rfl, hl23, hS35.drop.drop.drop, zok_qCatalog⟩
 refine yg (En.next (ye (yd nL7 ?_)))
 refine ya 0 46 (Pt b5 0) (yf (v := (Iv p1.Kind)) (hS24.rf m1) ?_)
 refine WO.vs 2 [(48, .bool (p1.Kind != 1)), (49, .bool (p1.Kind != 1))] (yac (l1 := [4, 5, 6]) 52 ((p1.Kind != 1) && (decide (r25 < 0))) ?_ ?_)
 refine yp (p1.Kind != 1) (fun hc => ?_) (fun hc => ?_)
 exact yj 49 hc (WO.vs 4 [(50, Iv r25), (51, .bool (decide (r25 < 0))), (52, .bool (decide (r25 < 0)))] (WO.mk 49 hc (by rw [hc]; rfl)))
 refine yj 49 hc ?_
 iterate 2 refine yt ?_
 exact ya 6 52 (.bool false) (WO.mk 49 hc (by rw [hc]; rfl))
 refine yb (W.cb hr (fun hc hr => ?_) (fun hc hr => ?_))
 refine yd nL3 ?_
 refine ya 0 53 (.agg (cs_qCatalog z_qCatalog zw_qCatalog).toArray) (yw hS24 0 (cs_qCatalog z_qCatalog zw_qCatalog) ?_)
 intro w43 hS42
 refine ya 2 9 (Iv 4) (yb (W.ret (yc ?_)))
 obtain rfl := sj hr
 exact yak _ (hS42.rd m0) ⟨I22, zw_qCatalog, rfl, hl23, hS42.drop.drop.drop, zok_qCatalog⟩
 refine yg (En.next (yd nL6 ?_))
 refine yu ((cs_qCatalog p0 w_p0)) (hS24.rf m2) ?_
 refine ya 1 55 (Pt b5 1) (yf (v := (.string p1.Table)) (hS24.rf m1) ?_)
 obtain ⟨r52, hx_r47, hr⟩ := bsm hr
 refine y8 (r17_without_ok (h_p0.mono hl23) hS24 hx_r47) ?_
 rintro _ w48 ⟨I49, w_r52, rfl, hl50, hS51, h_r52⟩
 refine ⟨_, rfl, trivial, ?_⟩
 refine yx hS51 (cs_qCatalog z_qCatalog zw_qCatalog) 29 ?_
 intro b53 w56 hS55
 refine yw hS55 0 (cs_qCatalog r52 w_r52) ?_
 intro w58 hS57
 refine yz [0] ?_
 refine yx hS57 (cs_qTable z_qTable zw_qTable) 89 ?_
 intro b59 w62 hS61
 refine yz [0] ?_
 refine ya 0 13 (Iv 0) (yb (ye (yd nL2 ?_)))
 refine ya 0 58 (Pt b5 0) (yf (v := (Iv p1.Kind)) (hS61.rf m3) ?_)
 refine yb (W.block (yd nL2 ?_))
 refine WO.vs 0 [(72, .bool (p1.Kind == 1)), (71, .bool (p1.Kind == 1))] (yb ?_)
 obtain ⟨j63, hr1, hr⟩ := bsm hr
 refine W.jw (J := (fun fr w => ∃ (s69 : Int) (s70 : qCatalog) (s71 : Int) (s72 : List qTable) (s73 : List qRole) (s74 : List qGrant) (s75 : qTable), ∃ I65 w_s70 a_s72 c_s72 a_s73 c_s73 a_s74 c_s74 w_s75, (.inl (s69, s70, s71, s72, s73, s74, s75)) = j63 ∧ fr = [(3, Iv p3), (4, Pt b1 0), (5, Pt b5 0), (8, Pt b9 0), (11, Pt b53 0), (12, Pt b59 0), (13, Iv s69)] ∧ I49.Le I65 ∧ St E w I65 ((Bx b1 (cs_qCatalog p0 w_p0) 29) :: (Bx b5 (cs_qStmt p1 w_p1) 44) :: (Bx b9 (cs_qCatalog s70 w_s70) 29) :: (Bx b53 (cs_qCatalog (⟨s71, s72, s73, s74⟩ : qCatalog) (⟨⟨a_s72, c_s72⟩, ⟨a_s73, c_s73⟩, ⟨a_s74, c_s74⟩⟩ : W_qCatalog)) 29) :: (Bx b59 (cs_qTable s75 w_s75) 89) :: Os) ∧ ok_qCatalog I65 s70 w_s70 ∧ RSl 6 R_qTable I65 a_s72 c_s72 s72 ∧ RSl 2 R_qRole I65 a_s73 c_s73 s73 ∧ RSl 5 R_qGrant I65 a_s74 c_s74 s74 ∧ ok_qTable I65 s75 w_s75)) ?_ ?_
 refine W.cb hr1 (fun hc hr1 => ?_) (fun hc hr1 => ?_)
 refine yaa nL9 ?_
 refine ya 0 73 (Pt b5 1) (yf (v := (.string p1.Table)) (hS61.rf m3) ?_)
 refine WO.vs 2 [(75, .string p2), (76, Pt b5 4)] (yf (v := (Sl w_p1.Cols.a p1.Cols w_p1.Cols.c)) (hS61.rf m3) ?_)
 refine ya 5 78 (Pt b5 5) (yf (v := (Sl w_p1.Cons.a p1.Cons w_p1.Cons.c)) (hS61.rf m3) ?_)
 refine ya 7 80 (.agg (cs_qTable ({ z_qTable with Name := p1.Table, Owner := p2, Cols := p1.Cols, Cons := p1.Cons }) ({ zw_qTable with Cols := ⟨w_p1.Cols.a, w_p1.Cols.c⟩, Cons := ⟨w_p1.Cons.a, w_p1.Cons.c⟩ })).toArray) (yw hS61 0 (cs_qTable ({ z_qTable with Name := p1.Table, Owner := p2, Cols := p1.Cols, Cons := p1.Cons }) ({ zw_qTable with Cols := ⟨w_p1.Cols.a, w_p1.Cols.c⟩, Cons := ⟨w_p1.Cons.a, w_p1.Cons.c⟩ })) ?_)
 intro w68 hS67
 refine WO.nil ?_
 have hk76 : ok_qTable I49 ({ z_qTable with Name := p1.Table, Owner := p2, Cols := p1.Cols, Cons := p1.Cons }) ({ zw_qTable with Cols := ⟨w_p1.Cols.a, w_p1.Cols.c⟩, Cons := ⟨w_p1.Cons.a, w_p1.Cons.c⟩ }) := ⟨(RSl.mono h_p1.Cols (hl23.trans hl50)), (RSl.mono h_p1.Cons (hl23.trans hl50)), SlAt.nil⟩
 exact yo ⟨0, z_qCatalog, r52.Version, r52.Tables, r52.Roles, r52.Grants, { z_qTable with Name := p1.Table, Owner := p2, Cols := p1.Cols, Cons := p1.Cons }, I49, zw_qCatalog, w_r52.Tables.a, w_r52.Tables.c, w_r52.Roles.a, w_r52.Roles.c, w_r52.Grants.a, w_r52.Grants.c, ({ zw_qTable with Cols := ⟨w_p1.Cols.a, w_p1.Cols.c⟩, Cons := ⟨w_p1.Cons.a, w_p1.Cons.c⟩ }), sj hr1, rfl, lr, hS67.front1.front2.front3.front4, zok_qCatalog, h_r52.Tables, h_r52.Roles, h_r52.Grants, hk76⟩
 refine yd nL2 ?_
 refine WO.vs 0 [(82, .bool (p1.Kind == 2)), (81, .bool (p1.Kind == 2))] (yb ?_)
 obtain ⟨j81, hr2, hr1⟩ := bsm hr1
 refine W.jw (J := (fun fr w => ∃ (s178 : Int) (s179 : qCatalog) (s180 : Int) (s181 : List qTable) (s182 : List qRole) (s183 : List qGrant) (s184 : qTable), ∃ I83 w_s179 a_s181 c_s181 a_s182 c_s182 a_s183 c_s183 w_s184, (.inr (s178, s179, s180, s181, s182, s183, s184)) = j81 ∧ fr = [(3, Iv p3), (4, Pt b1 0), (5, Pt b5 0), (8, Pt b9 0), (11, Pt b53 0), (12, Pt b59 0), (13, Iv s178)] ∧ I49.Le I83 ∧ St E w I83 ((Bx b1 (cs_qCatalog p0 w_p0) 29) :: (Bx b5 (cs_qStmt p1 w_p1) 44) :: (Bx b9 (cs_qCatalog s179 w_s179) 29) :: (Bx b53 (cs_qCatalog (⟨s180, s181, s182, s183⟩ : qCatalog) (⟨⟨a_s181, c_s181⟩, ⟨a_s182, c_s182⟩, ⟨a_s183, c_s183⟩⟩ : W_qCatalog)) 29) :: (Bx b59 (cs_qTable s184 w_s184) 89) :: Os) ∧ ok_qCatalog I83 s179 w_s179 ∧ RSl 6 R_qTable I83 a_s181 c_s181 s181 ∧ RSl 2 R_qRole I83 a_s182 c_s182 s182 ∧ RSl 5 R_qGrant I83 a_s183 c_s183 s183 ∧ ok_qTable I83 s184 w_s184)) ?_ ?_
 refine W.cb hr2 (fun hc hr2 => ?_) (fun hc hr2 => ?_)
 refine ye (yd nL6 ?_)
 refine yu ((cs_qCatalog p0 w_p0)) (hS61.rf m4) ?_
 refine ya 1 84 (Pt b5 1) (yf (v := (.string p1.Table)) (hS61.rf m3) ?_)
 refine ya 3 86 (Pt b5 1) (yf (v := (.string p1.Table)) (hS61.rf m3) ?_)
 obtain ⟨r90, hx_r85, hr2⟩ := bsm hr2
 refine y6 (r17_refers_nilsl_ok (h_p0.mono (hl23.trans hl50)) hS61 hx_r85) ?_
 intro I87 w86 hl88 hS89
 refine yb (W.cb hr2 (fun hc hr2 => ?_) (fun hc hr2 => ?_))
 refine yd nL3 ?_
 refine ya 0 89 (.agg (cs_qCatalog z_qCatalog zw_qCatalog).toArray) (yw hS89.front2 0 (cs_qCatalog z_qCatalog zw_qCatalog) ?_)
 intro w93 hS92
 refine ya 2 9 (Iv 34) (yb (W.ret (yc (ym ?_))))
 obtain rfl := sj hr2
 refine ym ?_
 obtain rfl := sj hr1
 refine yh (yc ?_)
 obtain rfl := sj hr
 exact yak _ (hS92.rd m0) ⟨I87, zw_qCatalog, rfl, ((hl23.trans hl50).trans hl88), hS92.drop.drop.drop.drop.drop, zok_qCatalog⟩
 refine yg (En.next (yd nL2 ?_))
 refine ya 0 90 (Pt b53 3) (yw hS89.front1 3 (cs_qCatalog ({ r52 with Grants := ([] : List qGrant) }) ({ w_r52 with Grants := ⟨none, 0⟩ })) ?_)
 intro w119 hS118
 refine yz [0] ?_
 refine ya 0 14 (Iv 0) (yb (W.block ?_))
 obtain ⟨s123, hloop125, hr2⟩ := bsm hr2
 have hlt136 := ((RSl.mono h_p0.Grants ((hl23.trans hl50).trans hl88))).len_lt
 refine W.wk (W.forE (m := p0.Grants.length) hloop125 (fun (i124 : Nat) => fun (s123 : List qGrant) fr w => ∃ I121 a_s123 c_s123 C_s123, fr = [(3, Iv p3), (4, Pt b1 0), (5, Pt b5 0), (8, Pt b9 0), (11, Pt b53 0), (12, Pt b59 0), (13, Iv 0), (14, Nv i124)] ∧ I87.Le I121 ∧ St E w I121 ((Bx b1 (cs_qCatalog p0 w_p0) 29) :: (Bx b5 (cs_qStmt p1 w_p1) 44) :: (Bx b9 (cs_qCatalog z_qCatalog zw_qCatalog) 29) :: (Bx b53 (cs_qCatalog ({ r52 with Grants := s123 }) ({ w_r52 with Grants := ⟨a_s123, c_s123⟩ })) 29) :: (Bx b59 (cs_qTable z_qTable zw_qTable) 89) :: (C_s123) :: Os) ∧ OwnSl 67 5 R_qGrant I121 C_s123 a_s123 c_s123 s123) ⟨I87, none, 0, Mem.no, rfl, lr, hS118.no.front2.front2.front3.front4.front5, OwnSl.nil⟩ ?_ ?_)
 rintro i124 s123 _ w133 hi137 ⟨I121, a_s123, c_s123, C_s123, rfl, hl122, hS134, h_s123⟩ x135 hr3
 refine ye (yd nL5 ?_)
 refine WO.vs 0 [(91, Nv i124), (92, Pt b1 3)] (yf (v := (Sl w_p0.Grants.a p0.Grants w_p0.Grants.c)) (hS134.rf m0) ?_)
 refine WO.vs 3 [(94, Nv p0.Grants.length), (95, .bool (decide ((i124 : Int) < (p0.Grants.length : Int))))] (yb (yag (fun hc => ?_)))
 clear hc
 refine yg (En.next (ye (W.block (ye ?_))))
 have hS138 := hS134.drew
 refine yao nL9 8 (KR.cons (hS138.rd m0) (KR.cons (hS138.rd m1) (KR.nil hS138.im))) ?_
 generalize World.drew _ = w139 at *
 refine ya 0 98 (Pt b1 3) (yf (v := (Sl w_p0.Grants.a p0.Grants w_p0.Grants.c)) (rd_c m0 (hS138.rd m0)) ?_)
 refine ya 2 100 (Nv i124) ?_
 obtain ⟨x140, hr3, h0_x140, h1_x140, hx_x140, ha_x140, _, _, rfl, hc_x140⟩ := sl_at ((RSl.mono h_p0.Grants (((hl23.trans hl50).trans hl88).trans hl122))) hr3
 refine yq 67 5 ha_x140 h0_x140 h1_x140 ?_
 refine ya 4 102 (.pointer (some ⟨bl w_p0.Grants.a, of w_p0.Grants.a + ((i124 : Int)).toNat * 5 + 2, none⟩)) (WO.le (v := (.string x140.Table)) hc_x140 2 (rd_i hS138.im) ?_)
 refine ya 6 104 (Pt b5 1) (yf (v := (.string p1.Table)) (rd_c m1 (hS138.rd m1)) ?_)
 refine WO.tail rfl ?_
 refine ya 8 106 (.bool (!sEq x140.Table p1.Table)) (yb ?_)
 obtain ⟨j141, hr4, hr3⟩ := bsm hr3
 refine W.jw (J := (fun fr w => ∃ I143 a_j141 c_j141 C_j141, fr = [(3, Iv p3), (4, Pt b1 0), (5, Pt b5 0), (8, Pt b9 0), (11, Pt b53 0), (12, Pt b59 0), (13, Iv 0), (14, Nv i124)] ∧ I121.Le I143 ∧ St E w I143 ((Bx b1 (cs_qCatalog p0 w_p0) 29) :: (Bx b5 (cs_qStmt p1 w_p1) 44) :: (Bx b9 (cs_qCatalog z_qCatalog zw_qCatalog) 29) :: (Bx b53 (cs_qCatalog ({ r52 with Grants := j141 }) ({ w_r52 with Grants := ⟨a_j141, c_j141⟩ })) 29) :: (Bx b59 (cs_qTable z_qTable zw_qTable) 89) :: (C_j141) :: Os) ∧ OwnSl 67 5 R_qGrant I143 C_j141 a_j141 c_j141 j141)) ?_ ?_
 refine W.cb hr4 (fun hc hr4 => ?_) (fun hc hr4 => ?_)
 have hS145 := hS138.drew
 refine yao nL11 8 (KR.cons (hS145.rd m0) (KR.cons (hS145.rd m3) (KR.nil hS145.im))) ?_
 generalize World.drew _ = w146 at *
 refine ya 0 107 (Pt b53 3) (yf (v := (Sl a_s123 s123 c_s123)) (rd_c m1 (hS145.rd m3)) ?_)
 refine ya 2 109 (Pt b1 3) (yf (v := (Sl w_p0.Grants.a p0.Grants w_p0.Grants.c)) (rd_c m0 (hS145.rd m0)) ?_)
 refine ya 4 111 (Nv i124) ?_
 obtain ⟨x147, hr4, h0_x147, h1_x147, hx_x147, ha_x147, _, _, rfl, hc_x147⟩ := sl_at ((RSl.mono h_p0.Grants (((hl23.trans hl50).trans hl88).trans hl122))) hr4
 refine yq 67 5 ha_x147 h0_x147 h1_x147 ?_
 refine yai ((cs_qGrant x147)) hc_x147 0 (rd_i hS145.im) ?_
 refine y3 (rel := R_qGrant) (xs := ([x147] : List qGrant)) hS145 rfl (by kernel_rfl) rfl 67 5 [(cs_qGrant x147)] (by kernel_rfl) rfl ((Elr.cons rfl Elr.nil)) (fun C149 w153 hS152 => (KR.cons (hS152.rd m1) (KR.cons (hS152.rd m4) (KR.nil hS152.im)))) ?_
 intro a151 C149 w153 hS152 ho150
 refine WO.tail rfl ?_
 have hS155 := hS152.front6
 obtain ⟨x156, hx_x156, hr4⟩ := bsm hr4
 obtain ⟨h0_x156, he_x156⟩ := app_some hx_x156
 refine WO.ap 67 64 (cs_qGrant z_qGrant) hS155 h_s123 ho150.sl (hS155.rd m1) h0_x156 he_x156 ?_
 intro a157 c158 w159 C160 hS161 ho162
 refine ya 9 116 (Pt b53 3) (yw hS161.front1.drop.front4 3 (cs_qCatalog ({ r52 with Grants := x156 }) ({ w_r52 with Grants := ⟨a157, c158⟩ })) ?_)
 intro w167 hS166
 refine WO.nil ?_
 obtain rfl := sj hr4
 exact yo ⟨I121, a157, c158, C160, rfl, lr, hS166.front1.front5.front2.front5.front5.front5, ho162⟩
 refine yg ?_
 obtain rfl := sj hr4
 exact yo ⟨I121, a_s123, c_s123, C_s123, rfl, lr, hS138, h_s123⟩
 rintro _ w174 ⟨I143, a_j141, c_j141, C_j141, rfl, hl144, hS175, h_j141⟩
 refine yi (En.next (yaa nL3 ?_))
 refine ya 0 96 (Nv i124) (y0 (j := i124) rfl (by kernel_rfl) rfl (by first | omega | (dsimp only at *; omega) | (simp only [List.length_cons, List.length_nil] at *; omega)) ?_)
 refine ya 2 14 (Iv ((i124 + 1 : Nat) : Int)) (WO.nil ?_)
 obtain rfl := sj hr3
 exact yo ⟨I143, a_j141, c_j141, C_j141, rfl, (hl122.trans hl144), hS175, h_j141⟩
 rintro _ w176 ⟨I121, a_s123, c_s123, C_s123, rfl, hl122, hS177, h_s123⟩
 refine ye (yd nL5 ?_)
 refine WO.vs 0 [(91, Nv p0.Grants.length), (92, Pt b1 3)] (yf (v := (Sl w_p0.Grants.a p0.Grants w_p0.Grants.c)) (hS177.rf m0) ?_)
 refine WO.vs 3 [(94, Nv p0.Grants.length), (95, .bool (decide ((p0.Grants.length : Int) < (p0.Grants.length : Int))))] (yb (yah (fun hc => ?_)))
 clear hc
 refine yy (yk (yl (yn ?_)))
 obtain ⟨I186, hl187, hS189, hp188⟩ := y4 h_s123 hS177.front5
 exact yo ⟨0, z_qCatalog, r52.Version, r52.Tables, r52.Roles, s123, z_qTable, I186, zw_qCatalog, w_r52.Tables.a, w_r52.Tables.c, w_r52.Roles.a, w_r52.Roles.c, a_s123, c_s123, zw_qTable, sj hr2, rfl, ((hl88.trans hl122).trans hl187), hS189, zok_qCatalog, (RSl.mono h_r52.Tables ((hl88.trans hl122).trans hl187)), (RSl.mono h_r52.Roles ((hl88.trans hl122).trans hl187)), hp188, zok_qTable⟩
 refine yd nL2 ?_
 refine WO.vs 0 [(118, .bool (p1.Kind == 5)), (117, .bool (p1.Kind == 5))] (yb ?_)
 obtain ⟨j190, hr3, hr2⟩ := bsm hr2
 refine W.jw (J := (fun fr w => ∃ (s233 : Int) (s234 : qCatalog) (s235 : Int) (s236 : List qTable) (s237 : List qRole) (s238 : List qGrant) (s239 : qTable), ∃ I192 w_s234 a_s236 c_s236 a_s237 c_s237 a_s238 c_s238 w_s239, (.inr (s233, s234, s235, s236, s237, s238, s239)) = j190 ∧ fr = [(3, Iv p3), (4, Pt b1 0), (5, Pt b5 0), (8, Pt b9 0), (11, Pt b53 0), (12, Pt b59 0), (13, Iv s233)] ∧ I49.Le I192 ∧ St E w I192 ((Bx b1 (cs_qCatalog p0 w_p0) 29) :: (Bx b5 (cs_qStmt p1 w_p1) 44) :: (Bx b9 (cs_qCatalog s234 w_s234) 29) :: (Bx b53 (cs_qCatalog (⟨s235, s236, s237, s238⟩ : qCatalog) (⟨⟨a_s236, c_s236⟩, ⟨a_s237, c_s237⟩, ⟨a_s238, c_s238⟩⟩ : W_qCatalog)) 29) :: (Bx b59 (cs_qTable s239 w_s239) 89) :: Os) ∧ ok_qCatalog I192 s234 w_s234 ∧ RSl 6 R_qTable I192 a_s236 c_s236 s236 ∧ RSl 2 R_qRole I192 a_s237 c_s237 s237 ∧ RSl 5 R_qGrant I192 a_s238 c_s238 s238 ∧ ok_qTable I192 s239 w_s239)) ?_ ?_
 refine W.cb hr3 (fun hc hr3 => ?_) (fun hc hr3 => ?_)
 refine ye (yd nL5 ?_)
 refine yu ((cs_qCatalog p0 w_p0)) (hS61.rf m4) ?_
 refine ya 1 120 (Pt b5 2) (yf (v := (.string p1.Name)) (hS61.rf m3) ?_)
 obtain ⟨r199, hx_r194, hr3⟩ := bsm hr3
 refine y6 (r17_At_ok (h_p0.mono (hl23.trans hl50)) hS61 hx_r194) ?_
 intro I196 w195 hl197 hS198
 refine ya 4 123 (.bool (decide (r199 ≥ 0))) (yb (W.cb hr3 (fun hc hr3 => ?_) (fun hc hr3 => ?_)))
 refine yd nL3 ?_
 refine ya 0 124 (.agg (cs_qCatalog z_qCatalog zw_qCatalog).toArray) (yw hS198.front2 0 (cs_qCatalog z_qCatalog zw_qCatalog) ?_)
 intro w202 hS201
 refine ya 2 9 (Iv 19) (yb (W.ret (yc (ym ?_))))
 obtain rfl := sj hr3
 refine ym ?_
 obtain rfl := sj hr2
 refine ym ?_
 obtain rfl := sj hr1
 refine yh (yc ?_)
 obtain rfl := sj hr
 exact yak _ (hS201.rd m0) ⟨I196, zw_qCatalog, rfl, ((hl23.trans hl50).trans hl197), hS201.drop.drop.drop.drop.drop, zok_qCatalog⟩
 refine yg (En.next ?_)
 have hS217 := hS198.drew
 refine yaz (l := nL14) (by kernel_rfl) 12 (KR I196 [Bx b5 (cs_qStmt p1 w_p1) 44, Bx b1 (cs_qCatalog p0 w_p0) 29]) qR (.ords nL14 [0, 1, 2, 3, 4, 5, 6, 7, 8, 9, 10, 12, 11, 13] (by kernel_rfl) (by kernel_rfl) (by kernel_rfl) (by kernel_rfl) (by kernel_rfl)) (by kernel_rfl) (KR.cons (hS217.rd m3) (KR.cons (hS217.rd m4) (KR.nil hS217.im))) ?_
 generalize World.drew _ = w218 at *
 refine yu ((cs_qCatalog p0 w_p0)) (rd_c m1 (hS217.rd m4)) ?_
 refine ya 1 127 (Pt b1 1) (yf (v := (Sl w_p0.Tables.a p0.Tables w_p0.Tables.c)) (rd_c m1 (hS217.rd m4)) ?_)
 refine ya 3 129 (Iv r25) ?_
 obtain ⟨x219, hr3, h0_x219, h1_x219, hx_x219, ha_x219, _, _, ⟨w_x219, rfl, h_x219⟩, hc_x219⟩ := sl_at ((RSl.mono h_p0.Tables ((hl23.trans hl50).trans hl197))) hr3
 refine yq 89 6 ha_x219 h0_x219 h1_x219 ?_
 refine yai ((cs_qTable x219 w_x219)) hc_x219 0 (rd_i hS217.im) ?_
 refine ya 6 132 (Pt b5 2) (yf (v := (.string p1.Name)) (rd_c m0 (hS217.rd m3)) ?_)
 obtain ⟨⟨r225, r226⟩, hx_r220, hr3⟩ := bsm hr3
 refine y8 (r17_renamed_ok (h_p0.mono ((hl23.trans hl50).trans hl197)) h_x219 hS217 hx_r220) ?_
 rintro _ w221 ⟨I222, w_r225, w_r226, rfl, hl223, hS224, h_r225, h_r226⟩
 refine ⟨_, rfl, (KR.cons (hS224.rd m3) (KR.cons (hS224.rd m4) (KR.nil (hS224.im.of_le hl223)))), ?_⟩
 refine WO.vs 9 [(125, .tuple #[(.agg (cs_qCatalog r225 w_r225).toArray), (.agg (cs_qTable r226 w_r226).toArray)]), (135, .agg (cs_qCatalog r225 w_r225).toArray), (136, .agg (cs_qTable r226 w_r226).toArray)] (WO.tail rfl ?_)
 refine yw hS224.front1 0 (cs_qCatalog r225 w_r225) ?_
 intro w229 hS228
 refine yw hS228.front1 0 (cs_qTable r226 w_r226) ?_
 intro w232 hS231
 exact WO.nil (yo ⟨0, z_qCatalog, r225.Version, r225.Tables, r225.Roles, r225.Grants, r226, I222, zw_qCatalog, w_r225.Tables.a, w_r225.Tables.c, w_r225.Roles.a, w_r225.Roles.c, w_r225.Grants.a, w_r225.Grants.c, w_r226, sj hr3, rfl, (hl197.trans hl223), hS231.front1.front2.front3.front4, zok_qCatalog, h_r225.Tables, h_r225.Roles, h_r225.Grants, h_r226⟩)
 have hS244 := hS61.drew
 refine yaz (l := nL13) (by kernel_rfl) 11 (KR I49 [Bx b5 (cs_qStmt p1 w_p1) 44, Bx b1 (cs_qCatalog p0 w_p0) 29]) qR (.ords nL13 [0, 1, 2, 3, 4, 5, 6, 7, 8, 9, 11, 10, 12] (by kernel_rfl) (by kernel_rfl) (by kernel_rfl) (by kernel_rfl) (by kernel_rfl)) (by kernel_rfl) (KR.cons (hS244.rd m3) (KR.cons (hS244.rd m4) (KR.nil hS244.im))) ?_
 generalize World.drew _ = w245 at *
 refine yu ((cs_qCatalog p0 w_p0)) (rd_c m1 (hS244.rd m4)) ?_
 refine ya 1 62 (Pt b1 1) (yf (v := (Sl w_p0.Tables.a p0.Tables w_p0.Tables.c)) (rd_c m1 (hS244.rd m4)) ?_)
 refine ya 3 64 (Iv r25) ?_
 obtain ⟨x246, hr3, h0_x246, h1_x246, hx_x246, ha_x246, _, _, ⟨w_x246, rfl, h_x246⟩, hc_x246⟩ := sl_at ((RSl.mono h_p0.Tables (hl23.trans hl50))) hr3
 refine yq 89 6 ha_x246 h0_x246 h1_x246 ?_
 refine yai ((cs_qTable x246 w_x246)) hc_x246 0 (rd_i hS244.im) ?_
 refine yu ((cs_qStmt p1 w_p1)) (rd_c m0 (hS244.rd m3)) ?_
 obtain ⟨⟨r252, r253⟩, hx_r247, hr3⟩ := bsm hr3
 refine y8 (r17_turned_ok (h_p0.mono (hl23.trans hl50)) h_x246 (h_p1.mono (hl23.trans hl50)) hS244 hx_r247) ?_
 rintro _ w248 ⟨I249, w_r252, rfl, hl250, hS251, h_r252⟩
 refine ⟨_, rfl, (KR.cons (hS251.rd m3) (KR.cons (hS251.rd m4) (KR.nil (hS251.im.of_le hl250)))), ?_⟩
 refine WO.vs 8 [(60, .tuple #[(.agg (cs_qTable r252 w_r252).toArray), (Iv r253)]), (69, .agg (cs_qTable r252 w_r252).toArray), (70, Iv r253)] (WO.tail rfl ?_)
 refine yw hS251 0 (cs_qTable r252 w_r252) ?_
 intro w255 hS254
 exact ya 12 13 (Iv r253) (WO.nil (yo ⟨r253, z_qCatalog, r52.Version, r52.Tables, r52.Roles, r52.Grants, r252, I249, zw_qCatalog, w_r52.Tables.a, w_r52.Tables.c, w_r52.Roles.a, w_r52.Roles.c, w_r52.Grants.a, w_r52.Grants.c, w_r252, sj hr3, rfl, hl250, hS254.front1.front2.front3.front4, zok_qCatalog, (RSl.mono h_r52.Tables hl250), (RSl.mono h_r52.Roles hl250), (RSl.mono h_r52.Grants hl250), h_r252⟩))
 rintro _ w260 ⟨s233, s234, s235, s236, s237, s238, s239, I192, w_s234, a_s236, c_s236, a_s237, c_s237, a_s238, c_s238, w_s239, rfl, rfl, hl193, hS261, h_s234, h_s236, h_s237, h_s238, h_s239⟩
 exact yo ⟨s233, s234, s235, s236, s237, s238, s239, I192, w_s234, a_s236, c_s236, a_s237, c_s237, a_s238, c_s238, w_s239, sj hr2, rfl, hl193, hS261, h_s234, h_s236, h_s237, h_s238, h_s239⟩
 rintro _ w262 ⟨s178, s179, s180, s181, s182, s183, s184, I83, w_s179, a_s181, c_s181, a_s182, c_s182, a_s183, c_s183, w_s184, rfl, rfl, hl84, hS263, h_s179, h_s181, h_s182, h_s183, h_s184⟩
 exact yo ⟨s178, s179, s180, s181, s182, s183, s184, I83, w_s179, a_s181, c_s181, a_s182, c_s182, a_s183, c_s183, w_s184, sj hr1, rfl, hl84, hS263, h_s179, h_s181, h_s182, h_s183, h_s184⟩
 rintro _ w264 ⟨s69, s70, s71, s72, s73, s74, s75, I65, w_s70, a_s72, c_s72, a_s73, c_s73, a_s74, c_s74, w_s75, rfl, rfl, hl66, hS265, h_s70, h_s72, h_s73, h_s74, h_s75⟩
 refine yi (En.next (ye (yd nL7 ?_)))
 refine WO.vs 0 [(137, Iv s69), (138, .bool (s69 == 0)), (139, .bool (s69 == 0))] (yac (l1 := [3, 4, 5, 6]) 143 ((s69 == 0) && (p1.Kind != 2)) ?_ ?_)
 refine yp (s69 == 0) (fun hc => ?_) (fun hc => ?_)
 refine yj 139 hc (ya 3 140 (Pt b5 0) (yf (v := (Iv p1.Kind)) (hS265.rf m1) ?_))
 exact WO.vs 5 [(142, .bool (p1.Kind != 2)), (143, .bool (p1.Kind != 2))] (WO.mk 139 hc (by rw [hc]; rfl))
 refine yj 139 hc ?_
 iterate 3 refine yt ?_
 exact ya 6 143 (.bool false) (WO.mk 139 hc (by rw [hc]; rfl))
 refine yb ?_
 obtain ⟨j268, hr1, hr⟩ := bsm hr
 refine W.jw (J := (fun fr w => ∃ I270, fr = [(3, Iv p3), (4, Pt b1 0), (5, Pt b5 0), (8, Pt b9 0), (11, Pt b53 0), (12, Pt b59 0), (13, Iv j268)] ∧ I65.Le I270 ∧ St E w I270 ((Bx b1 (cs_qCatalog p0 w_p0) 29) :: (Bx b5 (cs_qStmt p1 w_p1) 44) :: (Bx b9 (cs_qCatalog s70 w_s70) 29) :: (Bx b53 (cs_qCatalog (⟨s71, s72, s73, s74⟩ : qCatalog) (⟨⟨a_s72, c_s72⟩, ⟨a_s73, c_s73⟩, ⟨a_s74, c_s74⟩⟩ : W_qCatalog)) 29) :: (Bx b59 (cs_qTable s75 w_s75) 89) :: Os))) ?_ ?_
 refine W.cb hr1 (fun hc hr1 => ?_) (fun hc hr1 => ?_)
 refine yaa nL4 ?_
 refine yu ((cs_qCatalog (⟨s71, s72, s73, s74⟩ : qCatalog) (⟨⟨a_s72, c_s72⟩, ⟨a_s73, c_s73⟩, ⟨a_s74, c_s74⟩⟩ : W_qCatalog))) (hS265.rf m3) ?_
 refine yu ((cs_qTable s75 w_s75)) (hS265.rf m4) ?_
 have hk272 : ok_qCatalog I65 (⟨s71, s72, s73, s74⟩ : qCatalog) (⟨⟨a_s72, c_s72⟩, ⟨a_s73, c_s73⟩, ⟨a_s74, c_s74⟩⟩ : W_qCatalog) := ⟨h_s72, h_s73, h_s74⟩
 obtain ⟨r278, hx_r273, hr1⟩ := bsm hr1
 refine y6 (r17_Sound_ok hk272 h_s75 hS265 hx_r273) ?_
 intro I275 w274 hl276 hS277
 refine ya 3 13 (Iv r278) (WO.nil ?_)
 obtain rfl := sj hr1
 exact yo ⟨I275, rfl, hl276, hS277⟩
 refine yg ?_
 obtain rfl := sj hr1
 exact yo ⟨I65, rfl, lr, hS265⟩
 rintro _ w279 ⟨I270, rfl, hl271, hS280⟩
 refine En.next (ye (yd nL8 ?_))
 refine WO.vs 0 [(147, Iv j268), (148, .bool (j268 == 0)), (149, .bool (j268 == 0))] (yac (l1 := [3, 4, 5, 6, 7]) 154 ((j268 == 0) && (decide (p0.Version ≥ p3))) ?_ ?_)
 refine yp (j268 == 0) (fun hc => ?_) (fun hc => ?_)
 refine yj 149 hc (ya 3 150 (Pt b1 0) (yf (v := (Iv p0.Version)) (hS280.rf m0) ?_))
 exact WO.vs 5 [(152, Iv p3), (153, .bool (decide (p0.Version ≥ p3))), (154, .bool (decide (p0.Version ≥ p3)))] (WO.mk 149 hc (by rw [hc]; rfl))
 refine yj 149 hc ?_
 iterate 4 refine yt ?_
 exact ya 7 154 (.bool false) (WO.mk 149 hc (by rw [hc]; rfl))
 refine yb ?_
 obtain ⟨j283, hr1, hr⟩ := bsm hr
 refine W.jw (J := (fun fr w => ∃ I285, fr = [(4, Pt b1 0), (5, Pt b5 0), (8, Pt b9 0), (11, Pt b53 0), (12, Pt b59 0), (13, Iv j283)] ∧ I270.Le I285 ∧ St E w I285 ((Bx b1 (cs_qCatalog p0 w_p0) 29) :: (Bx b5 (cs_qStmt p1 w_p1) 44) :: (Bx b9 (cs_qCatalog s70 w_s70) 29) :: (Bx b53 (cs_qCatalog (⟨s71, s72, s73, s74⟩ : qCatalog) (⟨⟨a_s72, c_s72⟩, ⟨a_s73, c_s73⟩, ⟨a_s74, c_s74⟩⟩ : W_qCatalog)) 29) :: (Bx b59 (cs_qTable s75 w_s75) 89) :: Os))) ?_ ?_
 refine W.cb hr1 (fun hc hr1 => ?_) (fun hc hr1 => ?_)
 refine yaa [0] ?_
 refine ya 0 13 (Iv 52) (WO.nil ?_)
 obtain rfl := sj hr1
 exact yo ⟨I270, rfl, lr, hS280⟩
 refine yg ?_
 obtain rfl := sj hr1
 exact yo ⟨I270, rfl, lr, hS280⟩
 rintro _ w287 ⟨I285, rfl, hl286, hS288⟩
 refine En.next (ye (yd nL2 ?_))
 refine WO.vs 0 [(155, Iv j283), (156, .bool (j283 != 0))] (yb (W.cb hr (fun hc hr => ?_) (fun hc hr => ?_)))
 refine yd nL4 ?_
 refine WO.vs 0 [(157, .agg (cs_qCatalog z_qCatalog zw_qCatalog).toArray), (158, Iv j283)] (yw hS288.front2 0 (cs_qCatalog z_qCatalog zw_qCatalog) ?_)
 intro w291 hS290
 refine ya 3 9 (Iv j283) (yb (W.ret (yc ?_)))
 obtain rfl := sj hr
 exact yak _ (hS290.rd m0) ⟨I285, zw_qCatalog, rfl, ((((hl23.trans hl50).trans hl66).trans hl271).trans hl286), hS290.drop.drop.drop.drop.drop, zok_qCatalog⟩
 refine yg (En.next (ye (yd nL3 ?_)))
 refine ya 0 159 (Pt b5 0) (yf (v := (Iv p1.Kind)) (hS288.rf m1) ?_)
 refine ya 2 161 (.bool (p1.Kind != 2)) (yb ?_)
 obtain ⟨j297, hr1, hr⟩ := bsm hr
 refine W.jw (J := (fun fr w => ∃ (s315 : Int) (s316 : List qTable) (s317 : List qRole) (s318 : List qGrant) (s319 : qTable), ∃ I299 a_s316 c_s316 a_s317 c_s317 a_s318 c_s318 w_s319, (s315, s316, s317, s318, s319) = j297 ∧ fr = [(4, Pt b1 0), (8, Pt b9 0), (11, Pt b53 0)] ∧ I285.Le I299 ∧ St E w I299 ((Bx b1 (cs_qCatalog p0 w_p0) 29) :: (Bx b9 (cs_qCatalog s70 w_s70) 29) :: (Bx b53 (cs_qCatalog (⟨s315, s316, s317, s318⟩ : qCatalog) (⟨⟨a_s316, c_s316⟩, ⟨a_s317, c_s317⟩, ⟨a_s318, c_s318⟩⟩ : W_qCatalog)) 29) :: Os) ∧ RSl 6 R_qTable I299 a_s316 c_s316 s316 ∧ RSl 2 R_qRole I299 a_s317 c_s317 s317 ∧ RSl 5 R_qGrant I299 a_s318 c_s318 s318 ∧ ok_qTable I299 s319 w_s319)) ?_ ?_
 refine W.cb hr1 (fun hc hr1 => ?_) (fun hc hr1 => ?_)
 refine yd nL5 ?_
 refine ya 0 162 (Pt b1 0) (yf (v := (Iv p0.Version)) (hS288.rf m0) ?_)
 refine WO.vs 2 [(164, Iv (w64 (p0.Version + 1))), (165, Pt b59 2)] (yw hS288.front4 2 (cs_qTable ({ s75 with Version := (w64 (p0.Version + 1)) }) w_s75) ?_)
 intro w303 hS302
 refine yb (yaa nL4 ?_)
 refine yu ((cs_qCatalog (⟨s71, s72, s73, s74⟩ : qCatalog) (⟨⟨a_s72, c_s72⟩, ⟨a_s73, c_s73⟩, ⟨a_s74, c_s74⟩⟩ : W_qCatalog))) (hS302.rf m4) ?_
 refine yu ((cs_qTable ({ s75 with Version := (w64 (p0.Version + 1)) }) w_s75)) (hS302.rf m0) ?_
 have hk304 : ok_qCatalog I285 (⟨s71, s72, s73, s74⟩ : qCatalog) (⟨⟨a_s72, c_s72⟩, ⟨a_s73, c_s73⟩, ⟨a_s74, c_s74⟩⟩ : W_qCatalog) := ⟨(RSl.mono h_s72 (hl271.trans hl286)), (RSl.mono h_s73 (hl271.trans hl286)), (RSl.mono h_s74 (hl271.trans hl286))⟩
 have hk305 : ok_qTable I285 ({ s75 with Version := (w64 (p0.Version + 1)) }) w_s75 := ⟨(RSl.mono h_s75.Cols (hl271.trans hl286)), (RSl.mono h_s75.Cons (hl271.trans hl286)), (RSl.mono h_s75.Idx (hl271.trans hl286))⟩
 obtain ⟨r311, hx_r306, hr1⟩ := bsm hr1
 refine y8 (r17_with_ok hk304 hk305 hS302 hx_r306) ?_
 rintro _ w307 ⟨I308, w_r311, rfl, hl309, hS310, h_r311⟩
 refine ⟨_, rfl, trivial, ?_⟩
 refine yw hS310.front4 0 (cs_qCatalog r311 w_r311) ?_
 intro w314 hS313
 refine WO.nil ?_
 have hk320 : ok_qTable I308 ({ s75 with Version := (w64 (p0.Version + 1)) }) w_s75 := ⟨(RSl.mono h_s75.Cols ((hl271.trans hl286).trans hl309)), (RSl.mono h_s75.Cons ((hl271.trans hl286).trans hl309)), (RSl.mono h_s75.Idx ((hl271.trans hl286).trans hl309))⟩
 exact yo ⟨r311.Version, r311.Tables, r311.Roles, r311.Grants, { s75 with Version := (w64 (p0.Version + 1)) }, I308, w_r311.Tables.a, w_r311.Tables.c, w_r311.Roles.a, w_r311.Roles.c, w_r311.Grants.a, w_r311.Grants.c, w_s75, sj hr1, rfl, hl309, hS313.front1.drop.front2.drop.front2.front2, h_r311.Tables, h_r311.Roles, h_r311.Grants, hk320⟩
 exact yg (yo ⟨s71, s72, s73, s74, s75, I285, a_s72, c_s72, a_s73, c_s73, a_s74, c_s74, w_s75, sj hr1, rfl, lr, hS288.front1.drop.front3.drop, (RSl.mono h_s72 (hl271.trans hl286)), (RSl.mono h_s73 (hl271.trans hl286)), (RSl.mono h_s74 (hl271.trans hl286)), (h_s75.mono (hl271.trans hl286))⟩)
 rintro _ w331 ⟨s315, s316, s317, s318, s319, I299, a_s316, c_s316, a_s317, c_s317, a_s318, c_s318, w_s319, rfl, rfl, hl300, hS332, h_s316, h_s317, h_s318, h_s319⟩
 refine En.next (yd nL5 ?_)
 refine ya 0 169 (Pt b1 0) (yf (v := (Iv p0.Version)) (hS332.rf m0) ?_)
 refine WO.vs 2 [(171, Iv (w64 (p0.Version + 1))), (172, Pt b53 0)] (yw hS332.front2 0 (cs_qCatalog (⟨(w64 (p0.Version + 1)), s316, s317, s318⟩ : qCatalog) (⟨⟨a_s316, c_s316⟩, ⟨a_s317, c_s317⟩, ⟨a_s318, c_s318⟩⟩ : W_qCatalog)) ?_)
 intro w335 hS334
 refine yz nL3 ?_
 refine yu ((cs_qCatalog (⟨(w64 (p0.Version + 1)), s316, s317, s318⟩ : qCatalog) (⟨⟨a_s316, c_s316⟩, ⟨a_s317, c_s317⟩, ⟨a_s318, c_s318⟩⟩ : W_qCatalog))) (hS334.rf m0) ?_
 refine yw hS334.front2 0 (cs_qCatalog (⟨(w64 (p0.Version + 1)), s316, s317, s318⟩ : qCatalog) (⟨⟨a_s316, c_s316⟩, ⟨a_s317, c_s317⟩, ⟨a_s318, c_s318⟩⟩ : W_qCatalog)) ?_
 intro w338 hS337
 refine ya 2 9 (Iv 0) (yb (W.ret ?_))
 have hk342 : ok_qCatalog I299 (⟨(w64 (p0.Version + 1)), s316, s317, s318⟩ : qCatalog) (⟨⟨a_s316, c_s316⟩, ⟨a_s317, c_s317⟩, ⟨a_s318, c_s318⟩⟩ : W_qCatalog) := ⟨h_s316, h_s317, h_s318⟩
 obtain rfl := sj hr
 exact yak _ (hS337.rd m0) ⟨I299, (⟨⟨a_s316, c_s316⟩, ⟨a_s317, c_s317⟩, ⟨a_s318, c_s318⟩⟩ : W_qCatalog), rfl, (((((hl23.trans hl50).trans hl66).trans hl271).trans hl286).trans hl300), hS337.drop.drop.drop, hk342⟩
noncomputable def law19_first  : Option qCatalog := (r17_New).bind (fun r10 => (forE (fun (i32 : Nat) => fun (s31 : qCatalog) => ((idx ([(⟨#[97, 110, 110]⟩ : ByteArray), (⟨#[98, 111, 98]⟩ : ByteArray), (⟨#[99, 121]⟩ : ByteArray)] : List ByteArray) (i32 : Int)).bind (fun x46 => (r19_Make s31 ({ z_qStmt with Kind := 10, Name := x46 }) (⟨#[114, 111, 111, 116]⟩ : ByteArray) 1000).bind (fun (r57, r58) => some (r57, r58)))).bind (fun ((s61, s62) : qCatalog × Int) => ((bif (s62 == 0) then some s61 else some s31)).bind (fun (j101 : qCatalog) => some j101))) 3 0 r10).bind (fun s31 => (r17_Make s31 ({ z_qStmt with Kind := 1, Table := (⟨#[116]⟩ : ByteArray), Cols := ([{ z_qColumn with Name := (⟨#[97]⟩ : ByteArray), Type_ := 1 }] : List qColumn) }) (⟨#[97, 110, 110]⟩ : ByteArray) 1000).bind (fun (r134, r135) => ((bif (r135 == 0) then some r134 else some s31)).bind (fun (j142 : qCatalog) => some j142))))
theorem law19_first_ok (hS : St E w I Os) {r : qCatalog} (hr : law19_first = some r) :
    Calls P 9 #[] w (fun e w' => ∃ I' w_rw0, e = .returned (.agg (cs_qCatalog r w_rw0).toArray) ∧ I.Le I' ∧ St E w' I' Os ∧ ok_qCatalog I' r w_rw0) := by
 refine calls_W (fn := Tryz.f9) rfl rfl rfl ?_
 unfold law19_first at hr
 refine yd [0] ?_
 refine yx hS (cs_qCatalog z_qCatalog zw_qCatalog) 29 ?_
 intro b1 w4 hS3
 refine yz nL3 ?_
 obtain ⟨r10, hx_r5, hr⟩ := bsm hr
 refine y8 (r17_New_ok  hS3 hx_r5) ?_
 rintro _ w6 ⟨I7, w_r10, rfl, hl8, hS9, h_r10⟩
 refine ⟨_, rfl, trivial, ?_⟩
 refine yx hS9 (cs_qCatalog z_qCatalog zw_qCatalog) 29 ?_
 intro b11 w14 hS13
 refine yw hS13 0 (cs_qCatalog r10 w_r10) ?_
 intro w16 hS15
 refine yz nL2 ?_
 refine y3 (rel := RStr) (xs := ([(⟨#[97, 110, 110]⟩ : ByteArray), (⟨#[98, 111, 98]⟩ : ByteArray), (⟨#[99, 121]⟩ : ByteArray)] : List ByteArray)) hS15 rfl (by kernel_rfl) rfl 9 1 [[(.string (⟨#[97, 110, 110]⟩ : ByteArray))], [(.string (⟨#[98, 111, 98]⟩ : ByteArray))], [(.string (⟨#[99, 121]⟩ : ByteArray))]] (by kernel_rfl) rfl ((Elr.cons rfl (Elr.cons rfl (Elr.cons rfl Elr.nil)))) (fun _ _ _ => trivial) ?_
 intro a20 C18 w22 hS21 ho19
 obtain ⟨I24, hl25, hS27, hp26⟩ := y4 ho19 hS21
 refine ya 1 2 (.slice a20 3 3) (yb (ye (yd [0] ?_)))
 refine ya 0 3 (Iv 0) (yb (W.block ?_))
 obtain ⟨s31, hloop33, hr⟩ := bsm hr
 have hlt38 := (hp26).len_lt
 refine W.wk (W.forE (m := 3) hloop33 (fun (i32 : Nat) => fun (s31 : qCatalog) fr w => ∃ I29 w_s31, fr = [(0, Pt b1 0), (1, Pt b11 0), (2, .slice a20 3 3), (3, Nv i32)] ∧ I24.Le I29 ∧ St E w I29 ((Bx b1 (cs_qCatalog z_qCatalog zw_qCatalog) 29) :: (Bx b11 (cs_qCatalog s31 w_s31) 29) :: Os) ∧ ok_qCatalog I29 s31 w_s31) ⟨I24, w_r10, rfl, lr, hS27.front1, (h_r10.mono hl25)⟩ ?_ ?_)
 rintro i32 s31 _ w35 hi39 ⟨I29, w_s31, rfl, hl30, hS36, h_s31⟩ x37 hr1
 refine ye (yd nL4 ?_)
 refine WO.vs 0 [(10, Nv i32), (11, .slice a20 3 3), (12, Iv (3 : Int)), (13, .bool (decide ((i32 : Int) < (3 : Int))))] (yb (yag (fun hc => ?_)))
 clear hc
 refine yg (En.next (ye (W.block (ye ?_))))
 obtain ⟨j40, hr2, hr1⟩ := bsm hr1
 refine W.jw (J := (fun fr w => ∃ (s61 : qCatalog) (s62 : Int), ∃ I42 w_s61 b_s61, (s61, s62) = j40 ∧ fr = [(0, Pt b1 0), (1, Pt b11 0), (2, .slice a20 3 3), (3, Nv i32), (4, Pt b_s61 0), (5, Iv s62)] ∧ I29.Le I42 ∧ St E w I42 ((Bx b1 (cs_qCatalog z_qCatalog zw_qCatalog) 29) :: (Bx b11 (cs_qCatalog s31 w_s31) 29) :: (Bx b_s61 (cs_qCatalog s61 w_s61) 29) :: Os) ∧ ok_qCatalog I42 s61 w_s61)) ?_ ?_
 have hS44 := hS36.drew
 refine W.draws (.split 10 5 (.leaf [0, 1, 2, 3, 4, 10, 5, 6, 7, 8, 9, 11, 12]) (.split 10 6 (.leaf [0, 1, 2, 3, 4, 5, 10, 6, 7, 8, 9, 11, 12]) (.leaf nL13))) 11 (KR I29 [Bx b11 (cs_qCatalog s31 w_s31) 29]) qR (.ords nL13 [0, 1, 2, 3, 4, 5, 6, 7, 8, 10, 11, 9, 12] (by kernel_rfl) (by kernel_rfl) (by kernel_rfl) (by kernel_rfl) (by kernel_rfl)) (by kernel_rfl) (KR.cons (hS44.rd m1) (KR.nil hS44.im)) ?_
 generalize World.drew _ = w45 at *
 refine ⟨?_, ?_⟩
 show WO _ _ _ _ _ _ _ [0, 1, 2, 3, 4, 10, 5, 6, 7, 8, 9, 11, 12] _ _
 refine yu ((cs_qCatalog s31 w_s31)) (rd_c m0 (hS44.rd m1)) ?_
 refine WO.vs 1 [(18, .slice a20 3 3), (19, Nv i32)] (y7 18 rfl (show Value.slice a20 3 3 = Value.slice a20 ([(⟨#[97, 110, 110]⟩ : ByteArray), (⟨#[98, 111, 98]⟩ : ByteArray), (⟨#[99, 121]⟩ : ByteArray)] : List ByteArray).length 3 from rfl) ?_)
 obtain ⟨x46, hr2, h0_x46, h1_x46, hx_x46, ha_x46, _, _, rfl, hc_x46⟩ := sl_at ((RSl.mono hp26 hl30)) hr2
 refine yq 9 1 ha_x46 h0_x46 h1_x46 ?_
 refine yae (v := (.string x46)) hc_x46 (rd_i hS44.im) ?_
 refine ya0 hS44 rfl (by kernel_rfl) rfl (.cells (cs_qCatalog z_qCatalog zw_qCatalog).toArray 29 (0, 0)) (fun b => .pointer (some ⟨b, 0, none⟩)) (by kernel_rfl) (fun b47 w50 hS49 => (KR.cons (hS49.rd m2) (KR.nil hS49.im))) ?_
 intro b47 w50 hS49
 refine ya 5 22 (.agg (cs_qStmt ({ z_qStmt with Kind := 10, Name := x46 }) zw_qStmt).toArray) ?_
 have hk51 : ok_qStmt I29 ({ z_qStmt with Kind := 10, Name := x46 }) zw_qStmt := ⟨SlAt.nil, SlAt.nil, SlAt.nil, SlAt.nil, zok_qStmt.Where, SlAt.nil, SlAt.nil, SlAt.nil⟩
 obtain ⟨⟨r57, r58⟩, hx_r52, hr2⟩ := bsm hr2
 refine y8 (r19_Make_ok h_s31 hk51 hS49 hx_r52) ?_
 rintro _ w53 ⟨I54, w_r57, rfl, hl55, hS56, h_r57⟩
 refine ⟨_, rfl, (KR.cons (hS56.rd m2) (KR.nil (hS56.im.of_le hl55))), ?_⟩
 refine WO.vs 7 [(16, .tuple #[(.agg (cs_qCatalog r57 w_r57).toArray), (Iv r58)]), (24, .agg (cs_qCatalog r57 w_r57).toArray), (25, Iv r58)] (WO.tail rfl ?_)
 refine yw hS56 0 (cs_qCatalog r57 w_r57) ?_
 intro w60 hS59
 exact ya 12 5 (Iv r58) (WO.nil (yo ⟨r57, r58, I54, w_r57, b47, sj hr2, rfl, hl55, hS59.front2.front2, h_r57⟩))
 refine ⟨?_, ?_⟩
 show WO _ _ _ _ _ _ _ [0, 1, 2, 3, 4, 5, 10, 6, 7, 8, 9, 11, 12] _ _
 refine yu ((cs_qCatalog s31 w_s31)) (rd_c m0 (hS44.rd m1)) ?_
 refine WO.vs 1 [(18, .slice a20 3 3), (19, Nv i32)] (y7 18 rfl (show Value.slice a20 3 3 = Value.slice a20 ([(⟨#[97, 110, 110]⟩ : ByteArray), (⟨#[98, 111, 98]⟩ : ByteArray), (⟨#[99, 121]⟩ : ByteArray)] : List ByteArray).length 3 from rfl) ?_)
 obtain ⟨x65, hr2, h0_x65, h1_x65, hx_x65, ha_x65, _, _, rfl, hc_x65⟩ := sl_at ((RSl.mono hp26 hl30)) hr2
 refine yq 9 1 ha_x65 h0_x65 h1_x65 ?_
 refine yae (v := (.string x65)) hc_x65 (rd_i hS44.im) ?_
 refine ya 5 22 (.agg (cs_qStmt ({ z_qStmt with Kind := 10, Name := x65 }) zw_qStmt).toArray) (ya0 hS44 rfl (by kernel_rfl) rfl (.cells (cs_qCatalog z_qCatalog zw_qCatalog).toArray 29 (0, 0)) (fun b => .pointer (some ⟨b, 0, none⟩)) (by kernel_rfl) (fun b66 w69 hS68 => (KR.cons (hS68.rd m2) (KR.nil hS68.im))) ?_)
 intro b66 w69 hS68
 have hk70 : ok_qStmt I29 ({ z_qStmt with Kind := 10, Name := x65 }) zw_qStmt := ⟨SlAt.nil, SlAt.nil, SlAt.nil, SlAt.nil, zok_qStmt.Where, SlAt.nil, SlAt.nil, SlAt.nil⟩
 obtain ⟨⟨r76, r77⟩, hx_r71, hr2⟩ := bsm hr2
 refine y8 (r19_Make_ok h_s31 hk70 hS68 hx_r71) ?_
 rintro _ w72 ⟨I73, w_r76, rfl, hl74, hS75, h_r76⟩
 refine ⟨_, rfl, (KR.cons (hS75.rd m2) (KR.nil (hS75.im.of_le hl74))), ?_⟩
 refine WO.vs 7 [(16, .tuple #[(.agg (cs_qCatalog r76 w_r76).toArray), (Iv r77)]), (24, .agg (cs_qCatalog r76 w_r76).toArray), (25, Iv r77)] (WO.tail rfl ?_)
 refine yw hS75 0 (cs_qCatalog r76 w_r76) ?_
 intro w79 hS78
 exact ya 12 5 (Iv r77) (WO.nil (yo ⟨r76, r77, I73, w_r76, b66, sj hr2, rfl, hl74, hS78.front2.front2, h_r76⟩))
 show WO _ _ _ _ _ _ _ nL13 _ _
 refine yu ((cs_qCatalog s31 w_s31)) (rd_c m0 (hS44.rd m1)) ?_
 refine WO.vs 1 [(18, .slice a20 3 3), (19, Nv i32)] (y7 18 rfl (show Value.slice a20 3 3 = Value.slice a20 ([(⟨#[97, 110, 110]⟩ : ByteArray), (⟨#[98, 111, 98]⟩ : ByteArray), (⟨#[99, 121]⟩ : ByteArray)] : List ByteArray).length 3 from rfl) ?_)
 obtain ⟨x82, hr2, h0_x82, h1_x82, hx_x82, ha_x82, _, _, rfl, hc_x82⟩ := sl_at ((RSl.mono hp26 hl30)) hr2
 refine yq 9 1 ha_x82 h0_x82 h1_x82 ?_
 refine yae (v := (.string x82)) hc_x82 (rd_i hS44.im) ?_
 refine ya 5 22 (.agg (cs_qStmt ({ z_qStmt with Kind := 10, Name := x82 }) zw_qStmt).toArray) ?_
 have hk83 : ok_qStmt I29 ({ z_qStmt with Kind := 10, Name := x82 }) zw_qStmt := ⟨SlAt.nil, SlAt.nil, SlAt.nil, SlAt.nil, zok_qStmt.Where, SlAt.nil, SlAt.nil, SlAt.nil⟩
 obtain ⟨⟨r89, r90⟩, hx_r84, hr2⟩ := bsm hr2
 refine y8 (r19_Make_ok h_s31 hk83 hS44 hx_r84) ?_
 rintro _ w85 ⟨I86, w_r89, rfl, hl87, hS88, h_r89⟩
 refine ⟨_, rfl, (KR.cons (hS88.rd m1) (KR.nil (hS88.im.of_le hl87))), ?_⟩
 refine WO.vs 7 [(16, .tuple #[(.agg (cs_qCatalog r89 w_r89).toArray), (Iv r90)]), (24, .agg (cs_qCatalog r89 w_r89).toArray), (25, Iv r90)] (ya0 hS88 rfl (by kernel_rfl) rfl (.cells (cs_qCatalog z_qCatalog zw_qCatalog).toArray 29 (0, 0)) (fun b => .pointer (some ⟨b, 0, none⟩)) (by kernel_rfl) (fun b91 w94 hS93 => (KR.cons (hS93.rd m2) (KR.nil (hS93.im.of_le hl87)))) ?_)
 intro b91 w94 hS93
 refine WO.tail rfl ?_
 refine yw hS93 0 (cs_qCatalog r89 w_r89) ?_
 intro w96 hS95
 exact ya 12 5 (Iv r90) (WO.nil (yo ⟨r89, r90, I86, w_r89, b91, sj hr2, rfl, hl87, hS95.front2.front2, h_r89⟩))
 rintro _ w99 ⟨s61, s62, I42, w_s61, b_s61, rfl, rfl, hl43, hS100, h_s61⟩
 refine En.next (yd nL2 ?_)
 refine WO.vs 0 [(26, Iv s62), (27, .bool (s62 == 0))] (yb ?_)
 obtain ⟨j101, hr2, hr1⟩ := bsm hr1
 refine W.jw (J := (fun fr w => ∃ I103 w_j101, fr = [(0, Pt b1 0), (1, Pt b11 0), (2, .slice a20 3 3), (3, Nv i32)] ∧ I42.Le I103 ∧ St E w I103 ((Bx b1 (cs_qCatalog z_qCatalog zw_qCatalog) 29) :: (Bx b11 (cs_qCatalog j101 w_j101) 29) :: Os) ∧ ok_qCatalog I103 j101 w_j101)) ?_ ?_
 refine W.cb hr2 (fun hc hr2 => ?_) (fun hc hr2 => ?_)
 refine yaa nL2 ?_
 refine yu ((cs_qCatalog s61 w_s61)) (hS100.rf m2) ?_
 refine yw hS100.front1 0 (cs_qCatalog s61 w_s61) ?_
 intro w107 hS106
 refine WO.nil ?_
 obtain rfl := sj hr2
 exact yo ⟨I42, w_s61, rfl, lr, hS106.front2.drop.front1, h_s61⟩
 refine yg ?_
 obtain rfl := sj hr2
 exact yo ⟨I42, w_s31, rfl, lr, hS100.front2.drop, (h_s31.mono hl43)⟩
 rintro _ w113 ⟨I103, w_j101, rfl, hl104, hS114, h_j101⟩
 refine yi (En.next (yaa nL3 ?_))
 refine ya 0 14 (Nv i32) (y0 (j := i32) rfl (by kernel_rfl) rfl (by first | omega | (dsimp only at *; omega) | (simp only [List.length_cons, List.length_nil] at *; omega)) ?_)
 refine ya 2 3 (Iv ((i32 + 1 : Nat) : Int)) (WO.nil ?_)
 obtain rfl := sj hr1
 exact yo ⟨I103, w_j101, rfl, ((hl30.trans hl43).trans hl104), hS114, h_j101⟩
 rintro _ w115 ⟨I29, w_s31, rfl, hl30, hS116, h_s31⟩
 refine ye (yd nL4 ?_)
 refine WO.vs 0 [(10, Iv (([(⟨#[97, 110, 110]⟩ : ByteArray), (⟨#[98, 111, 98]⟩ : ByteArray), (⟨#[99, 121]⟩ : ByteArray)] : List ByteArray).length : Int)), (11, .slice a20 3 3), (12, Iv (3 : Int)), (13, .bool (decide ((([(⟨#[97, 110, 110]⟩ : ByteArray), (⟨#[98, 111, 98]⟩ : ByteArray), (⟨#[99, 121]⟩ : ByteArray)] : List ByteArray).length : Int) < (3 : Int))))] (yb (yah (fun hc => ?_)))
 clear hc
 refine yy (yk (yl (yn (En.next (yd nL11 ?_)))))
 refine yu ((cs_qCatalog s31 w_s31)) (hS116.rf m1) ?_
 refine ya 1 31 (.agg (cs_qColumn ({ z_qColumn with Name := (⟨#[97]⟩ : ByteArray), Type_ := 1 })).toArray) (y3 (rel := R_qColumn) (xs := ([{ z_qColumn with Name := (⟨#[97]⟩ : ByteArray), Type_ := 1 }] : List qColumn)) hS116 rfl (by kernel_rfl) rfl 73 3 [(cs_qColumn ({ z_qColumn with Name := (⟨#[97]⟩ : ByteArray), Type_ := 1 }))] (by kernel_rfl) rfl ((Elr.cons rfl Elr.nil)) (fun _ _ _ => trivial) ?_)
 intro a120 C118 w122 hS121 ho119
 obtain ⟨I124, hl125, hS127, hp126⟩ := y4 ho119 hS121
 refine ya 3 33 (.agg #[(Iv 1), (.string (⟨#[116]⟩ : ByteArray)), (.string (⟨#[]⟩ : ByteArray)), (.string (⟨#[]⟩ : ByteArray)), (.slice a120 1 1), (.slice none 0 0), (.slice none 0 0), (.slice none 0 0), (Iv 0), (Iv 0), (Iv 0), (Iv 0), (.string (⟨#[]⟩ : ByteArray)), (.string (⟨#[]⟩ : ByteArray)), (.slice none 0 0), (.slice none 0 0), (.slice none 0 0), (Iv 0), (Iv 0), (.bool false), (.slice none 0 0)]) ?_
 have hk128 : ok_qStmt I124 ({ z_qStmt with Kind := 1, Table := (⟨#[116]⟩ : ByteArray), Cols := ([{ z_qColumn with Name := (⟨#[97]⟩ : ByteArray), Type_ := 1 }] : List qColumn) }) ({ zw_qStmt with Cols := ⟨a120, 1⟩ }) := ⟨hp126, SlAt.nil, SlAt.nil, SlAt.nil, zok_qStmt.Where, SlAt.nil, SlAt.nil, SlAt.nil⟩
 obtain ⟨⟨r134, r135⟩, hx_r129, hr⟩ := bsm hr
 refine y8 (r17_Make_ok (h_s31.mono hl125) hk128 hS127 hx_r129) ?_
 rintro _ w130 ⟨I131, w_r134, rfl, hl132, hS133, h_r134⟩
 refine ⟨_, rfl, trivial, ?_⟩
 refine WO.vs 5 [(29, .tuple #[(.agg (cs_qCatalog r134 w_r134).toArray), (Iv r135)]), (35, .agg (cs_qCatalog r134 w_r134).toArray), (36, Iv r135)] (yx hS133 (cs_qCatalog z_qCatalog zw_qCatalog) 29 ?_)
 intro b136 w139 hS138
 refine yw hS138 0 (cs_qCatalog r134 w_r134) ?_
 intro w141 hS140
 refine ya 10 7 (Iv r135) (yb (ye (yd nL2 ?_)))
 refine WO.vs 0 [(37, Iv r135), (38, .bool (r135 == 0))] (yb ?_)
 obtain ⟨j142, hr1, hr⟩ := bsm hr
 refine W.jw (J := (fun fr w => ∃ I144 w_j142, fr = [(0, Pt b1 0), (1, Pt b11 0)] ∧ I131.Le I144 ∧ St E w I144 ((Bx b1 (cs_qCatalog z_qCatalog zw_qCatalog) 29) :: (Bx b11 (cs_qCatalog j142 w_j142) 29) :: Os) ∧ ok_qCatalog I144 j142 w_j142)) ?_ ?_
 refine W.cb hr1 (fun hc hr1 => ?_) (fun hc hr1 => ?_)
 refine yaa nL2 ?_
 refine yu ((cs_qCatalog r134 w_r134)) (hS140.rf m0) ?_
 refine yw hS140.front2 0 (cs_qCatalog r134 w_r134) ?_
 intro w148 hS147
 refine WO.nil ?_
 obtain rfl := sj hr1
 exact yo ⟨I131, w_r134, rfl, lr, hS147.front1.drop.front1, h_r134⟩
 refine yg ?_
 obtain rfl := sj hr1
 exact yo ⟨I131, w_s31, rfl, lr, hS140.drop, (h_s31.mono (hl125.trans hl132))⟩
 rintro _ w153 ⟨I144, w_j142, rfl, hl145, hS154, h_j142⟩
 refine En.next (yd nL2 ?_)
 refine yu ((cs_qCatalog j142 w_j142)) (hS154.rf m1) ?_
 refine yw hS154 0 (cs_qCatalog j142 w_j142) ?_
 intro w156 hS155
 refine yb (W.ret ?_)
 obtain rfl := sj hr
 exact yay _ (hS155.rd m0) ⟨I144, w_j142, rfl, (((((hl8.trans hl25).trans hl30).trans hl125).trans hl132).trans hl145), hS155.drop.drop, h_j142⟩
noncomputable def law19_Next (p0 : qCatalog) (p1 : law19_Act) : Option (qCatalog × Int) := (r19_Make p0 p1.S p1.By 1000).bind (fun (r18, r19) => ((bif (decide (p1.S.Kind < 10)) then (r17_Make p0 p1.S p1.By 1000).bind (fun (r35, r36) => some (r36, r35)) else some (r19, r18))).bind (fun ((s39, s40) : Int × qCatalog) => (bif (s39 != 0) then some (p0, s39) else some (s40, s39))))
theorem law19_Next_ok {p0 : qCatalog} {p1 : law19_Act} {w_p0 : W_qCatalog} {w_p1 : W_law19_Act} (h_p0 : ok_qCatalog I p0 w_p0) (h_p1 : ok_law19_Act I p1 w_p1) (hS : St E w I Os) {r : qCatalog × Int} (hr : law19_Next p0 p1 = some r) :
    Calls P 10 #[(.agg (cs_qCatalog p0 w_p0).toArray), (.agg (cs_law19_Act p1 w_p1).toArray)] w (fun e w' => ∃ I' w_rw0, e = .returned (.tuple #[(.agg (cs_qCatalog r.1 w_rw0).toArray), (Iv r.2)]) ∧ I.Le I' ∧ St E w' I' Os ∧ ok_qCatalog I' r.1 w_rw0) := by
 refine calls_W (fn := Tryz.f10) rfl rfl rfl ?_
 unfold law19_Next at hr
 refine yd nL4 ?_
 refine yx hS (cs_qCatalog p0 w_p0) 29 ?_
 intro b1 w4 hS3
 refine yx hS3 (cs_law19_Act p1 w_p1) 46 ?_
 intro b5 w8 hS7
 refine yx hS7 (cs_qCatalog z_qCatalog zw_qCatalog) 29 ?_
 intro b9 w12 hS11
 refine ya 3 5 (Iv 0) (yz nL12 ?_)
 refine yu ((cs_qCatalog p0 w_p0)) (hS11.rf m2) ?_
 refine ya 1 10 (Pt b5 0) (yu ((cs_qStmt p1.S w_p1.S)) (hS11.rf m1) ?_)
 refine ya 3 12 (Pt b5 21) (yf (v := (.string p1.By)) (hS11.rf m1) ?_)
 obtain ⟨⟨r18, r19⟩, hx_r13, hr⟩ := bsm hr
 refine y8 (r19_Make_ok h_p0 h_p1.S hS11 hx_r13) ?_
 rintro _ w14 ⟨I15, w_r18, rfl, hl16, hS17, h_r18⟩
 refine ⟨_, rfl, trivial, ?_⟩
 refine WO.vs 6 [(8, .tuple #[(.agg (cs_qCatalog r18 w_r18).toArray), (Iv r19)]), (15, .agg (cs_qCatalog r18 w_r18).toArray), (16, Iv r19)] (yx hS17 (cs_qCatalog z_qCatalog zw_qCatalog) 29 ?_)
 intro b20 w23 hS22
 refine yw hS22 0 (cs_qCatalog r18 w_r18) ?_
 intro w25 hS24
 refine ya 11 7 (Iv r19) (yb (ye (yd nL4 ?_)))
 refine WO.vs 0 [(17, Pt b5 0), (18, Pt b5 0)] (yf (v := (Iv p1.S.Kind)) (hS24.rf m2) ?_)
 refine ya 3 20 (.bool (decide (p1.S.Kind < 10))) (yb ?_)
 obtain ⟨j26, hr1, hr⟩ := bsm hr
 refine W.jw (J := (fun fr w => ∃ (s39 : Int) (s40 : qCatalog), ∃ I28 w_s40, (s39, s40) = j26 ∧ fr = [(2, Pt b1 0), (4, Pt b9 0), (6, Pt b20 0), (7, Iv s39)] ∧ I15.Le I28 ∧ St E w I28 ((Bx b1 (cs_qCatalog p0 w_p0) 29) :: (Bx b9 (cs_qCatalog z_qCatalog zw_qCatalog) 29) :: (Bx b20 (cs_qCatalog s40 w_s40) 29) :: Os) ∧ ok_qCatalog I28 s40 w_s40)) ?_ ?_
 refine W.cb hr1 (fun hc hr1 => ?_) (fun hc hr1 => ?_)
 refine yaa nL11 ?_
 refine yu ((cs_qCatalog p0 w_p0)) (hS24.rf m3) ?_
 refine ya 1 23 (Pt b5 0) (yu ((cs_qStmt p1.S w_p1.S)) (hS24.rf m2) ?_)
 refine ya 3 25 (Pt b5 21) (yf (v := (.string p1.By)) (hS24.rf m2) ?_)
 obtain ⟨⟨r35, r36⟩, hx_r30, hr1⟩ := bsm hr1
 refine y8 (r17_Make_ok (h_p0.mono hl16) (h_p1.S.mono hl16) hS24 hx_r30) ?_
 rintro _ w31 ⟨I32, w_r35, rfl, hl33, hS34, h_r35⟩
 refine ⟨_, rfl, trivial, ?_⟩
 refine WO.vs 6 [(21, .tuple #[(.agg (cs_qCatalog r35 w_r35).toArray), (Iv r36)]), (28, .agg (cs_qCatalog r35 w_r35).toArray), (29, Iv r36)] (yw hS34 0 (cs_qCatalog r35 w_r35) ?_)
 intro w38 hS37
 exact ya 10 7 (Iv r36) (WO.nil (yo ⟨r36, r35, I32, w_r35, sj hr1, rfl, hl33, hS37.front2.drop.front1.front2, h_r35⟩))
 exact yg (yo ⟨r19, r18, I15, w_r18, sj hr1, rfl, lr, hS24.front2.drop.front1.front2, h_r18⟩)
 rintro _ w49 ⟨s39, s40, I28, w_s40, rfl, rfl, hl29, hS50, h_s40⟩
 refine En.next (ye (yd nL2 ?_))
 refine WO.vs 0 [(30, Iv s39), (31, .bool (s39 != 0))] (yb (W.cb hr (fun hc hr => ?_) (fun hc hr => ?_)))
 refine yd nL4 ?_
 refine yu ((cs_qCatalog p0 w_p0)) (hS50.rf m0) ?_
 refine ya 1 33 (Iv s39) (yw hS50.front1 0 (cs_qCatalog p0 w_p0) ?_)
 intro w53 hS52
 refine ya 3 5 (Iv s39) (yb (W.ret (yc ?_)))
 obtain rfl := sj hr
 exact yak _ (hS52.rd m0) ⟨I28, w_p0, rfl, (hl16.trans hl29), hS52.drop.drop.drop, (h_p0.mono (hl16.trans hl29))⟩
 refine yg (En.next (yd nL4 ?_))
 refine yu ((cs_qCatalog s40 w_s40)) (hS50.rf m2) ?_
 refine ya 1 35 (Iv s39) (yw hS50.front1 0 (cs_qCatalog s40 w_s40) ?_)
 intro w59 hS58
 refine ya 3 5 (Iv s39) (yb (W.ret ?_))
 obtain rfl := sj hr
 exact yak _ (hS58.rd m0) ⟨I28, w_s40, rfl, (hl16.trans hl29), hS58.drop.drop.drop, h_s40⟩
noncomputable def law19_Grown (p0 : List law19_Act) : Option qCatalog := (law19_first).bind (fun r10 => (forE (fun (i21 : Nat) => fun (s20 : qCatalog) => (idx p0 (i21 : Int)).bind (fun x31 => (law19_Next s20 x31).bind (fun (r37, r38) => some r37))) p0.length 0 r10).bind (fun s20 => some s20))
theorem law19_Grown_ok {p0 : List law19_Act} {a_p0 : Option Addr} {c_p0 : Nat} (h_p0 : RSl 22 R_law19_Act I a_p0 c_p0 p0) (hS : St E w I Os) {r : qCatalog} (hr : law19_Grown p0 = some r) :
    Calls P 16 #[(Sl a_p0 p0 c_p0)] w (fun e w' => ∃ I' w_rw0, e = .returned (.agg (cs_qCatalog r w_rw0).toArray) ∧ I.Le I' ∧ St E w' I' Os ∧ ok_qCatalog I' r w_rw0) := by
 refine calls_W (fn := Tryz.f16) rfl rfl rfl ?_
 unfold law19_Grown at hr
 refine yd [0] ?_
 refine yx hS (cs_qCatalog z_qCatalog zw_qCatalog) 29 ?_
 intro b1 w4 hS3
 refine yz nL3 ?_
 obtain ⟨r10, hx_r5, hr⟩ := bsm hr
 refine y8 (law19_first_ok  hS3 hx_r5) ?_
 rintro _ w6 ⟨I7, w_r10, rfl, hl8, hS9, h_r10⟩
 refine ⟨_, rfl, trivial, ?_⟩
 refine yx hS9 (cs_qCatalog z_qCatalog zw_qCatalog) 29 ?_
 intro b11 w14 hS13
 refine yw hS13 0 (cs_qCatalog r10 w_r10) ?_
 intro w16 hS15
 refine yb (ye (yd [0] ?_))
 refine ya 0 4 (Iv 0) (yb (W.block ?_))
 obtain ⟨s20, hloop22, hr⟩ := bsm hr
 have hlt27 := ((RSl.mono h_p0 hl8)).len_lt
 refine W.wk (W.forE (m := p0.length) hloop22 (fun (i21 : Nat) => fun (s20 : qCatalog) fr w => ∃ I18 w_s20, fr = [(0, Sl a_p0 p0 c_p0), (2, Pt b1 0), (3, Pt b11 0), (4, Nv i21)] ∧ I7.Le I18 ∧ St E w I18 ((Bx b1 (cs_qCatalog z_qCatalog zw_qCatalog) 29) :: (Bx b11 (cs_qCatalog s20 w_s20) 29) :: Os) ∧ ok_qCatalog I18 s20 w_s20) ⟨I7, w_r10, rfl, lr, hS15.front1, h_r10⟩ ?_ ?_)
 rintro i21 s20 _ w24 hi28 ⟨I18, w_s20, rfl, hl19, hS25, h_s20⟩ x26 hr1
 refine ye (yd nL4 ?_)
 refine WO.vs 0 [(6, Nv i21), (7, Sl a_p0 p0 c_p0), (8, Nv p0.length), (9, .bool (decide ((i21 : Int) < (p0.length : Int))))] (yb (yag (fun hc => ?_)))
 clear hc
 refine yg (En.next (ye (W.block ?_)))
 have hS29 := hS25.drew
 refine yaz (l := nL10) (by kernel_rfl) 9 (KR I18 [Bx b11 (cs_qCatalog s20 w_s20) 29]) qR (.ords nL10 [0, 1, 2, 3, 4, 5, 6, 7, 9, 8] (by kernel_rfl) (by kernel_rfl) (by kernel_rfl) (by kernel_rfl) (by kernel_rfl)) (by kernel_rfl) (KR.cons (hS29.rd m1) (KR.nil hS29.im)) ?_
 generalize World.drew _ = w30 at *
 refine yu ((cs_qCatalog s20 w_s20)) (rd_c m0 (hS29.rd m1)) ?_
 refine WO.vs 1 [(14, Sl a_p0 p0 c_p0), (15, Nv i21)] ?_
 obtain ⟨x31, hr1, h0_x31, h1_x31, hx_x31, ha_x31, _, _, ⟨w_x31, rfl, h_x31⟩, hc_x31⟩ := sl_at ((RSl.mono h_p0 (hl8.trans hl19))) hr1
 refine yq 46 22 ha_x31 h0_x31 h1_x31 ?_
 refine yai ((cs_law19_Act x31 w_x31)) hc_x31 0 (rd_i hS29.im) ?_
 obtain ⟨⟨r37, r38⟩, hx_r32, hr1⟩ := bsm hr1
 refine y8 (law19_Next_ok h_s20 h_x31 hS29 hx_r32) ?_
 rintro _ w33 ⟨I34, w_r37, rfl, hl35, hS36, h_r37⟩
 refine ⟨_, rfl, (KR.cons (hS36.rd m1) (KR.nil (hS36.im.of_le hl35))), ?_⟩
 refine WO.vs 6 [(12, .tuple #[(.agg (cs_qCatalog r37 w_r37).toArray), (Iv r38)]), (19, .agg (cs_qCatalog r37 w_r37).toArray), (20, Iv r38)] (WO.tail rfl ?_)
 refine yw hS36.front1 0 (cs_qCatalog r37 w_r37) ?_
 intro w41 hS40
 refine WO.nil (yi (En.next (yaa nL3 ?_)))
 refine ya 0 10 (Nv i21) (y0 (j := i21) rfl (by kernel_rfl) rfl (by first | omega | (dsimp only at *; omega) | (simp only [List.length_cons, List.length_nil] at *; omega)) ?_)
 refine ya 2 4 (Iv ((i21 + 1 : Nat) : Int)) (WO.nil ?_)
 obtain rfl := sj hr1
 exact yo ⟨I34, w_r37, rfl, (hl19.trans hl35), hS40.front1, h_r37⟩
 rintro _ w43 ⟨I18, w_s20, rfl, hl19, hS44, h_s20⟩
 refine ye (yd nL4 ?_)
 refine WO.vs 0 [(6, Nv p0.length), (7, Sl a_p0 p0 c_p0), (8, Nv p0.length), (9, .bool (decide ((p0.length : Int) < (p0.length : Int))))] (yb (yah (fun hc => ?_)))
 clear hc
 refine yy (yk (yl (yn (En.next (yd nL2 ?_)))))
 refine yu ((cs_qCatalog s20 w_s20)) (hS44.rf m1) ?_
 refine yw hS44 0 (cs_qCatalog s20 w_s20) ?_
 intro w46 hS45
 refine yb (W.ret ?_)
 obtain rfl := sj hr
 exact yay _ (hS45.rd m0) ⟨I18, w_s20, rfl, (hl8.trans hl19), hS45.drop.drop, h_s20⟩
def slices_IndexFunc_qRole (p0 : List qRole) (p1 : qRole → Option Bool) : Option Int := (forN (fun (i4 : Nat) => fun (_s : Unit) => (idx p0 (i4 : Int)).bind (fun x11 => (p1 x11).bind (fun (r17 : Bool) => (bif r17 then some (.inr (i4 : Int)) else some (.inl ()))))) p0.length 0 ()).bind (fun (t : Unit ⊕ (Int)) => match t with | .inl _ => some (-1) | .inr s19 => some s19)
theorem slices_IndexFunc_qRole_ok {p0 : List qRole} {p1 : qRole → Option Bool} {a_p0 : Option Addr} {c_p0 : Nat} {g_p1 : FuncId} {k_p1 : List Value} (h_p0 : RSl 2 R_qRole I a_p0 c_p0 p0) (h_p1 : ∀ {F : List Mem} {I' : Mem} {w : World} {u0 : qRole} {w_u0 : W_qRole}, I.Le I' → St E w I' (F ++ Os) → ok_qRole I' u0 w_u0 → ∀ {r : Bool}, p1 u0 = some r → Calls P g_p1 (([(.agg (cs_qRole u0 w_u0).toArray)] : List Value) ++ k_p1).toArray w (fun e w' => ∃ (I'' : Mem), e = .returned (.bool r) ∧ I'.Le I'' ∧ St E w' I'' (F ++ Os))) (hcall_p1 : Callable P g_p1) (hS : St E w I Os) {r : Int} (hr : slices_IndexFunc_qRole p0 p1 = some r) :
    Calls P 95 #[(Sl a_p0 p0 c_p0), (.func (.func g_p1) #[] k_p1.toArray)] w (fun e w' => ∃ I', e = .returned (Iv r) ∧ I.Le I' ∧ St E w' I' Os) := by
 refine calls_W (fn := Tryz.f95) rfl rfl rfl ?_
 unfold slices_IndexFunc_qRole at hr
 refine yd [0] ?_
 refine ya 0 4 (Iv 0) (yb (ye (yd nL3 ?_)))
 refine WO.vs 0 [(6, Sl a_p0 p0 c_p0), (7, Nv p0.length), (8, Iv 0)] (yb (W.block ?_))
 obtain ⟨t1, hloop5, hr⟩ := bsm hr
 have hlt9 := (h_p0).len_lt
 refine W.wk (W.forN (m := p0.length) hloop5 (fun (i4 : Nat) => fun (_s : Unit) fr w => ∃ I2, fr = [(0, Sl a_p0 p0 c_p0), (1, .func (.func g_p1) #[] k_p1.toArray), (7, Nv p0.length), (8, Nv i4)] ∧ I.Le I2 ∧ St E w I2 Os) ⟨I, rfl, lr, hS⟩ ?_ ?_)
 rintro i4 _ _ w6 hi10 ⟨I2, rfl, hl3, hS7⟩ x8 hr1 hext1
 refine yd [0] ?_
 refine ya 0 9 (.bool (decide ((i4 : Int) < (p0.length : Int)))) (yb (ye (yag (fun hc => ?_))))
 clear hc
 refine yg (En.next (ye (W.block (yd nL2 ?_))))
 refine WO.vs 0 [(10, Nv i4), (5, Nv i4)] (yz nL6 ?_)
 refine WO.vs 0 [(11, .func (.func g_p1) #[] k_p1.toArray), (12, Sl a_p0 p0 c_p0), (13, Nv i4)] ?_
 obtain ⟨x11, hr1, h0_x11, h1_x11, hx_x11, ha_x11, _, _, ⟨w_x11, rfl, h_x11⟩, hc_x11⟩ := sl_at ((RSl.mono h_p0 hl3)) hr1
 refine yq 62 2 ha_x11 h0_x11 h1_x11 ?_
 refine yai ((cs_qRole x11 w_x11)) hc_x11 0 hS7.rm ?_
 obtain ⟨r17, hx_r12, hr1⟩ := bsm hr1
 refine WO.callv rfl (by kernel_rfl) rfl (g := g_p1) (kk := k_p1) (args := [(.agg (cs_qRole x11 w_x11).toArray)]) rfl (by kernel_rfl) hcall_p1 (h_p1 (F := []) hl3 hS7 h_x11 hx_r12) ?_
 rintro _ w13 ⟨I14, rfl, hl15, hS16⟩
 refine ⟨_, rfl, trivial, ?_⟩
 refine yb (W.cb hr1 (fun hc hr1 => ?_) (fun hc hr1 => ?_))
 refine yd nL2 ?_
 refine WO.vs 0 [(17, Nv i4), (4, Nv i4)] (yb (W.ret (yh (yc (ym ?_)))))
 obtain rfl := hext1 _ (sj hr1).symm
 refine yh (yc ?_)
 obtain rfl := sj hr
 exact yr ⟨I14, rfl, (hl3.trans hl15), hS16⟩
 refine yg (yi (En.next (yaa nL2 ?_)))
 refine y0 (j := i4) rfl (by kernel_rfl) rfl (by first | omega | (dsimp only at *; omega) | (simp only [List.length_cons, List.length_nil] at *; omega)) ?_
 exact ya 1 8 (Iv ((i4 + 1 : Nat) : Int)) (WO.nil (yo ⟨(), (sj hr1).symm, I14, rfl, (hl3.trans hl15), hS16⟩))
 rintro _ _ w20 ⟨I2, rfl, hl3, hS21⟩ he
 cases he
 refine yd [0] ?_
 refine ya 0 9 (.bool (decide ((p0.length : Int) < (p0.length : Int)))) (yb (ye (yah (fun hc => ?_))))
 clear hc
 refine yy (yk (yl (yn (En.next (yd [0] ?_)))))
 refine ya 0 4 (Iv (-1)) (yb (W.ret ?_))
 obtain rfl := sj hr
 exact yr ⟨I2, rfl, hl3, hS21⟩
def member_at_1 (p0 : qRole) (q1 : ByteArray) : Option Bool := some (sEq p0.Name q1)
theorem member_at_1_ok {p0 : qRole} {q1 : ByteArray} {w_p0 : W_qRole} {kb1 : Nat} (h_p0 : ok_qRole I p0 w_p0) (hm1 : (Bx kb1 [(.string q1)] 9) ∈ Os) (hS : St E w I Os) {r : Bool} (hr : member_at_1 p0 q1 = some r) :
    Calls P 96 #[(.agg (cs_qRole p0 w_p0).toArray), (Pt kb1 0)] w (fun e w' => ∃ I', e = .returned (.bool r) ∧ I.Le I' ∧ St E w' I' Os) := by
 refine calls_W (fn := Tryz.f96) rfl rfl rfl ?_
 unfold member_at_1 at hr
 refine yd nL2 ?_
 refine yx hS (cs_qRole p0 w_p0) 62 ?_
 intro b1 w4 hS3
 refine ya 1 3 (.bool false) (yz nL5 ?_)
 refine ya 0 4 (Pt b1 0) (yf (v := (.string p0.Name)) (hS3.rf m0) ?_)
 refine yf (v := (.string q1)) (rd_f (hS3.rd (List.Mem.tail _ hm1))) ?_
 refine WO.vs 3 [(7, .bool (sEq p0.Name q1)), (3, .bool (sEq p0.Name q1))] (yb (W.ret ?_))
 obtain rfl := sj hr
 exact yr ⟨I, rfl, lr, hS3.drop⟩
def member_at (p0 : List qRole) (p1 : ByteArray) : Option Int := (slices_IndexFunc_qRole p0 (fun (u0 : qRole) => member_at_1 u0 p1)).bind (fun r10 => some r10)
theorem member_at_ok {p0 : List qRole} {p1 : ByteArray} {a_p0 : Option Addr} {c_p0 : Nat} (h_p0 : RSl 2 R_qRole I a_p0 c_p0 p0) (hS : St E w I Os) {r : Int} (hr : member_at p0 p1 = some r) :
    Calls P 56 #[(Sl a_p0 p0 c_p0), (.string p1)] w (fun e w' => ∃ I', e = .returned (Iv r) ∧ I.Le I' ∧ St E w' I' Os) := by
 refine calls_W (fn := Tryz.f56) rfl rfl rfl ?_
 unfold member_at at hr
 refine yd nL2 ?_
 refine yx hS [(.string p1)] 9 ?_
 intro b1 w4 hS3
 refine ya 1 4 (Iv 0) (yz nL4 ?_)
 refine WO.vs 0 [(5, Sl a_p0 p0 c_p0), (6, .func (.func 96) #[] #[(Pt b1 0)])] ?_
 obtain ⟨r10, hx_r5, hr⟩ := bsm hr
 refine y6 (slices_IndexFunc_qRole_ok h_p0 (fun {F Ic wc} {_} {_} hlc hSc h_u0 {rc} hrc => member_at_1_ok h_u0 (List.mem_append_right _ m0) hSc hrc) (fun _ _ => by kernel_rfl) hS3 hx_r5) ?_
 intro I7 w6 hl8 hS9
 refine ya 3 4 (Iv r10) (yb (W.ret ?_))
 obtain rfl := sj hr
 exact yr ⟨I7, rfl, hl8, hS9.drop⟩
def slices_Clone_string (p0 : List ByteArray) : Option (List ByteArray) := (app 16 ([] : List ByteArray) p0).bind (fun x10 => some x10)
theorem slices_Clone_string_ok {p0 : List ByteArray} {a_p0 : Option Addr} {c_p0 : Nat} (h_p0 : RSl 1 RStr I a_p0 c_p0 p0) (hS : St E w I Os) {r : (List ByteArray)} (hr : slices_Clone_string p0 = some r) :
    Calls P 57 #[(Sl a_p0 p0 c_p0)] w (fun e w' => ∃ (I' : Mem) (ra0 : Option Addr) (rc0 : Nat) (rC0 : Mem), e = .returned (Sl ra0 r rc0) ∧ I.Le I' ∧ St E w' I' (rC0 :: Os) ∧ OwnSl 9 1 RStr I' rC0 ra0 rc0 r) := by
 refine calls_W (fn := Tryz.f57) rfl rfl rfl ?_
 unfold slices_Clone_string at hr
 refine yd [0] ?_
 refine ya 0 2 (.slice none 0 0) (yb (ye (yd nL2 ?_)))
 refine ya 0 3 (Sl a_p0 p0 c_p0) (yav (e := 9) rfl (by kernel_rfl) (by kernel_rfl) rfl rfl ?_)
 refine yb (W.cd (fun hc => ?_) (fun hc => ?_))
 have ha0 := Option.isNone_iff_eq_none.1 hc
 subst ha0
 have hx0 := (h_p0).none_nil
 subst hx0
 replace hr : some ([] : List ByteArray) = some r := by simpa [app] using hr
 refine yd [0] ?_
 refine ya 0 2 (.slice none 0 0) (yb (W.ret (yc ?_)))
 obtain rfl := sj hr
 exact yr ⟨I, none, 0, Mem.no, rfl, lr, hS.no, OwnSl.nil⟩
 clear hc
 refine yg (En.next (yd nL4 ?_))
 refine y3 (rel := RStr) (xs := ([] : List ByteArray)) hS rfl (by kernel_rfl) rfl 9 1 [] (by kernel_rfl) rfl (Elr.nil) (fun _ _ _ => trivial) ?_
 intro a6 C4 w8 hS7 ho5
 refine ya 1 6 (Sl a_p0 p0 c_p0) ?_
 obtain ⟨x10, hx_x10, hr⟩ := bsm hr
 obtain ⟨h0_x10, he_x10⟩ := app_some hx_x10
 refine WO.ap 9 16 [(.string (⟨#[]⟩ : ByteArray))] hS7 ho5 h_p0 hS7.im h0_x10 he_x10 ?_
 intro a11 c12 w13 C14 hS15 ho16
 refine ya 3 2 (Sl a11 x10 c12) (yb (W.ret ?_))
 obtain rfl := sj hr
 exact yr ⟨I, a11, c12, C14, rfl, lr, hS15, ho16⟩
def member_Find (p0 : List qRole) (p1 : ByteArray) : Option (qRole × Bool) := (member_at p0 p1).bind (fun r10 => (bif (decide (r10 < 0)) then some (z_qRole, false) else (idx p0 r10).bind (fun x16 => (idx p0 r10).bind (fun x17 => (slices_Clone_string x17.In).bind (fun r23 => some ({ x16 with In := r23 }, true))))))
theorem member_Find_ok {p0 : List qRole} {p1 : ByteArray} {a_p0 : Option Addr} {c_p0 : Nat} (h_p0 : RSl 2 R_qRole I a_p0 c_p0 p0) (hS : St E w I Os) {r : qRole × Bool} (hr : member_Find p0 p1 = some r) :
    Calls P 32 #[(Sl a_p0 p0 c_p0), (.string p1)] w (fun e w' => ∃ I' w_rw0, e = .returned (.tuple #[(.agg (cs_qRole r.1 w_rw0).toArray), (.bool r.2)]) ∧ I.Le I' ∧ St E w' I' Os ∧ ok_qRole I' r.1 w_rw0) := by
 refine calls_W (fn := Tryz.f32) rfl rfl rfl ?_
 unfold member_Find at hr
 refine yd nL2 ?_
 refine yx hS (cs_qRole z_qRole zw_qRole) 62 ?_
 intro b1 w4 hS3
 refine ya 1 5 (.bool false) (yz nL4 ?_)
 refine WO.vs 0 [(7, Sl a_p0 p0 c_p0), (8, .string p1)] ?_
 obtain ⟨r10, hx_r5, hr⟩ := bsm hr
 refine y6 (member_at_ok h_p0 hS3 hx_r5) ?_
 intro I7 w6 hl8 hS9
 refine ya 3 6 (Iv r10) (yb (ye (yd nL2 ?_)))
 refine WO.vs 0 [(10, Iv r10), (11, .bool (decide (r10 < 0)))] (yb (W.cb hr (fun hc hr => ?_) (fun hc hr => ?_)))
 refine yd nL3 ?_
 refine ya 0 12 (.agg (cs_qRole z_qRole zw_qRole).toArray) (yw hS9 0 (cs_qRole z_qRole zw_qRole) ?_)
 intro w12 hS11
 refine ya 2 5 (.bool false) (yb (W.ret (yc ?_)))
 obtain rfl := sj hr
 exact yak _ (hS11.rd m0) ⟨I7, zw_qRole, rfl, hl8, hS11.drop, zok_qRole⟩
 refine yg (En.next (ye ?_))
 have hS14 := hS9.drew
 refine yao nL14 11 (KR.nil hS14.im) ?_
 generalize World.drew _ = w15 at *
 refine WO.vs 0 [(13, Sl a_p0 p0 c_p0), (14, Iv r10)] ?_
 obtain ⟨x16, hr, h0_x16, h1_x16, hx_x16, ha_x16, _, _, ⟨w_x16, rfl, h_x16⟩, hc_x16⟩ := sl_at ((RSl.mono h_p0 hl8)) hr
 refine yq 62 2 ha_x16 h0_x16 h1_x16 ?_
 refine ya 3 16 (.pointer (some ⟨bl a_p0, of a_p0 + (r10).toNat * 2, none⟩)) (yae (v := (.string x16.Name)) hc_x16 (rd_i hS14.im) ?_)
 refine WO.vs 5 [(18, Sl a_p0 p0 c_p0), (19, Iv r10)] ?_
 obtain ⟨x17, hr, h0_x17, h1_x17, hx_x17, ha_x17, _, _, ⟨w_x17, rfl, h_x17⟩, hc_x17⟩ := sl_at ((RSl.mono h_p0 hl8)) hr
 refine yq 62 2 ha_x17 h0_x17 h1_x17 ?_
 refine ya 8 21 (.pointer (some ⟨bl a_p0, of a_p0 + (r10).toNat * 2 + 1, none⟩)) (WO.le (v := (Sl w_x17.In.a x17.In w_x17.In.c)) hc_x17 1 (rd_i hS14.im) ?_)
 obtain ⟨r23, hx_r18, hr⟩ := bsm hr
 refine y8 (slices_Clone_string_ok h_x17.In hS14 hx_r18) ?_
 rintro _ w19 ⟨I20, a_r23, c_r23, C_r23, rfl, hl21, hS22, h_r23⟩
 refine ⟨_, rfl, (KR.nil (hS22.im.of_le hl21)), ?_⟩
 refine WO.tail rfl ?_
 obtain ⟨I24, hl25, hS27, hp26⟩ := y4 h_r23 hS22
 refine ya 11 24 (.agg (cs_qRole ({ x16 with In := r23 }) (⟨⟨a_r23, c_r23⟩⟩ : W_qRole)).toArray) (yw hS27 0 (cs_qRole ({ x16 with In := r23 }) (⟨⟨a_r23, c_r23⟩⟩ : W_qRole)) ?_)
 intro w29 hS28
 refine ya 13 5 (.bool true) (yb (W.ret ?_))
 have hk31 : ok_qRole I24 ({ x16 with In := r23 }) (⟨⟨a_r23, c_r23⟩⟩ : W_qRole) := ⟨hp26⟩
 obtain rfl := sj hr
 exact yak _ (hS28.rd m0) ⟨I24, (⟨⟨a_r23, c_r23⟩⟩ : W_qRole), rfl, ((hl8.trans hl21).trans hl25), hS28.drop, hk31⟩
theorem sorted98_99_ok {ν : Type} {val : Mem → Value → ν → Prop} {E w : World} {I C : Mem} {Os : List Mem} {m b : Nat} {l : List (ByteArray × ν)} (h : OwnMap Value.string val I C m l) (hS : St E w I (Gv.one b (.cells #[.map (some m)] 150 (0, 0)) :: C :: Os)) {r : List ByteArray} (hr : keysO l = some r) :
    Calls P 98 #[.func (.func 134) #[] #[.pointer (some ⟨b, 0, none⟩)]] w (fun e w' => ∃ (I' : Mem) (a : Option Addr) (c : Nat), e = .returned (.slice a r.length c) ∧ I.Le I' ∧ St E w' I' (Gv.one b (.cells #[.map (some m)] 150 (0, 0)) :: C :: Os) ∧ RSl 1 RStr I' a c r) :=
  keys_own h hS (kt := 9) (by kernel_rfl) (fun b' nn D0 R w h1 h2 h3 h4 h5 => Tryz.sortedAt98_99 b b' nn D0 R w h1 h2 h3 h4 h5) hr
theorem keys99_ok {m : Nat} (hS : St E w I Os) : Calls P 99 #[.map (some m)] w (fun e w' => ∃ b, e = .returned (.func (.func 134) #[] #[.pointer (some ⟨b, 0, none⟩)]) ∧ St E w' I (Gv.one b (.cells #[.map (some m)] 150 (0, 0)) :: Os)) := by
  refine (Tryz.maps_Keys_99 (some m) w).mono ?_
  rintro e w' ⟨rfl, rfl⟩
  exact ⟨_, rfl, hS.alloc _⟩
noncomputable def member_AllM (p0 : List qRole) (p1 : ByteArray) : M (List ByteArray) := bindM (optM (member_at p0 p1)) (fun (r6 : Int) => (bif (decide (r6 < 0)) then retM ([] : List ByteArray) else bindM (loopM (fun (s : Bool × (List (ByteArray × Bool))) => match s with | (s18, s19) => (bif s18 then bindM (rangeM (fun (k71 : ByteArray) (x72 : Bool) => fun (s33 : List ByteArray) => (member_Find p0 k71).bind (fun ((r91, r92) : qRole × Bool) => (forE (fun (i103 : Nat) => fun (s102 : List ByteArray) => (idx r91.In (i103 : Int)).bind (fun (x114 : ByteArray) => (some ((mget sEq s19 x114).getD false)).bind (fun (x115 : Bool) => ((bif (!x115) then (member_at p0 x114).bind (fun (r125 : Int) => some (decide (r125 ≥ 0))) else some false)).bind (fun (j116 : Bool) => ((bif j116 then (app 16 s102 ([x114] : List ByteArray)).bind (fun (x140 : List ByteArray) => some x140) else some s102)).bind (fun (j128 : List ByteArray) => some j128))))) r91.In.length 0 s33).bind (fun (s102 : (List ByteArray)) => some (.inl s102)))) s19 ([] : List ByteArray)) (fun (t : (List ByteArray) ⊕ Unit) => Sum.elim (fun (s33 : List ByteArray) => bindM (optM (forE (fun (i53 : Nat) => fun (s52 : List (ByteArray × Bool)) => (idx s33 (i53 : Int)).bind (fun (x61 : ByteArray) => some (mset sEq s52 x61 true))) s33.length 0 s19)) (fun (s52 : List (ByteArray × Bool)) => retM (.inl ((decide ((s33.length : Int) > 0)), s52)))) (fun _ _ => False) t) else retM (.inr s19))) (true, (mset sEq ([] : List (ByteArray × Bool)) p1 true))) (fun (s156 : List (ByteArray × Bool)) => bindM (optM (keysO s156)) (fun (r163 : List ByteArray) => retM r163))))
noncomputable def member_All (p0 : List qRole) (p1 : ByteArray) : Option (List ByteArray) := ofM (member_AllM p0 p1)
theorem member_All_ok {p0 : List qRole} {p1 : ByteArray} {a_p0 : Option Addr} {c_p0 : Nat} (h_p0 : RSl 2 R_qRole I a_p0 c_p0 p0) (hS : St E w I Os) {r : (List ByteArray)} (hr : member_All p0 p1 = some r) :
    Calls P 59 #[(.slice a_p0 p0.length c_p0), (.string p1)] w (fun e w' => ∃ (I' : Mem) (ra0 : Option Addr) (rc0 : Nat), e = .returned (.slice ra0 r.length rc0) ∧ I.Le I' ∧ St E w' I' Os ∧ RSl 1 RStr I' ra0 rc0 r) := by
  refine calls_W (args := [(.slice a_p0 p0.length c_p0), (.string p1)]) (fn := Tryz.f59) rfl rfl rfl ?_
  replace hr := ofM_some (m := member_AllM p0 p1) hr
  unfold member_AllM at hr
  refine ye ?_
  refine yaf (l := [0]) (by kernel_rfl) ?_
  refine yad [(0, 4, (.slice none 0 0))] (by kernel_rfl) (fun _ => by kernel_rfl) ?_
  refine WO.nil ?_
  refine En.next ?_
  refine ye ?_
  refine ye ?_
  refine yaf (l := [0, 1, 2, 3]) (by kernel_rfl) ?_
  refine yad [(0, 15, (.slice a_p0 p0.length c_p0)), (1, 16, (.string p1))] (by kernel_rfl) (fun _ => by kernel_rfl) ?_
  obtain ⟨r6, hx_r1, hr⟩ := optM_some hr
  refine yaw rfl (by kernel_rfl) rfl (f := 56) (args := #[(.slice a_p0 p0.length c_p0), (.string p1)]) (by kernel_rfl) (member_at_ok h_p0 hS hx_r1) ?_
  rintro _ w2 ⟨I3, rfl, hl4, hS5⟩
  refine ⟨_, rfl, trivial, ?_⟩
  refine yad [(3, 18, (.bool (decide (r6 < 0))))] (by kernel_rfl) (fun _ => by kernel_rfl) ?_
  refine WO.nil ?_
  refine En.next ?_
  refine W.cond (b := (decide (r6 < 0))) rfl rfl (fun hc => ?_) (fun hc => ?_)
  · replace hr := condM_t hc hr
    refine ye ?_
    refine yaf (l := [0]) (by kernel_rfl) ?_
    refine yad [(0, 4, (.slice none 0 0))] (by kernel_rfl) (fun _ => by kernel_rfl) ?_
    refine WO.nil ?_
    refine En.next ?_
    refine W.ret ?_
    refine yc ?_
    have he : ([] : List ByteArray) = r := hr
    subst r
    exact En.ret1 rfl (.slice none 0 0) rfl ⟨I3, none, 0, rfl, hl4, hS5, SlAt.nil⟩
  · replace hr := condM_f hc hr
    refine yg ?_
    refine En.next ?_
    refine ye ?_
    refine yaf (l := [0, 1, 2, 3, 4]) (by kernel_rfl) ?_
    refine ya0 hS5 rfl (by kernel_rfl) rfl (.map #[] 0) (fun b => .map (some b)) (by kernel_rfl) (fun _ _ _ => trivial) ?_
    intro b7 w10 hS9
    refine yad [(1, 20, (.string p1))] (by kernel_rfl) (fun _ => by kernel_rfl) ?_
    refine WO.update (OwnMap.nil (enc := Value.string) (val := (val1 RBool)) (I := I3) (m := b7)) hS9 (t := 150) (kt := 9) (et := 4) (by kernel_rfl) (keyLaw_str (kt := 9) (by kernel_rfl)) rfl (by kernel_rfl) rfl (.inr rfl) rfl p1 rfl rfl (xv := true) rfl (fun _ _ _ => trivial) ?_
    intro w13 C11 hS12 hm14
    refine yad [(3, 21, (.map (some b7))), (4, 5, (.map (some b7)))] (by kernel_rfl) (fun _ => by kernel_rfl) ?_
    refine WO.nil ?_
    refine En.next ?_
    refine ye ?_
    refine ye ?_
    refine yaf (l := [0]) (by kernel_rfl) ?_
    refine yad [(0, 6, (.bool true))] (by kernel_rfl) (fun _ => by kernel_rfl) ?_
    refine WO.nil ?_
    refine En.next ?_
    refine W.block ?_
    have hloop20 : Gv.loopM _ _ _ := hr
    refine W.weaken (fr' := [(0, (.slice a_p0 p0.length c_p0)), (5, (.map (some b7))), (6, (.bool true))]) (W.loopM hloop20 (fun (s : Bool × (List (ByteArray × Bool))) fr w => match s with | (s18, s19) => ∃ (I16 : Mem), ∃ (C_s19 : Mem), fr = [(0, (.slice a_p0 p0.length c_p0)), (5, (.map (some b7))), (6, (.bool s18))] ∧ I3.Le I16 ∧ St E w I16 ((C_s19) :: Os) ∧ OwnMap Value.string (val1 RBool) I16 C_s19 b7 s19) ⟨I3, C11, rfl, Mem.Le.refl _, hS12, hm14⟩ ?_) (Sub.cons rfl (Sub.cons rfl (Sub.cons rfl Sub.nil)))
    rintro ⟨s18, s19⟩ _ w21 ⟨I16, C_s19, rfl, hl17, hS22, h_s19⟩ Kx23 hr1
    refine ye ?_
    refine ye ?_
    refine yaf (l := [0]) (by kernel_rfl) ?_
    refine yad [(0, 22, (.bool s18))] (by kernel_rfl) (fun _ => by kernel_rfl) ?_
    refine WO.nil ?_
    refine En.next ?_
    refine W.cond (b := s18) rfl rfl (fun hc => ?_) (fun hc => ?_)
    · replace hr1 := condM_t hc hr1
      refine yg ?_
      refine En.next ?_
      refine W.block ?_
      refine ye ?_
      refine yaf (l := [0]) (by kernel_rfl) ?_
      refine yad [(0, 7, (.slice none 0 0))] (by kernel_rfl) (fun _ => by kernel_rfl) ?_
      refine WO.nil ?_
      refine En.next ?_
      refine ye ?_
      refine ye ?_
      refine yaf (l := [0, 1]) (by kernel_rfl) ?_
      refine yad [(0, 23, (.map (some b7)))] (by kernel_rfl) (fun _ => by kernel_rfl) ?_
      refine WO.rangeMap h_s19 hS22 (t := 150) (kt := 9) (et := 4) (by kernel_rfl) rfl (by kernel_rfl) rfl rfl (fun _ _ _ => trivial) ?_
      intro b24 w25 D26 hS27 hit28
      refine WO.nil ?_
      refine En.next ?_
      refine W.block ?_
      have hloop38 : Gv.rangeM _ _ _ _ := hr1
      have hS40 := hS27.no
      have hS41 := hS40.front1
      have hS42 := hS41.front2
      refine W.weaken (fr' := [(0, (.slice a_p0 p0.length c_p0)), (5, (.map (some b7))), (7, (.slice none ([] : List ByteArray).length 0)), (24, (.pointer (some ⟨b24, 0, none⟩)))]) (W.rangeM hloop38 (fun (rm34 : List (ByteArray × Bool)) => fun (s33 : List ByteArray) fr w => ∃ (I31 : Mem), ∃ (a_s33 : Option Addr), ∃ (c_s33 : Nat), ∃ (C_s33 : Mem), ∃ (D35 : Mem), ∃ (lst37 : Option (Value × Value)), fr = [(0, (.slice a_p0 p0.length c_p0)), (5, (.map (some b7))), (7, (.slice a_s33 s33.length c_s33)), (24, (.pointer (some ⟨b24, 0, none⟩)))] ∧ I16.Le I31 ∧ St E w I31 ((C_s19) :: (D35) :: (C_s33) :: Os) ∧ OwnSl 9 1 RStr I31 C_s33 a_s33 c_s33 s33 ∧ IterSt Value.string (val1 RBool) I31 C_s19 b7 s19 D35 b24 rm34 lst37) ⟨I16, none, 0, Mem.no, D26, _, rfl, Mem.Le.refl _, hS42, OwnSl.nil, hit28⟩ ?_) (Sub.cons rfl (Sub.cons rfl (Sub.cons rfl (Sub.cons rfl Sub.nil))))
      rintro rm34 s33 _ w43 ⟨I31, a_s33, c_s33, C_s33, D35, lst37, rfl, hl32, hS44, h_s33, hit36⟩ hst45 hend46
      refine ye ?_
      refine yaf (l := [0, 1]) (by kernel_rfl) ?_
      have hS47 := hS44.front1
      refine WO.next hit36 hS47 rfl (by kernel_rfl) rfl rfl (fun _ _ _ => trivial) (fun he48 => ?_) ?_
      · skip
        replace hr1 := hend46 he48
        refine yad [(1, 26, (.bool false))] (by kernel_rfl) (fun _ => by kernel_rfl) ?_
        refine WO.nil ?_
        refine En.next ?_
        refine ye ?_
        refine W.cond (b := false) rfl rfl (fun hc => ?_) (fun hc => ?_)
        · cases hc
        clear hc
        refine yy ?_
        refine yk ?_
        refine yl ?_
        refine yn ?_
        refine En.next ?_
        refine ye ?_
        refine yaf (l := [0, 1, 2, 3]) (by kernel_rfl) ?_
        refine yad [(0, 57, (.slice a_s33 s33.length c_s33)), (1, 58, (.int .i64 (s33.length : Int))), (2, 59, (.bool (decide ((s33.length : Int) > 0)))), (3, 6, (.bool (decide ((s33.length : Int) > 0))))] (by kernel_rfl) (fun _ => by kernel_rfl) ?_
        refine WO.nil ?_
        refine En.next ?_
        refine ye ?_
        refine yaf (l := [0, 1, 2]) (by kernel_rfl) ?_
        refine yad [(0, 60, (.slice a_s33 s33.length c_s33)), (1, 61, (.int .i64 (s33.length : Int))), (2, 62, (.int .i64 0))] (by kernel_rfl) (fun _ => by kernel_rfl) ?_
        refine WO.nil ?_
        refine En.next ?_
        refine W.block ?_
        obtain ⟨s52, hloop54, hr1⟩ := optM_some hr1
        have hS55 := hS47.drop
        have hlt59 := (h_s33.sl).len_lt
        refine W.weaken (fr' := [(0, (.slice a_p0 p0.length c_p0)), (5, (.map (some b7))), (6, (.bool (decide ((s33.length : Int) > 0)))), (60, (.slice a_s33 s33.length c_s33)), (61, (.int .i64 (s33.length : Int))), (62, (.int .i64 ((0 : Nat) : Int)))]) (W.forE (m := s33.length) hloop54 (fun (i53 : Nat) => fun (s52 : List (ByteArray × Bool)) fr w => ∃ (I50 : Mem), ∃ (C_s52 : Mem), fr = [(0, (.slice a_p0 p0.length c_p0)), (5, (.map (some b7))), (6, (.bool (decide ((s33.length : Int) > 0)))), (60, (.slice a_s33 s33.length c_s33)), (61, (.int .i64 (s33.length : Int))), (62, (.int .i64 (i53 : Int)))] ∧ I31.Le I50 ∧ St E w I50 ((C_s52) :: (C_s33) :: Os) ∧ OwnMap Value.string (val1 RBool) I50 C_s52 b7 s52) ⟨I31, C_s19, rfl, Mem.Le.refl _, hS55, (OwnMap.mono h_s19 hl32)⟩ ?roundt49 ?lastt49) (Sub.cons rfl (Sub.cons rfl (Sub.cons rfl (Sub.cons rfl (Sub.cons rfl (Sub.cons rfl Sub.nil))))))
        case roundt49 =>
          rintro i53 s52 _ w56 hi60 ⟨I50, C_s52, rfl, hl51, hS57, h_s52⟩ x58 hr2
          refine ye ?_
          refine yaf (l := [0]) (by kernel_rfl) ?_
          refine yad [(0, 63, (.bool (decide ((i53 : Int) < (s33.length : Int)))))] (by kernel_rfl) (fun _ => by kernel_rfl) ?_
          refine WO.nil ?_
          refine En.next ?_
          refine ye ?_
          refine W.cond (b := (decide ((i53 : Int) < (s33.length : Int)))) rfl rfl (fun hc => ?_) (fun hc => ?_)
          rotate_left
          · exact absurd hc (by first | (simp; done) | (simp; omega))
          clear hc
          refine yg ?_
          refine En.next ?_
          refine ye ?_
          refine W.block ?_
          refine ye ?_
          refine yaf (l := [0, 1, 2]) (by kernel_rfl) ?_
          obtain ⟨x61, hx_x61, hr2⟩ := bind_some hr2
          obtain ⟨h0_x61, h1_x61, hx_x61⟩ := idx_some hx_x61
          obtain ⟨ha_x61, cs_x61, hn_x61, hr_x61, hc_x61⟩ := ((h_s33.mono hl51).sl).el _ _ hx_x61
          obtain rfl := hr_x61
          refine yax (e := 9) (sz := 1) rfl (by kernel_rfl) (by kernel_rfl) (by kernel_rfl) rfl ha_x61 rfl h0_x61 h1_x61 ?_
          refine ya3 rfl (by kernel_rfl) (by kernel_rfl) rfl (v := (.string x61)) (fun w' hw' => hc_x61.cell0 (by kernel_rfl) ((rd_f (hS57.rd (List.Mem.tail _ (List.Mem.head _)))) w' hw')) ?_
          refine yad [(2, 14, (.string x61))] (by kernel_rfl) (fun _ => by kernel_rfl) ?_
          refine WO.nil ?_
          refine En.next ?_
          refine yaf (l := [0, 1, 2]) (by kernel_rfl) ?_
          refine yad [(0, 66, (.map (some b7))), (1, 67, (.string x61))] (by kernel_rfl) (fun _ => by kernel_rfl) ?_
          refine WO.update h_s52 hS57 (t := 150) (kt := 9) (et := 4) (by kernel_rfl) (keyLaw_str (kt := 9) (by kernel_rfl)) rfl (by kernel_rfl) rfl (.inl rfl) rfl x61 rfl rfl (xv := true) rfl (fun _ _ _ => trivial) ?_
          intro w65 C62 hS63 hm66
          refine WO.nil ?_
          refine yi ?_
          refine En.next ?_
          refine yaf (l := [0, 1]) (by kernel_rfl) ?_
          refine y0 (j := i53) rfl (by kernel_rfl) rfl (by first | omega | (dsimp only at *; omega)) ?_
          refine yad [(1, 62, (.int .i64 ((i53 + 1 : Nat) : Int)))] (by kernel_rfl) (fun _ => by kernel_rfl) ?_
          refine WO.nil ?_
          have he := Option.some.inj hr2
          subst x58
          refine En.weaken (fr' := [(0, (.slice a_p0 p0.length c_p0)), (5, (.map (some b7))), (6, (.bool (decide ((s33.length : Int) > 0)))), (60, (.slice a_s33 s33.length c_s33)), (61, (.int .i64 (s33.length : Int))), (62, (.int .i64 ((i53 + 1 : Nat) : Int)))]) (yat ⟨I50, C62, rfl, hl51, hS63, hm66⟩) (Sub.cons rfl (Sub.cons rfl (Sub.cons rfl (Sub.cons rfl (Sub.cons rfl (Sub.cons rfl Sub.nil))))))
        case lastt49 =>
          rintro _ w67 ⟨I50, C_s52, rfl, hl51, hS68, h_s52⟩
          refine ye ?_
          refine yaf (l := [0]) (by kernel_rfl) ?_
          refine yad [(0, 63, (.bool (decide ((s33.length : Int) < (s33.length : Int)))))] (by kernel_rfl) (fun _ => by kernel_rfl) ?_
          refine WO.nil ?_
          refine En.next ?_
          refine ye ?_
          refine W.cond (b := (decide ((s33.length : Int) < (s33.length : Int)))) rfl rfl (fun hc => ?_) (fun hc => ?_)
          · exact absurd hc (by first | (simp; done) | (simp; omega))
          clear hc
          refine yy ?_
          refine yk ?_
          refine yl ?_
          refine yn ?_
          refine yi ?_
          have hS69 := hS68.front1
          have hS70 := hS69.drop
          refine En.weaken (fr' := [(0, (.slice a_p0 p0.length c_p0)), (5, (.map (some b7))), (6, (.bool (decide ((s33.length : Int) > 0))))]) (yat ⟨((decide ((s33.length : Int) > 0)), s52), hr1, I50, C_s52, rfl, ((hl17.trans hl32).trans hl51), hS70, h_s52⟩) (Sub.cons rfl (Sub.cons rfl (Sub.cons rfl Sub.nil)))
      · skip
        intro k71 x72 rm73 v74 w75 D76 hp77 hv78 hS79 hit80
        obtain ⟨y81, hy82, hex83⟩ := hst45 k71 x72 rm73 hp77
        have hr2 := hy82
        obtain rfl := (List.cons.inj hv78).1
        refine yad [(1, 26, (.bool true))] (by kernel_rfl) (fun _ => by kernel_rfl) ?_
        refine WO.nil ?_
        refine En.next ?_
        refine ye ?_
        refine W.cond (b := true) rfl rfl (fun hc => ?_) (fun hc => ?_)
        rotate_left
        · cases hc
        clear hc
        refine yg ?_
        refine En.next ?_
        refine W.block ?_
        refine ye ?_
        refine yaf (l := [0, 1, 2]) (by kernel_rfl) ?_
        have hS84 := hS79.front1
        have hS85 := hS84.front1
        refine WO.entry hit80 hS85 rfl (by kernel_rfl) rfl rfl trivial ?_
        refine yad [(1, 28, (.string k71)), (2, 8, (.string k71))] (by kernel_rfl) (fun _ => by kernel_rfl) ?_
        refine WO.nil ?_
        refine En.next ?_
        refine ye ?_
        refine yaf (l := [0, 1, 2, 3, 4, 5, 6, 7, 8]) (by kernel_rfl) ?_
        refine yad [(0, 30, (.slice a_p0 p0.length c_p0)), (1, 31, (.string k71))] (by kernel_rfl) (fun _ => by kernel_rfl) ?_
        obtain ⟨⟨r91, r92⟩, hx_r86, hr2⟩ := bind_some hr2
        refine yaw rfl (by kernel_rfl) rfl (f := 32) (args := #[(.slice a_p0 p0.length c_p0), (.string k71)]) (by kernel_rfl) (member_Find_ok (RSl.mono h_p0 ((hl4.trans hl17).trans hl32)) hS85 hx_r86) ?_
        rintro _ w87 ⟨I88, w_r91, rfl, hl89, hS90, h_r91⟩
        refine ⟨_, rfl, trivial, ?_⟩
        refine yad [(3, 29, (.tuple #[(.agg (cs_qRole r91 w_r91).toArray), (.bool r92)])), (4, 33, (.agg (cs_qRole r91 w_r91).toArray)), (5, 34, (.bool r92))] (by kernel_rfl) (fun _ => by kernel_rfl) ?_
        refine ya0 hS90 rfl (by kernel_rfl) rfl (.cells (cs_qRole z_qRole zw_qRole).toArray 62 (0, 0)) (fun b => .pointer (some ⟨b, 0, none⟩)) (by kernel_rfl) (fun _ _ _ => trivial) ?_
        intro b93 w96 hS95
        refine ya1 hS95 rfl (by kernel_rfl) rfl 0 rfl rfl (by kernel_rfl) (by kernel_rfl) (by kernel_rfl) ((cs_qRole r91 w_r91).toArray) (by kernel_rfl) (fun _ _ => trivial) ?_
        intro w98 hS97
        refine yad [(8, 10, (.bool r92))] (by kernel_rfl) (fun _ => by kernel_rfl) ?_
        refine WO.nil ?_
        refine En.next ?_
        refine ye ?_
        refine yaf (l := [0, 1, 2, 3]) (by kernel_rfl) ?_
        refine yad [(0, 35, (.pointer (some ⟨b93, 1, none⟩)))] (by kernel_rfl) (fun _ => by kernel_rfl) ?_
        refine ya3 rfl (by kernel_rfl) (by kernel_rfl) rfl (v := (.slice w_r91.In.a r91.In.length w_r91.In.c)) (fun w' hw' => cell_one ((rd_f (hS97.rd (List.Mem.head _))) w' hw') (by kernel_rfl)) ?_
        refine yad [(2, 37, (.int .i64 (r91.In.length : Int))), (3, 38, (.int .i64 0))] (by kernel_rfl) (fun _ => by kernel_rfl) ?_
        refine WO.nil ?_
        refine En.next ?_
        refine W.block ?_
        obtain ⟨s102, hloop104, hr2⟩ := bind_some hr2
        have hS105 := hS97.drop
        have hS106 := hS105.front2
        have hS107 := hS106.front1
        have hS108 := hS107.front2
        have hlt112 := (h_r91.In).len_lt
        refine W.weaken (fr' := [(0, (.slice a_p0 p0.length c_p0)), (5, (.map (some b7))), (7, (.slice a_s33 s33.length c_s33)), (24, (.pointer (some ⟨b24, 0, none⟩))), (36, (.slice w_r91.In.a r91.In.length w_r91.In.c)), (37, (.int .i64 (r91.In.length : Int))), (38, (.int .i64 ((0 : Nat) : Int)))]) (W.forE (m := r91.In.length) hloop104 (fun (i103 : Nat) => fun (s102 : List ByteArray) fr w => ∃ (I100 : Mem), ∃ (a_s102 : Option Addr), ∃ (c_s102 : Nat), ∃ (C_s102 : Mem), fr = [(0, (.slice a_p0 p0.length c_p0)), (5, (.map (some b7))), (7, (.slice a_s102 s102.length c_s102)), (24, (.pointer (some ⟨b24, 0, none⟩))), (36, (.slice w_r91.In.a r91.In.length w_r91.In.c)), (37, (.int .i64 (r91.In.length : Int))), (38, (.int .i64 (i103 : Int)))] ∧ I88.Le I100 ∧ St E w I100 ((C_s19) :: (D76) :: (C_s102) :: Os) ∧ OwnSl 9 1 RStr I100 C_s102 a_s102 c_s102 s102) ⟨I88, a_s33, c_s33, C_s33, rfl, Mem.Le.refl _, hS108, (OwnSl.mono h_s33 hl89)⟩ ?roundt99 ?lastt99) (Sub.cons rfl (Sub.cons rfl (Sub.cons rfl (Sub.cons rfl (Sub.cons rfl (Sub.cons rfl (Sub.cons rfl Sub.nil)))))))
        case roundt99 =>
          rintro i103 s102 _ w109 hi113 ⟨I100, a_s102, c_s102, C_s102, rfl, hl101, hS110, h_s102⟩ x111 hr3
          refine ye ?_
          refine yaf (l := [0]) (by kernel_rfl) ?_
          refine yad [(0, 39, (.bool (decide ((i103 : Int) < (r91.In.length : Int)))))] (by kernel_rfl) (fun _ => by kernel_rfl) ?_
          refine WO.nil ?_
          refine En.next ?_
          refine ye ?_
          refine W.cond (b := (decide ((i103 : Int) < (r91.In.length : Int)))) rfl rfl (fun hc => ?_) (fun hc => ?_)
          rotate_left
          · exact absurd hc (by first | (simp; done) | (simp; omega))
          clear hc
          refine yg ?_
          refine En.next ?_
          refine ye ?_
          refine W.block ?_
          refine ye ?_
          refine yaf (l := [0, 1, 2]) (by kernel_rfl) ?_
          obtain ⟨x114, hx_x114, hr3⟩ := bind_some hr3
          obtain ⟨h0_x114, h1_x114, hx_x114⟩ := idx_some hx_x114
          obtain ⟨ha_x114, cs_x114, hn_x114, hr_x114, hc_x114⟩ := ((RSl.mono h_r91.In hl101)).el _ _ hx_x114
          obtain rfl := hr_x114
          refine yax (e := 9) (sz := 1) rfl (by kernel_rfl) (by kernel_rfl) (by kernel_rfl) rfl ha_x114 rfl h0_x114 h1_x114 ?_
          refine ya3 rfl (by kernel_rfl) (by kernel_rfl) rfl (v := (.string x114)) (fun w' hw' => hc_x114.cell0 (by kernel_rfl) ((rd_f hS110.im) w' hw')) ?_
          refine yad [(2, 12, (.string x114))] (by kernel_rfl) (fun _ => by kernel_rfl) ?_
          refine WO.nil ?_
          refine En.next ?_
          refine ye ?_
          refine yaf (l := [0, 1, 2, 3, 4, 5, 6, 7, 8, 9]) (by kernel_rfl) ?_
          refine yad [(0, 42, (.map (some b7))), (1, 43, (.string x114))] (by kernel_rfl) (fun _ => by kernel_rfl) ?_
          obtain ⟨x115, hx_x115, hr3⟩ := bind_some hr3
          obtain ⟨v_x115, hv_x115, hq_x115⟩ := OwnMap.lookup (OwnMap.mono h_s19 ((hl32.trans hl89).trans hl101)) (t := 150) (kt := 9) (et := 4) (by kernel_rfl) (keyLaw_str (kt := 9) (by kernel_rfl)) x114 (zv := (.bool false)) (z0 := false) (by kernel_rfl) rfl
          rw [Option.some.inj hx_x115] at hv_x115
          obtain rfl := (List.cons.inj hv_x115).1
          refine WO.lookup rfl (by kernel_rfl) rfl rfl hq_x115 ((rd_f (hS110.rd (List.Mem.head _)))) (.bool x115) rfl ?_
          refine yad [(3, 45, (.bool (!x115))), (4, 46, (.bool (!x115)))] (by kernel_rfl) (fun _ => by kernel_rfl) ?_
          obtain ⟨j116, hr4, hr3⟩ := bind_some hr3
          refine WO.join (l1 := [5, 6, 7, 8, 9]) (l2 := []) (J := (fun fr w => ∃ (I118 : Mem), fr = [(0, (.slice a_p0 p0.length c_p0)), (5, (.map (some b7))), (7, (.slice a_s102 s102.length c_s102)), (12, (.string x114)), (24, (.pointer (some ⟨b24, 0, none⟩))), (36, (.slice w_r91.In.a r91.In.length w_r91.In.c)), (37, (.int .i64 (r91.In.length : Int))), (38, (.int .i64 (i103 : Int))), (51, (.bool j116))] ∧ I100.Le I118 ∧ St E w I118 ((C_s19) :: (D76) :: (C_s102) :: Os))) ?restj116 ?waysj116
          case waysj116 =>
            refine yp (!x115) (fun hc => ?_) (fun hc => ?_)
            · replace hr4 := cond_t hc hr4
              refine y7 46 rfl (show Value.bool (!x115) = Value.bool true by rw [hc]) ?_
              refine yad [(5, 47, (.slice a_p0 p0.length c_p0)), (6, 48, (.string x114))] (by kernel_rfl) (fun _ => by kernel_rfl) ?_
              obtain ⟨r125, hx_r120, hr4⟩ := bind_some hr4
              refine yaw rfl (by kernel_rfl) rfl (f := 56) (args := #[(.slice a_p0 p0.length c_p0), (.string x114)]) (by kernel_rfl) (member_at_ok (RSl.mono h_p0 ((((hl4.trans hl17).trans hl32).trans hl89).trans hl101)) hS110 hx_r120) ?_
              rintro _ w121 ⟨I122, rfl, hl123, hS124⟩
              refine ⟨_, rfl, trivial, ?_⟩
              refine yad [(8, 50, (.bool (decide (r125 ≥ 0)))), (9, 51, (.bool (decide (r125 ≥ 0))))] (by kernel_rfl) (fun _ => by kernel_rfl) ?_
              have he := Option.some.inj hr4
              subst j116
              refine WO.weaken (fr' := [(0, (.slice a_p0 p0.length c_p0)), (5, (.map (some b7))), (7, (.slice a_s102 s102.length c_s102)), (12, (.string x114)), (24, (.pointer (some ⟨b24, 0, none⟩))), (36, (.slice w_r91.In.a r91.In.length w_r91.In.c)), (37, (.int .i64 (r91.In.length : Int))), (38, (.int .i64 (i103 : Int))), (51, (.bool (decide (r125 ≥ 0))))]) (WO.meet ⟨I122, rfl, hl123, hS124⟩) (Sub.cons rfl (Sub.cons rfl (Sub.cons rfl (Sub.cons rfl (Sub.cons rfl (Sub.cons rfl (Sub.cons rfl (Sub.cons rfl (Sub.cons rfl Sub.nil)))))))))
            · replace hr4 := cond_f hc hr4
              refine y7 46 rfl (show Value.bool (!x115) = Value.bool false by rw [hc]) ?_
              refine ya5 rfl (by kernel_rfl) rfl ?_
              refine ya5 rfl (by kernel_rfl) rfl ?_
              refine ya5 rfl (by kernel_rfl) rfl ?_
              refine ya5 rfl (by kernel_rfl) rfl ?_
              refine yad [(9, 51, (.bool false))] (by kernel_rfl) (fun _ => by kernel_rfl) ?_
              have he := Option.some.inj hr4
              subst j116
              refine WO.weaken (fr' := [(0, (.slice a_p0 p0.length c_p0)), (5, (.map (some b7))), (7, (.slice a_s102 s102.length c_s102)), (12, (.string x114)), (24, (.pointer (some ⟨b24, 0, none⟩))), (36, (.slice w_r91.In.a r91.In.length w_r91.In.c)), (37, (.int .i64 (r91.In.length : Int))), (38, (.int .i64 (i103 : Int))), (51, (.bool false))]) (WO.meet ⟨I100, rfl, Mem.Le.refl _, hS110⟩) (Sub.cons rfl (Sub.cons rfl (Sub.cons rfl (Sub.cons rfl (Sub.cons rfl (Sub.cons rfl (Sub.cons rfl (Sub.cons rfl (Sub.cons rfl Sub.nil)))))))))
          case restj116 =>
            rintro _ w126 ⟨I118, rfl, hl119, hS127⟩
            refine WO.nil ?_
            refine En.next ?_
            obtain ⟨j128, hr4, hr3⟩ := bind_some hr3
            refine W.join (J := (fun fr w => ∃ (I130 : Mem), ∃ (a_j128 : Option Addr), ∃ (c_j128 : Nat), ∃ (C_j128 : Mem), fr = [(0, (.slice a_p0 p0.length c_p0)), (5, (.map (some b7))), (7, (.slice a_j128 j128.length c_j128)), (24, (.pointer (some ⟨b24, 0, none⟩))), (36, (.slice w_r91.In.a r91.In.length w_r91.In.c)), (37, (.int .i64 (r91.In.length : Int))), (38, (.int .i64 (i103 : Int)))] ∧ I118.Le I130 ∧ St E w I130 ((C_s19) :: (D76) :: (C_j128) :: Os) ∧ OwnSl 9 1 RStr I130 C_j128 a_j128 c_j128 j128)) ?restj128 ?waysj128
            case waysj128 =>
              refine W.cond (b := j116) rfl rfl (fun hc => ?_) (fun hc => ?_)
              · replace hr4 := cond_t hc hr4
                refine yaf (l := [0, 1, 2, 3, 4]) (by kernel_rfl) ?_
                refine yad [(0, 52, (.slice a_s102 s102.length c_s102)), (1, 53, (.string x114))] (by kernel_rfl) (fun _ => by kernel_rfl) ?_
                refine y3 (rel := RStr) (xs := ([x114] : List ByteArray)) hS127 rfl (by kernel_rfl) rfl 9 1 [[(.string x114)]] (by kernel_rfl) rfl ((Elr.cons rfl Elr.nil)) (fun _ _ _ => trivial) ?_
                intro a135 C133 w137 hS136 ho134
                have hS139 := hS136.front3
                obtain ⟨x140, hx_x140, hr4⟩ := bind_some hr4
                obtain ⟨h0_x140, he_x140⟩ := app_some hx_x140
                refine WO.append (e' := 9) (b := 16) (zs := #[(.string (⟨#[]⟩ : ByteArray))]) hS139 (OwnSl.mono h_s102 hl119) rfl (by kernel_rfl) rfl (by kernel_rfl) (by kernel_rfl) (by kernel_rfl) rfl rfl rfl rfl ho134.sl (hS139.rd (List.Mem.tail _ (List.Mem.head _))) h0_x140 he_x140 (fun _ _ _ => trivial) ?_
                intro a141 c142 w143 C144 hS145 ho146
                have hS147 := hS145.front1
                have hS148 := hS147.drop
                refine yad [(4, 7, (.slice a141 x140.length c142))] (by kernel_rfl) (fun _ => by kernel_rfl) ?_
                refine WO.nil ?_
                have hS149 := hS148.front2
                have hS150 := hS149.front2
                have he := Option.some.inj hr4
                subst j128
                refine En.weaken (fr' := [(0, (.slice a_p0 p0.length c_p0)), (5, (.map (some b7))), (7, (.slice a141 x140.length c142)), (24, (.pointer (some ⟨b24, 0, none⟩))), (36, (.slice w_r91.In.a r91.In.length w_r91.In.c)), (37, (.int .i64 (r91.In.length : Int))), (38, (.int .i64 (i103 : Int)))]) (yat ⟨I118, a141, c142, C144, rfl, Mem.Le.refl _, hS150, ho146⟩) (Sub.cons rfl (Sub.cons rfl (Sub.cons rfl (Sub.cons rfl (Sub.cons rfl (Sub.cons rfl (Sub.cons rfl Sub.nil)))))))
              · replace hr4 := cond_f hc hr4
                refine yg ?_
                have he := Option.some.inj hr4
                subst j128
                refine En.weaken (fr' := [(0, (.slice a_p0 p0.length c_p0)), (5, (.map (some b7))), (7, (.slice a_s102 s102.length c_s102)), (24, (.pointer (some ⟨b24, 0, none⟩))), (36, (.slice w_r91.In.a r91.In.length w_r91.In.c)), (37, (.int .i64 (r91.In.length : Int))), (38, (.int .i64 (i103 : Int)))]) (yat ⟨I118, a_s102, c_s102, C_s102, rfl, Mem.Le.refl _, hS127, (OwnSl.mono h_s102 hl119)⟩) (Sub.cons rfl (Sub.cons rfl (Sub.cons rfl (Sub.cons rfl (Sub.cons rfl (Sub.cons rfl (Sub.cons rfl Sub.nil)))))))
            case restj128 =>
              rintro _ w151 ⟨I130, a_j128, c_j128, C_j128, rfl, hl131, hS152, h_j128⟩
              refine yi ?_
              refine En.next ?_
              refine yaf (l := [0, 1]) (by kernel_rfl) ?_
              refine y0 (j := i103) rfl (by kernel_rfl) rfl (by first | omega | (dsimp only at *; omega)) ?_
              refine yad [(1, 38, (.int .i64 ((i103 + 1 : Nat) : Int)))] (by kernel_rfl) (fun _ => by kernel_rfl) ?_
              refine WO.nil ?_
              have he := Option.some.inj hr3
              subst x111
              refine En.weaken (fr' := [(0, (.slice a_p0 p0.length c_p0)), (5, (.map (some b7))), (7, (.slice a_j128 j128.length c_j128)), (24, (.pointer (some ⟨b24, 0, none⟩))), (36, (.slice w_r91.In.a r91.In.length w_r91.In.c)), (37, (.int .i64 (r91.In.length : Int))), (38, (.int .i64 ((i103 + 1 : Nat) : Int)))]) (yat ⟨I130, a_j128, c_j128, C_j128, rfl, ((hl101.trans hl119).trans hl131), hS152, h_j128⟩) (Sub.cons rfl (Sub.cons rfl (Sub.cons rfl (Sub.cons rfl (Sub.cons rfl (Sub.cons rfl (Sub.cons rfl Sub.nil)))))))
        case lastt99 =>
          rintro _ w153 ⟨I100, a_s102, c_s102, C_s102, rfl, hl101, hS154, h_s102⟩
          refine ye ?_
          refine yaf (l := [0]) (by kernel_rfl) ?_
          refine yad [(0, 39, (.bool (decide ((r91.In.length : Int) < (r91.In.length : Int)))))] (by kernel_rfl) (fun _ => by kernel_rfl) ?_
          refine WO.nil ?_
          refine En.next ?_
          refine ye ?_
          refine W.cond (b := (decide ((r91.In.length : Int) < (r91.In.length : Int)))) rfl rfl (fun hc => ?_) (fun hc => ?_)
          · exact absurd hc (by first | (simp; done) | (simp; omega))
          clear hc
          refine yy ?_
          refine yk ?_
          refine yl ?_
          refine yn ?_
          refine yi ?_
          refine En.weaken (fr' := [(0, (.slice a_p0 p0.length c_p0)), (5, (.map (some b7))), (7, (.slice a_s102 s102.length c_s102)), (24, (.pointer (some ⟨b24, 0, none⟩)))]) (yat ⟨k71, x72, rm73, s102, hp77, hy82.trans (congrArg some (Option.some.inj hr2).symm), I100, a_s102, c_s102, C_s102, D76, _, rfl, ((hl32.trans hl89).trans hl101), hS154, h_s102, (IterSt.mono hit80 (hl89.trans hl101))⟩) (Sub.cons rfl (Sub.cons rfl (Sub.cons rfl (Sub.cons rfl Sub.nil))))
    · replace hr1 := condM_f hc hr1
      refine yy ?_
      refine yk ?_
      refine yl ?_
      replace hr := hr1
      refine yn ?_
      refine En.next ?_
      refine ye ?_
      refine yaf (l := [0, 1, 2, 3]) (by kernel_rfl) ?_
      refine yad [(0, 69, (.map (some b7)))] (by kernel_rfl) (fun _ => by kernel_rfl) ?_
      refine yaw rfl (by kernel_rfl) rfl (f := 99) (args := #[(.map (some b7))]) (by kernel_rfl) (keys99_ok hS22) ?_
      rintro _ w176 ⟨b174, rfl, hS175⟩
      refine ⟨_, rfl, trivial, ?_⟩
      have hS178 := hS175.front1
      have hS179 := hS178.front1
      obtain ⟨r180, hx181, hr⟩ := optM_some hr
      refine yaw rfl (by kernel_rfl) rfl (f := 98) (args := #[(.func (.func 134) #[] #[(.pointer (some ⟨b174, 0, none⟩))])]) (by kernel_rfl) (sorted98_99_ok h_s19 hS179 hx181) ?_
      rintro _ w188 ⟨I182, a183, c184, rfl, hl185, hS186, hp187⟩
      refine ⟨_, rfl, trivial, ?_⟩
      refine yad [(3, 4, (.slice a183 r180.length c184))] (by kernel_rfl) (fun _ => by kernel_rfl) ?_
      refine WO.nil ?_
      refine En.next ?_
      refine W.ret ?_
      have hS189 := hS186.drop
      have hS190 := hS189.drop
      have he : r180 = r := hr
      subst r
      exact En.ret1 rfl (.slice a183 r180.length c184) rfl ⟨I182, a183, c184, rfl, ((hl4.trans hl17).trans hl185), hS190, hp187⟩
end Go.Proofs.YtdmapcjbbbifbaaGreat
