/- What functions of the program come to, each by a plain one. Conditions: none. -/
import Derived.Test.YtdhfbakalknplaaGreatF4
import Derived.Test.YtdhfbakalknplaaGreatProg
set_option maxRecDepth 100000
namespace Go.Proofs.YtdhfbakalknplaaGreat
open Go.Gv
set_option maxHeartbeats 1000000
variable {E w : World} {I : Mem} {Os : List Mem}
def slices_ContainsFunc_qE (p0 : List qE) (p1 : qE → Option Bool) : Option Bool := (slices_IndexFunc_qE p0 p1).bind (fun r6 => some (decide (r6 ≥ 0)))
theorem slices_ContainsFunc_qE_ok {p0 : List qE} {p1 : qE → Option Bool} {a_p0 : Option Addr} {c_p0 : Nat} {g_p1 : FuncId} {k_p1 : List Value} (h_p0 : RSl 7 Q_qE I a_p0 c_p0 p0) (h_p1 : ∀ {F : List Mem} {I' : Mem} {w : World} {u0 : qE} {w_u0 : W_qE}, I.Le I' → St E w I' (F ++ Os) → ok_qE I' u0 w_u0 → ∀ {r : Bool}, p1 u0 = some r → Calls P g_p1 (([(vE u0 w_u0)] : List Value) ++ k_p1).toArray w (fun e w' => ∃ (I'' : Mem), e = .returned (.bool r) ∧ I'.Le I'' ∧ St E w' I'' (F ++ Os))) (hcall_p1 : Callable P g_p1) (hS : St E w I Os) {r : Bool} (D : slices_ContainsFunc_qE p0 p1 = some r) :
    Calls P 35 #[(Sl a_p0 p0 c_p0), (.func (.func g_p1) #[] k_p1.toArray)] w (RT E I Os (.bool r)) := by
 refine calls_W (fn := Tryz.f35) rfl rfl rfl ?_
 unfold slices_ContainsFunc_qE at D
 exact ye [0] (ya 0 1 z (y8 nL5 (ya 0 1 z (yaf 1 6 (.func (.func g_p1) #[] k_p1.toArray) (bsk D fun r6 Xr1 D => WO.c1 (slices_IndexFunc_qE_ok h_p0 (fun {F Ic wc} {_} {_} hlc hSc h_u0 {rc} hrc => h_p1 hlc hSc h_u0 hrc) hcall_p1 hS Xr1) z fun I3 w2 L4 S5 => ya 3 2 z (yb (yq (sj D ▸ yy ⟨I3, rfl, L4, S5⟩))))))))
noncomputable def access_Reads_3 (p0 : List qE) : Option Bool := (slices_ContainsFunc_qE p0 (fun (u0 : qE) => access_names u0)).bind (fun r6 => some r6)
theorem access_Reads_3_ok {p0 : List qE} {a_p0 : Option Addr} {c_p0 : Nat} (h_p0 : RSl 7 Q_qE I a_p0 c_p0 p0) (hS : St E w I Os) {r : Bool} (D : access_Reads_3 p0 = some r) :
    Calls P 34 #[(Sl a_p0 p0 c_p0)] w (RT E I Os (.bool r)) := by
 refine calls_W (fn := Tryz.f34) rfl rfl rfl ?_
 unfold access_Reads_3 at D
 exact ye [0] (ya 0 1 z (y8 nL3 (ya 0 1 z (bsk D fun r6 Xr1 D => WO.c1 (slices_ContainsFunc_qE_ok h_p0 (fun {F Ic wc} {_} {_} hlc hSc h_u0 {rc} hrc => access_names_ok h_u0  hSc hrc) (fun _ _ => by kernel_rfl) hS Xr1) z fun I3 w2 L4 S5 => ya 2 1 z (yb (yq (sj D ▸ yy ⟨I3, rfl, L4, S5⟩)))))))
noncomputable def access_Reads (p0 : qS) : Option Bool := (access_names p0.Where).bind (fun r10 => ((bif r10 then some true else (slices_ContainsFunc_qSet p0.Sets (fun (u0 : qSet) => access_Reads_1 u0)).bind (fun r20 => some r20))).bind (fun (j11 : Bool) => ((bif j11 then some true else (slices_ContainsFunc_qO p0.Order (fun (u0 : qO) => access_Reads_2 u0)).bind (fun r32 => some r32))).bind (fun (j23 : Bool) => (bif j23 then some true else (bif ((p0.Kind == 16) || (p0.Kind == 21)) then some false else (slices_ContainsFunc_qE_l p0.Rows (fun (u0 : List qE) => access_Reads_3 u0)).bind (fun r44 => some r44))))))
theorem access_Reads_ok {p0 : qS} {w_p0 : W_qS} (h_p0 : ok_qS I p0 w_p0) (hS : St E w I Os) {r : Bool} (D : access_Reads p0 = some r) :
    Calls P 11 #[(vS p0 w_p0)] w (RT E I Os (.bool r)) := by
 refine calls_W (fn := Tryz.f11) rfl rfl rfl ?_
 unfold access_Reads at D
 refine ye nL2 (yaa hS (cs_qS p0 w_p0) 36 z fun b1 w4 S3 => ya 1 1 z (yb (yi (ye nL13 (yh 0 1 [8] z (y4 ((cs_qE p0.Where w_p0.Where)) (S3.rf m0) z (bsk D fun r10 Xr5 D => WO.c1 (access_names_ok h_p0.Where S3 Xr5) z fun I7 w6 L8 S9 => ya 3 1 z (bsk D fun j11 R1 D => yao (l1 := [4, 5, 6, 7]) (J := JI E I7 [(1, Pt b1 0), (10, .bool j11)] (bS b1 p0 w_p0 :: Os)) ?_ ?_))))))))
 refine yan R1 (fun G R1 => ?_) (fun G R1 => ?_)
 refine y7 6 G ?_
 iterate 3 refine yam ?_
 exact ya 7 1 z (sj R1 ▸ y6 ⟨I7, rfl, lr, S9⟩)
 exact y7 6 G (yh 4 1 [15] z (yj (S9.rf m0) z (bsk R1 fun r20 Xr15 R1 => WO.c1 (slices_ContainsFunc_qSet_ok (RSl.mono h_p0.Sets L8) (fun {F Ic wc} {_} {_} hlc hSc h_u0 {rc} hrc => access_Reads_1_ok h_u0  hSc hrc) (fun _ _ => by kernel_rfl) S9 Xr15) z fun I17 w16 L18 S19 => ya 7 1 z (sj R1 ▸ y6 ⟨I17, rfl, L18, S19⟩))))
 rintro _ w21 ⟨I13, rfl, L14, S22⟩
 refine ya 8 1 z (bsk D fun j23 R1 D => yao (l1 := [9, 10, 11, 12]) (J := JI E I13 [(1, Pt b1 0), (15, .bool j23)] (bS b1 p0 w_p0 :: Os)) ?_ ?_)
 refine yan R1 (fun G R1 => ?_) (fun G R1 => ?_)
 refine y7 11 G ?_
 iterate 3 refine yam ?_
 exact ya 12 1 z (sj R1 ▸ y6 ⟨I13, rfl, lr, S22⟩)
 exact y7 11 G (yh 9 1 [16] z (yj (S22.rf m0) z (bsk R1 fun r32 Xr27 R1 => WO.c1 (slices_ContainsFunc_qO_ok (up h_p0.Order) (fun {F Ic wc} {_} {_} hlc hSc h_u0 {rc} hrc => access_Reads_2_ok h_u0  hSc hrc) (fun _ _ => by kernel_rfl) S22 Xr27) z fun I29 w28 L30 S31 => ya 12 1 z (sj R1 ▸ y6 ⟨I29, rfl, L30, S31⟩))))
 rintro _ w33 ⟨I25, rfl, L26, S34⟩
 refine yb (y3 D (fun G D => ?_) (fun G D => ?_))
 exact ye [0] (ya 0 1 z (yb (yq (yf (sj D ▸ yy ⟨I25, rfl, le, S34.drop⟩)))))
 refine yl (yc (yi (ye nL8 (yh 0 1 [0] z (yj (S34.rf m0) z (ya 2 2 z (ya7 [4, 5, 6] 7 19 23 (.refl ((p0.Kind == 16) || (p0.Kind == 21))) (fun _ => yh 4 1 [0] z (yj (S34.rf m0) z (ya 6 2 z yal))) (yb (y3 D (fun G D => ?_) (fun G D => ?_))))))))))
 exact ye [0] (ya 0 1 z (yb (yq (yf (sj D ▸ yy ⟨I25, rfl, le, S34.drop⟩)))))
 exact yl (yc (ye nL4 (yh 0 1 [7] z (yj (S34.rf m0) z (bsk D fun r44 Xr39 D => WO.c1 (slices_ContainsFunc_qE_l_ok (up h_p0.Rows) (fun {F Ic wc} {_} {_} {_} hlc hSc h_u0 {rc} hrc => access_Reads_3_ok h_u0  hSc hrc) (fun _ _ => by kernel_rfl) S34 Xr39) z fun I41 w40 L42 S43 => ya 3 1 z (yb (yq (sj D ▸ yy ⟨I41, rfl, le, S43.drop⟩))))))))
noncomputable def access_rows (p0 : qC) (p1 : By8) (p2 : qS) : Option Int := (catalog_Find p0 p2.Table).bind (fun (r14, r15) => (bif (!r15) then some 4 else (access_priv p2.Kind).bind (fun r32 => (grants_May p0 p1 r32 p2.Table).bind (fun r38 => (bif (!r38) then some 36 else ((bif ((p2.Kind == 17) || (p2.Kind == 18)) then (access_Reads p2).bind (fun r53 => some r53) else some false)).bind (fun (j44 : Bool) => ((bif j44 then (grants_May p0 p1 1 p2.Table).bind (fun r69 => some (!r69)) else some false)).bind (fun (j60 : Bool) => (bif j60 then some 36 else some 0))))))))
theorem access_rows_ok {p0 : qC} {p1 : By8} {p2 : qS} {w_p0 : W_qC} {w_p2 : W_qS} (h_p0 : ok_qC I p0 w_p0) (h_p2 : ok_qS I p2 w_p2) (hS : St E w I Os) {r : Int} (D : access_rows p0 p1 p2 = some r) :
    Calls P 22 #[(vC p0 w_p0), (.string p1), (vS p2 w_p2)] w (RT E I Os (Iv r)) := by
 refine calls_W (fn := Tryz.f22) rfl rfl rfl ?_
 unfold access_rows at D
 refine ye nL3 (yaa hS (cs_qC p0 w_p0) 44 z fun b1 w4 S3 => yaa S3 (cs_qS p2 w_p2) 36 z fun b5 w8 S7 => ya 2 1 z (yb (yi (ye nL10 (y4 ((cs_qC p0 w_p0)) (S7.rf m1) z (yh 1 1 [1] z (yj (S7.rf m0) z ?_)))))))
 obtain ⟨⟨r14, r15⟩, Xr9, D⟩ := bsm D
 refine yaj (catalog_Find_ok h_p0 S7 Xr9) ?_
 rintro _ w10 ⟨I11, w_r14, rfl, L12, S13, h_r14⟩
 refine cv (ya 4 3 z (yaa S13 (cs_qT z_qT zw_qT) 52 z fun b16 w19 S18 => yad S18 0 (cs_qT r14 w_r14) fun w21 S20 => ya 9 1 z (y8 nL2 (ya 0 2 z (yb (y3 D (fun G D => ?_) (fun G D => ?_)))))))
 exact ye [0] (ya 0 1 z (yb (yq (yf (sj D ▸ yy ⟨I11, rfl, L12, S20.d3⟩)))))
 refine yl (yc (yi (yi (have S25 := S20.drew; ybc nL9 7 (yw (S25.rd m1) (yw (S25.rd m2) (yae S25.im))) ?_))))
 generalize World.drew _ = w26 at *
 refine y4 ((cs_qC p0 w_p0)) (rd_c m1 (S25.rd m2)) z (yh 1 2 [0] z (yj (rd_c m0 (S25.rd m1)) z (bsk D fun r32 Xr27 D => yaj (access_priv_ok  S25 Xr27) ?_)))
 rintro _ w28 ⟨I29, rfl, L30, S31⟩
 refine ⟨_, rfl, (yw (S31.rd m1) (yw (S31.rd m2) (yae (S31.im.of_le L30)))), ?_⟩
 refine yh 5 1 [1] z (yj (rd_c m0 (S31.rd m1)) z (WO.tail z (bsk D fun r38 Xr33 D => WO.c1 (grants_May_ok (h_p0.mono le) S31 Xr33) z fun I35 w34 L36 S37 => ya 8 1 z (yb (y3 D (fun G D => ?_) (fun G D => ?_))))))
 exact ye [0] (ya 0 1 z (yb (yq (yf (sj D ▸ yy ⟨I35, rfl, le, S37.d3⟩)))))
 refine yl (yc (yi (ye nL20 (yh 0 1 [0] z (yj (S37.rf m1) z (ya 2 2 z (ya7 [4, 5, 6] 7 30 34 (.refl ((p2.Kind == 17) || (p2.Kind == 18))) (fun _ => yh 4 1 [0] z (yj (S37.rf m1) z (ya 6 2 z yal))) (ya 8 1 z (bsk D fun j44 R1 D => yao (l1 := [9, 10, 11]) (J := JI E I35 [(1, .string p1), (3, Pt b1 0), (5, Pt b5 0), (38, .bool j44)] (bC b1 p0 w_p0 :: (bS b5 p2 w_p2) :: Os)) ?_ ?_)))))))))
 refine yan R1 (fun G R1 => ?_) (fun G R1 => ?_)
 exact y7 35 G (y4 ((cs_qS p2 w_p2)) (S37.rf m1) z (bsk R1 fun r53 Xr48 R1 => WO.c1 (access_Reads_ok (h_p2.mono le) S37 Xr48) z fun I50 w49 L51 S52 => ya 11 1 z (sj R1 ▸ y6 ⟨I50, rfl, L51, S52.drop.front1⟩)))
 refine y7 35 G ?_
 iterate 2 refine yam ?_
 exact ya 11 1 z (sj R1 ▸ y6 ⟨I35, rfl, lr, S37.drop.front1⟩)
 rintro _ w58 ⟨I46, rfl, L47, S59⟩
 refine ya 12 1 z (bsk D fun j60 R1 D => yao (l1 := [13, 14, 15, 16, 17, 18, 19]) (J := JI E I46 [(46, .bool j60)] Os) ?_ ?_)
 refine yan R1 (fun G R1 => ?_) (fun G R1 => ?_)
 exact y7 39 G (y4 ((cs_qC p0 w_p0)) (S59.rf m0) z (yh 14 2 [1] z (yj (S59.rf m1) z (bsk R1 fun r69 Xr64 R1 => WO.c1 (grants_May_ok (h_p0.mono le) S59 Xr64) z fun I66 w65 L67 S68 => ya 18 2 z (sj R1 ▸ y6 ⟨I66, rfl, L67, S68.d2⟩)))))
 refine y7 39 G ?_
 iterate 6 refine yam ?_
 exact ya 19 1 z (sj R1 ▸ y6 ⟨I46, rfl, lr, S59.d2⟩)
 rintro _ w74 ⟨I62, rfl, L63, S75⟩
 refine yb (y3 D (fun G D => ?_) (fun G D => ?_))
 exact ye [0] (ya 0 1 z (yb (yq (yf (sj D ▸ yy ⟨I62, rfl, le, S75⟩)))))
 exact yl (yc (ye [0] (ya 0 1 z (yb (yq (sj D ▸ yy ⟨I62, rfl, le, S75⟩))))))
noncomputable def access_Allowed (p0 : qC) (p1 : By8) (p2 : qS) : Option Int := (member_Find p0.Roles p1).bind (fun (r14, r15) => (bif (!r15) then some 4 else (bif (p2.Kind == 1) then (access_parents p0 p1 p2).bind (fun r30 => some r30) else ((bif ((decide (p2.Kind ≥ 2)) && (decide (p2.Kind ≤ 9))) then (catalog_Find p0 p2.Table).bind (fun (r45, r46) => (bif (!r46) then some (.inl 4) else (grants_Owns p0 p1 p2.Table).bind (fun r67 => (bif (!r67) then some (.inl 36) else (bif (p2.Kind == 6) then (access_parents p0 p1 p2).bind (fun r77 => some (.inl r77)) else some (.inr ())))))) else (bif ((decide (p2.Kind ≥ 16)) && (decide (p2.Kind ≤ 19))) then (access_rows p0 p1 p2).bind (fun r93 => some (.inl r93)) else some (.inr ())))).bind (fun (t : Int ⊕ Unit) => match t with | (.inl s54) => some s54 | (.inr ()) => some 0))))
theorem access_Allowed_ok {p0 : qC} {p1 : By8} {p2 : qS} {w_p0 : W_qC} {w_p2 : W_qS} (h_p0 : ok_qC I p0 w_p0) (h_p2 : ok_qS I p2 w_p2) (hS : St E w I Os) {r : Int} (D : access_Allowed p0 p1 p2 = some r) :
    Calls P 9 #[(vC p0 w_p0), (.string p1), (vS p2 w_p2)] w (RT E I Os (Iv r)) := by
 refine calls_W (fn := Tryz.f9) rfl rfl rfl ?_
 unfold access_Allowed at D
 refine ye nL3 (yaa hS (cs_qC p0 w_p0) 44 z fun b1 w4 S3 => yaa S3 (cs_qS p2 w_p2) 36 z fun b5 w8 S7 => ya 2 1 z (yb (yi (ye nL10 (yh 0 1 [2] z (yj (S7.rf m1) z (ya 2 1 z ?_)))))))
 obtain ⟨⟨r14, r15⟩, Xr9, D⟩ := bsm D
 refine yaj (member_Find_ok h_p0.Roles S7 Xr9) ?_
 rintro _ w10 ⟨I11, w_r14, rfl, L12, S13, h_r14⟩
 refine cv (ya 4 3 z (yaa S13 (cs_qJ z_qJ zw_qJ) 73 z fun b16 w19 S18 => yad S18 0 (cs_qJ r14 w_r14) fun w21 S20 => ya 9 1 z (y8 nL2 (ya 0 2 z (yb (y3 D (fun G D => ?_) (fun G D => ?_)))))))
 exact ye [0] (ya 0 1 z (yb (yq (yf (sj D ▸ yy ⟨I11, rfl, L12, S20.d3⟩)))))
 refine yl (yc (yi (yo (ye nL4 (yh 0 1 [0] z (yj (S20.rf m1) z (ya 2 2 z (yb (y3 D (fun G D => ?_) (fun G D => ?_))))))))))
 exact ye nL5 (y4 ((cs_qC p0 w_p0)) (S20.rf m2) z (ya 1 1 z (y4 ((cs_qS p2 w_p2)) (S20.rf m1) z (bsk D fun r30 Xr25 D => WO.c1 (access_parents_ok (h_p0.mono L12) (h_p2.mono L12) S20 Xr25) z fun I27 w26 L28 S29 => ya 4 1 z (yb (yq (yn (yf (sj D ▸ yy ⟨I27, rfl, le, S29.d3⟩)))))))))
 refine ye nL9 (yh 0 1 [0] z (yj (S20.rf m1) z (ya 2 2 z (yaz [4, 5, 6] 7 32 36 (.refl ((decide (p2.Kind ≥ 2)) && (decide (p2.Kind ≤ 9)))) (fun _ => yh 4 1 [0] z (yj (S20.rf m1) z (ya 6 2 z yal))) (ya 8 1 z (yb (bsk D fun j36 R1 D => ya0 (J := (fun fr w => ∃ I38, (.inr ()) = j36 ∧ fr = [] ∧ I11.Le I38 ∧ St E w I38 Os)) ?_ ?_)))))))
 refine y3 R1 (fun G R1 => ?_) (fun G R1 => ?_)
 refine yi (ye nL10 (y4 ((cs_qC p0 w_p0)) (S20.rf m2) z (yh 1 1 [1] z (yj (S20.rf m1) z ?_))))
 obtain ⟨⟨r45, r46⟩, Xr40, R1⟩ := bsm R1
 refine yaj (catalog_Find_ok (h_p0.mono L12) S20 Xr40) ?_
 rintro _ w41 ⟨I42, w_r45, rfl, L43, S44, h_r45⟩
 refine cv (ya 4 3 z (yaa S44 (cs_qT z_qT zw_qT) 52 z fun b47 w50 S49 => yad S49 0 (cs_qT r45 w_r45) fun w52 S51 => ya 9 1 z (y8 nL2 (ya 0 2 z (yb (y3 R1 (fun G R1 => ?_) (fun G R1 => ?_)))))))
 refine ye [0] (ya 0 1 z (yb (yq (yf (yv ?_)))))
 obtain rfl := sj R1
 exact yn (yf (sj D ▸ yy ⟨I42, rfl, le, S51.d4⟩))
 refine yl (yc (yi (ye nL6 (y4 ((cs_qC p0 w_p0)) (S51.rf m3) z (yh 1 2 [1] z (yj (S51.rf m2) z (bsk R1 fun r67 Xr62 R1 => WO.c1 (grants_Owns_ok (h_p0.mono le) S51 Xr62) z fun I64 w63 L65 S66 => ya 5 1 z (yb (y3 R1 (fun G R1 => ?_) (fun G R1 => ?_))))))))))
 refine ye [0] (ya 0 1 z (yb (yq (yf (yv ?_)))))
 obtain rfl := sj R1
 exact yn (yf (sj D ▸ yy ⟨I64, rfl, le, S66.d4⟩))
 refine yl (yc (ye nL3 (yh 0 1 [0] z (yj (S66.rf m2) z (ya 2 1 z (yb (y3 R1 (fun G R1 => ?_) (fun G R1 => ?_))))))))
 refine ye nL5 (y4 ((cs_qC p0 w_p0)) (S66.rf m3) z (ya 1 1 z (y4 ((cs_qS p2 w_p2)) (S66.rf m2) z (bsk R1 fun r77 Xr72 R1 => WO.c1 (access_parents_ok (h_p0.mono le) (h_p2.mono le) S66 Xr72) z fun I74 w73 L75 S76 => ya 4 1 z (yb (yq (yv ?_)))))))
 obtain rfl := sj R1
 exact yn (yf (sj D ▸ yy ⟨I74, rfl, le, S76.d4⟩))
 exact yl (yx ⟨I64, sj R1, rfl, le, S66.d4⟩)
 refine ye nL9 (yh 0 1 [0] z (yj (S20.rf m1) z (ya 2 2 z (yaz [4, 5, 6] 7 63 67 (.refl ((decide (p2.Kind ≥ 16)) && (decide (p2.Kind ≤ 19)))) (fun _ => yh 4 1 [0] z (yj (S20.rf m1) z (ya 6 2 z yal))) (ya 8 1 z (yb (y3 R1 (fun G R1 => ?_) (fun G R1 => ?_))))))))
 refine ye nL5 (y4 ((cs_qC p0 w_p0)) (S20.rf m2) z (ya 1 1 z (y4 ((cs_qS p2 w_p2)) (S20.rf m1) z (bsk R1 fun r93 Xr88 R1 => WO.c1 (access_rows_ok (h_p0.mono L12) (h_p2.mono L12) S20 Xr88) z fun I90 w89 L91 S92 => ya 4 1 z (yb (yq (yv ?_)))))))
 obtain rfl := sj R1
 exact yn (yf (sj D ▸ yy ⟨I90, rfl, le, S92.d3⟩))
 exact yl (yx ⟨I11, sj R1, rfl, lr, S20.d3⟩)
 rintro _ w100 ⟨I38, rfl, rfl, L39, S101⟩
 exact ym (yc (ye [0] (ya 0 1 z (yb (yq (sj D ▸ yy ⟨I38, rfl, le, S101⟩))))))
noncomputable def law20_AccessDenies (p0 : List law19_Act) (p1 : By8) (p2 : qS) : Option Bool := (law19_Few p0).bind (fun r10 => ((bif (!r10) then some true else (r12_Few p2).bind (fun r20 => some (!r20)))).bind (fun (j11 : Bool) => (bif (j11 || (decide ((p1.size : Int) > 100))) then (law20_works).bind (fun r30 => some r30) else (law19_Grown p0).bind (fun r37 => (forE (fun (i56 : Nat) (s55 : List qT) => (idx r37.Tables (i56 : Int)).bind (fun x68 => (app 112 s55 ([{ z_qT with Name := x68.Name, Owner := x68.Owner, Cols := ([{ z_qL with Name := (⟨#[122]⟩ : By8), Type_ := 2 }] : List qL) }] : List qT)).bind (fun x95 => some x95))) r37.Tables.length 0 ([] : List qT)).bind (fun s55 => (access_Allowed r37 p1 p2).bind (fun r122 => (access_Allowed ({ r37 with Tables := s55 }) p1 p2).bind (fun r134 => ((bif (r122 == r134) then (law20_works).bind (fun r144 => some r144) else some false)).bind (fun (j135 : Bool) => some j135))))))))
theorem law20_AccessDenies_ok {p0 : List law19_Act} {p1 : By8} {p2 : qS} {a_p0 : Option Addr} {c_p0 : Nat} {w_p2 : W_qS} (h_p0 : RSl 22 R_law19_Act I a_p0 c_p0 p0) (h_p2 : ok_qS I p2 w_p2) (hS : St E w I Os) {r : Bool} (D : law20_AccessDenies p0 p1 p2 = some r) :
    Calls P 4 #[(Sl a_p0 p0 c_p0), (.string p1), (vS p2 w_p2)] w (RT E I Os (.bool r)) := by
 refine calls_W (fn := Tryz.f4) rfl rfl rfl ?_
 unfold law20_AccessDenies at D
 refine ye nL2 (yaa hS (cs_qS p2 w_p2) 36 z fun b1 w4 S3 => ya 1 1 z (yb (yi (ye nL13 (ya 0 1 z (bsk D fun r10 Xr5 D => WO.c1 (law19_Few_ok h_p0 S3 Xr5) z fun I7 w6 L8 S9 => ya 2 2 z (bsk D fun j11 R1 D => yao (l1 := [4, 5, 6, 7]) (J := JI E I7 [(0, Sl a_p0 p0 c_p0), (1, .string p1), (5, Pt b1 0), (18, .bool j11)] (bS b1 p2 w_p2 :: Os)) ?_ ?_)))))))
 refine yan R1 (fun G R1 => ?_) (fun G R1 => ?_)
 refine y7 14 G ?_
 iterate 3 refine yam ?_
 exact ya 7 1 z (sj R1 ▸ y6 ⟨I7, rfl, lr, S9⟩)
 exact y7 14 G (y4 ((cs_qS p2 w_p2)) (S9.rf m0) z (bsk R1 fun r20 Xr15 R1 => WO.c1 (r12_Few_ok (h_p2.mono L8) S9 Xr15) z fun I17 w16 L18 S19 => ya 6 2 z (sj R1 ▸ y6 ⟨I17, rfl, L18, S19⟩)))
 rintro _ w21 ⟨I13, rfl, L14, S22⟩
 refine ya 8 1 z (ya7 [9, 10, 11] 12 19 23 (.refl (j11 || (decide ((p1.size : Int) > 100)))) (fun _ => ya 9 4 z yal) (yb (y3 D (fun G D => ?_) (fun G D => ?_))))
 exact ye nL2 (bsk D fun r30 Xr25 D => WO.c1 (law20_works_ok  S22 Xr25) z fun I27 w26 L28 S29 => ya 1 1 z (yb (yq (yf (sj D ▸ yy ⟨I27, rfl, le, S29.drop⟩)))))
 refine yl (yc (ye nL4 (ya 0 1 z (bsk D fun r37 Xr32 D => yaj (law19_Grown_ok (up h_p0) S22 Xr32) ?_))))
 rintro _ w33 ⟨I34, w_r37, rfl, L35, S36, h_r37⟩
 refine cv (yaa S36 (cs_qC z_qC zw_qC) 44 z fun b38 w41 S40 => yad S40 0 (cs_qC r37 w_r37) fun w43 S42 => y8 nL3 (y4 ((cs_qC r37 w_r37)) (S42.rf m0) z (yaa S42 (cs_qC z_qC zw_qC) 44 z fun b44 w47 S46 => yad S46 0 (cs_qC r37 w_r37) fun w49 S48 => y8 nL2 (yh 0 1 [1] z (yad S48 1 (cs_qC ({ r37 with Tables := ([] : List qT) }) ({ w_r37 with Tables := ⟨none, 0⟩ })) fun w51 S50 => yb (yi (ye [0] (ya 0 1 z (yb (yo (bsk D fun s55 hloop57 D => have hlt66 := (h_r37.Tables).len_lt; W.wk (ya1 (m := r37.Tables.length) hloop57 (fun (i56 : Nat) (s55 : List qT) fr w => ∃ I53 a_s55 c_s55 C_s55, fr = [(1, .string p1), (5, Pt b1 0), (7, Pt b38 0), (8, Pt b44 0), (9, Nv i56)] ∧ I34.Le I53 ∧ St E w I53 (bS b1 p2 w_p2 :: (bC b38 r37 w_r37) :: (Bx b44 (cs_qC ({ r37 with Tables := s55 }) ({ w_r37 with Tables := ⟨a_s55, c_s55⟩ })) 44) :: (C_s55) :: Os) ∧ OwnSl 52 6 R_qT I53 C_s55 a_s55 c_s55 s55) ⟨I34, none, 0, Mem.no, rfl, lr, S50.no.front1.front2.front3, OwnSl.nil⟩ ?_ ?_))))))))))))
 rintro i56 s55 _ w63 hi67 ⟨I53, a_s55, c_s55, C_s55, rfl, L54, S64, h_s55⟩ x65 R1
 refine yi (ye nL5 (yh 0 2 [1] z (yj (S64.rf m1) z (ya 3 2 z (yb (yax fun _ => yl (yc (yi (yo (ye nL7 (yh 0 1 [1] z (yj (S64.rf m1) z (ya 2 1 z ?_)))))))))))))
 obtain ⟨x68, R1, Hx68, _, ⟨w_x68, rfl, h_x68⟩, Zx68⟩ := sx I53 h_r37.Tables R1
 refine yac 52 6 Hx68 z (yat ((cs_qT x68 w_x68)) Zx68 0 S64.rm z (yaa S64 (cs_qT z_qT zw_qT) 52 z fun b69 w72 S71 => yad S71 0 (cs_qT x68 w_x68) fun w74 S73 => yb (yai nL13 (yh 0 1 [1] z (yj (S73.rf m3) z (yh 2 1 [0] z (yj (S73.rf m0) z (yh 4 1 [1] z (yj (S73.rf m0) z (yaf 6 47 (.agg (cs_qL ({ z_qL with Name := (⟨#[122]⟩ : By8), Type_ := 2 })).toArray) (yag (rel := R_qL) (xs := ([{ z_qL with Name := (⟨#[122]⟩ : By8), Type_ := 2 }] : List qL)) S73 z kr z 54 3 [(cs_qL ({ z_qL with Name := (⟨#[122]⟩ : By8), Type_ := 2 }))] kr z ((Elr.cons z Elr.nil)) tv ?_)))))))))))
 intro a78 C76 w80 S79 ho77
 obtain ⟨I82, L83, S85, hp84⟩ := yah ho77 S79
 refine yaf 8 49 (.agg #[(.string x68.Name), (.string x68.Owner), (Iv 0), (.slice a78 1 1), (.slice none 0 0), (.slice none 0 0)]) ?_
 have hk93 : ok_qT I82 ({ z_qT with Name := x68.Name, Owner := x68.Owner, Cols := ([{ z_qL with Name := (⟨#[122]⟩ : By8), Type_ := 2 }] : List qL) }) ({ zw_qT with Cols := ⟨a78, 1⟩ }) := ⟨hp84, SlAt.nil, SlAt.nil⟩
 refine yag (rel := R_qT) (xs := ([{ z_qT with Name := x68.Name, Owner := x68.Owner, Cols := ([{ z_qL with Name := (⟨#[122]⟩ : By8), Type_ := 2 }] : List qL) }] : List qT)) S85 z kr z 52 6 [[(.string x68.Name), (.string x68.Owner), (Iv 0), (.slice a78 1 1), (.slice none 0 0), (.slice none 0 0)]] kr z ((Elr.cons ⟨({ zw_qT with Cols := ⟨a78, 1⟩ }), rfl, hk93⟩ Elr.nil)) tv ?_
 intro a89 C87 w91 S90 ho88
 have S94 := S90.front5
 exact apk R1 fun x95 h0_x95 he_x95 R1 => ya2 52 112 (cs_qT z_qT zw_qT) S94 (OwnSl.mono h_s55 L83) ho88.sl (S94.rd m1) h0_x95 he_x95 z fun a96 c97 w98 C99 S100 ho101 => yh 11 1 [1] z (yad S100.front1.drop.front4 1 (cs_qC ({ r37 with Tables := x95 }) ({ w_r37 with Tables := ⟨a96, c97⟩ })) fun w106 S105 => yr (ym (yc (yai nL3 (ya 0 1 z (yap i56 z (ya 2 1 z (yr (sj R1 ▸ yx ⟨I82, a96, c97, C99, rfl, le, S105.front2.drop.front1.front1.front3.front3, ho101⟩)))))))))
 rintro _ w113 ⟨I53, a_s55, c_s55, C_s55, rfl, L54, S114, h_s55⟩
 refine yi (ye nL5 (yh 0 2 [1] z (yj (S114.rf m1) z (ya 3 2 z (yb (yay fun _ => yab (yp (yt (yu (yc (yi (have S115 := S114.drew; ybc nL13 7 (yw (S115.rd m0) (yw (S115.rd m1) (yw (S115.rd m2) (yae S115.im)))) ?_))))))))))))
 generalize World.drew _ = w116 at *
 refine y4 ((cs_qC r37 w_r37)) (rd_c m1 (S115.rd m1)) z (ya 1 1 z (y4 ((cs_qS p2 w_p2)) (rd_c m0 (S115.rd m0)) z (bsk D fun r122 Xr117 D => yaj (access_Allowed_ok (h_r37.mono L54) (h_p2.mono le) S115 Xr117) ?_)))
 rintro _ w118 ⟨I119, rfl, L120, S121⟩
 refine ⟨_, rfl, (yw (S121.rd m0) (yw (S121.rd m1) (yw (S121.rd m2) (yae (S121.im.of_le L120))))), ?_⟩
 refine y4 ((cs_qC ({ r37 with Tables := s55 }) ({ w_r37 with Tables := ⟨a_s55, c_s55⟩ }))) (rd_c m2 (S121.rd m2)) z (ya 5 1 z (y4 ((cs_qS p2 w_p2)) (rd_c m0 (S121.rd m0)) z (WO.tail z ?_)))
 obtain ⟨I124, L125, S127, hp126⟩ := yah (h_s55.mono L120) S121.front3
 have hk128 : ok_qC I124 ({ r37 with Tables := s55 }) ({ w_r37 with Tables := ⟨a_s55, c_s55⟩ }) := ⟨hp126, (RSl.mono h_r37.Roles ((L54.trans L120).trans L125)), (RSl.mono h_r37.Grants ((L54.trans L120).trans L125))⟩
 refine bsk D fun r134 Xr129 D => WO.c1 (access_Allowed_ok hk128 (h_p2.mono le) S127 Xr129) z fun I131 w130 L132 S133 => ya 8 2 z (bsk D fun j135 R1 D => yao (l1 := [10, 11]) (J := JI E I131 [(64, .bool j135)] (bS b1 p2 w_p2 :: (bC b38 r37 w_r37) :: (Bx b44 (cs_qC ({ r37 with Tables := s55 }) ({ w_r37 with Tables := ⟨a_s55, c_s55⟩ })) 44) :: Os)) ?_ ?_)
 refine yan R1 (fun G R1 => ?_) (fun G R1 => ?_)
 exact y7 62 G (bsk R1 fun r144 Xr139 R1 => WO.c1 (law20_works_ok  S133 Xr139) z fun I141 w140 L142 S143 => ya 11 1 z (sj R1 ▸ y6 ⟨I141, rfl, L142, S143⟩))
 refine y7 62 G (yam ?_)
 exact ya 11 1 z (sj R1 ▸ y6 ⟨I131, rfl, lr, S133⟩)
 rintro _ w145 ⟨I137, rfl, L138, S146⟩
 exact ya 12 1 z (yb (yq (sj D ▸ yy ⟨I137, rfl, le, S146.d3⟩)))
noncomputable def r19_May (p0 : qC) (p1 : By8) (p2 : Int) (p3 : By8) : Option Bool := (r19_Owns p0 p1 p3).bind (fun r12 => ((bif r12 then some true else (r19_Held p0).bind (fun r22 => (r19_has p0 r22 p1 p2 p3 false).bind (fun r28 => some r28)))).bind (fun (j13 : Bool) => some j13))
theorem r19_May_ok {p0 : qC} {p1 : By8} {p2 : Int} {p3 : By8} {w_p0 : W_qC} (h_p0 : ok_qC I p0 w_p0) (hS : St E w I Os) {r : Bool} (D : r19_May p0 p1 p2 p3 = some r) :
    Calls P 27 #[(vC p0 w_p0), (.string p1), (Iv p2), (.string p3)] w (RT E I Os (.bool r)) := by
 refine calls_W (fn := Tryz.f27) rfl rfl rfl ?_
 unfold r19_May at D
 refine ye nL2 (yaa hS (cs_qC p0 w_p0) 44 z fun b1 w4 S3 => ya 1 1 z (yb (yi (have S5 := S3.drew; ybc nL14 13 (yw (S5.rd m0) (yae S5.im)) ?_))))
 generalize World.drew _ = w6 at *
 refine y4 ((cs_qC p0 w_p0)) (rd_c m0 (S5.rd m0)) z (ya 1 2 z (bsk D fun r12 Xr7 D => yaj (r19_Owns_ok h_p0 S5 Xr7) ?_))
 rintro _ w8 ⟨I9, rfl, L10, S11⟩
 refine ⟨_, rfl, (yw (S11.rd m0) (yae (S11.im.of_le L10))), ?_⟩
 refine ya 4 1 z (bsk D fun j13 R1 D => yao (l1 := [5, 6, 7, 8, 9, 10, 11, 12]) (J := JI E I9 [(21, .bool j13)] (bC b1 p0 w_p0 :: Os)) ?_ ?_)
 refine yan R1 (fun G R1 => ?_) (fun G R1 => ?_)
 refine y7 13 G ?_
 iterate 7 refine yam ?_
 exact ya 12 1 z (sj R1 ▸ y6 ⟨I9, rfl, lr, S11⟩)
 refine y7 13 G (y4 ((cs_qC p0 w_p0)) (rd_c m0 (S11.rd m0)) z (y4 ((cs_qC p0 w_p0)) (rd_c m0 (S11.rd m0)) z (bsk R1 fun r22 Xr17 R1 => yaj (r19_Held_ok (h_p0.mono L10) S11 Xr17) ?_)))
 rintro _ w18 ⟨I19, a_r22, c_r22, rfl, L20, S21, h_r22⟩
 refine ⟨_, rfl, (yw (S21.rd m0) (yae (S21.im.of_le le))), ?_⟩
 refine ya 8 3 z (bsk R1 fun r28 Xr23 R1 => yaj (r19_has_ok (h_p0.mono le) h_r22 S21 Xr23) ?_)
 rintro _ w24 ⟨I25, rfl, L26, S27⟩
 refine ⟨_, rfl, (yw (S27.rd m0) (yae (S27.im.of_le le))), ?_⟩
 exact ya 12 1 z (sj R1 ▸ y6 ⟨I25, rfl, le, S27⟩)
 rintro _ w29 ⟨I15, rfl, L16, S30⟩
 exact WO.tail z (ya 13 1 z (yb (yq (sj D ▸ yy ⟨I15, rfl, le, S30.drop⟩))))
noncomputable def r20_parents (p0 : qC) (p1 : By8) (p2 : qS) : Option Int := (forN (fun (i12 : Nat) (_s : Unit) => ((idx p2.Cons (i12 : Int)).bind (fun x24 => (bif ((x24.Kind != 3) || (sEq x24.Table p2.Table)) then some (.inl ()) else (r17_At p0 x24.Table).bind (fun r39 => (bif (decide (r39 < 0)) then some (.inr 4) else (r19_May p0 p1 1 x24.Table).bind (fun r56 => (bif (!r56) then some (.inr 36) else some (.inl ())))))))).bind (fun (t : Unit ⊕ Int) => match t with | (.inl ()) => some (.inl ()) | (.inr s41) => some (.inr s41))) p2.Cons.length 0 ()).bind (fun (t : Unit ⊕ (Int)) => match t with | .inl _ => some 0 | .inr s43 => some s43)
theorem r20_parents_ok {p0 : qC} {p1 : By8} {p2 : qS} {w_p0 : W_qC} {w_p2 : W_qS} (h_p0 : ok_qC I p0 w_p0) (h_p2 : ok_qS I p2 w_p2) (hS : St E w I Os) {r : Int} (D : r20_parents p0 p1 p2 = some r) :
    Calls P 24 #[(vC p0 w_p0), (.string p1), (vS p2 w_p2)] w (RT E I Os (Iv r)) := by
 refine calls_W (fn := Tryz.f24) rfl rfl rfl ?_
 unfold r20_parents at D
 refine ye nL3 (yaa hS (cs_qC p0 w_p0) 44 z fun b1 w4 S3 => yaa S3 (cs_qS p2 w_p2) 36 z fun b5 w8 S7 => ya 2 1 z (yb (yi (ye [0] (ya 0 1 z (yb (yo (bsk D fun t9 hloop13 D => have hlt18 := (h_p2.Cons).len_lt; W.wk (yau (m := p2.Cons.length) hloop13 (fun (i12 : Nat) (_s : Unit) => JI E I [(1, .string p1), (3, Pt b1 0), (5, Pt b5 0), (7, Nv i12)] (bC b1 p0 w_p0 :: (bS b5 p2 w_p2) :: Os)) ⟨I, rfl, lr, S7.front1⟩ ?_ ?_)))))))))
 rintro i12 _ _ w15 hi19 ⟨I10, rfl, L11, S16⟩ x17 R1 hext9
 refine yi (ye nL5 (yh 0 2 [5] z (yj (S16.rf m1) z (ya 3 2 z (yb (yax fun _ => yl (yc (yi (bsk R1 fun j20 R2 R1 => ya0 (J := (fun fr w => ∃ I22, (.inl ()) = j20 ∧ fr = [(1, .string p1), (3, Pt b1 0), (5, Pt b5 0), (7, Nv i12)] ∧ I10.Le I22 ∧ St E w I22 (bC b1 p0 w_p0 :: (bS b5 p2 w_p2) :: Os))) ?_ ?_)))))))))
 refine yo (ye nL7 (yh 0 1 [5] z (yj (S16.rf m1) z (ya 2 1 z ?_))))
 obtain ⟨x24, R2, Hx24, _, ⟨w_x24, rfl, h_x24⟩, Zx24⟩ := sx I10 h_p2.Cons R2
 refine yac 59 12 Hx24 z (yat ((cs_qK x24 w_x24)) Zx24 0 S16.rm z (yaa S16 (cs_qK z_qK zw_qK) 59 z fun b25 w28 S27 => yad S27 0 (cs_qK x24 w_x24) fun w30 S29 => yb (yi (ye nL10 (yh 0 1 [1] z (yj (S29.rf m0) z (ya 2 2 z (ya7 [4, 5, 6, 7, 8] 9 24 30 (.refl ((x24.Kind != 3) || (sEq x24.Table p2.Table))) (fun _ => yh 4 1 [10] z (yj (S29.rf m0) z (yh 6 1 [1] z (yj (S29.rf m2) z (ya 8 2 z yal))))) (yb (y3 R2 (fun G R2 => ?_) (fun G R2 => ?_)))))))))))
 exact yab (yp (yu (yx ⟨I10, sj R2, rfl, lr, S29.drop⟩)))
 refine yl (yc (yi (ye nL5 (y4 ((cs_qC p0 w_p0)) (S29.rf m1) z (yh 1 1 [10] z (yj (S29.rf m0) z (bsk R2 fun r39 Xr34 R2 => WO.c1 (r17_At_ok (h_p0.mono L11) S29 Xr34) z fun I36 w35 L37 S38 => ya 4 1 z (yb (y3 R2 (fun G R2 => ?_) (fun G R2 => ?_))))))))))
 refine ye [0] (ya 0 1 z (yb (yq (yf (yn (yv ?_))))))
 obtain rfl := sj R2
 refine yf (yv ?_)
 obtain rfl := hext9 _ (sj R1).symm
 exact yn (yf (sj D ▸ yy ⟨I36, rfl, le, S38.d3⟩))
 refine yl (yc (ye nL6 (y4 ((cs_qC p0 w_p0)) (S38.rf m1) z (yh 1 2 [10] z (yj (S38.rf m0) z (bsk R2 fun r56 Xr51 R2 => WO.c1 (r19_May_ok (h_p0.mono le) S38 Xr51) z fun I53 w52 L54 S55 => ya 5 1 z (yb (y3 R2 (fun G R2 => ?_) (fun G R2 => ?_)))))))))
 refine ye [0] (ya 0 1 z (yb (yq (yn (yv ?_)))))
 obtain rfl := sj R2
 refine yf (yv ?_)
 obtain rfl := hext9 _ (sj R1).symm
 exact yn (yf (sj D ▸ yy ⟨I53, rfl, le, S55.d3⟩))
 exact yl (ym (yx ⟨I53, sj R2, rfl, le, S55.drop⟩))
 rintro _ w61 ⟨I22, rfl, rfl, L23, S62⟩
 exact yc (yai nL3 (ya 0 1 z (yap i12 z (ya 2 1 z (yr (yx ⟨(), (sj R1).symm, I22, rfl, le, S62⟩))))))
 rintro _ _ w63 ⟨I10, rfl, L11, S64⟩ he
 cases he
 exact yi (ye nL5 (yh 0 2 [5] z (yj (S64.rf m1) z (ya 3 2 z (yb (yay fun _ => yab (yp (yt (yu (yc (ye [0] (ya 0 1 z (yb (yq (sj D ▸ yy ⟨I10, rfl, L11, S64.d2⟩)))))))))))))))
noncomputable def r20_names (p0 : qE) : Option Bool := (r10_Names p0).bind (fun r10 => some (decide ((r10.length : Int) > 0)))
theorem r20_names_ok {p0 : qE} {w_p0 : W_qE} (h_p0 : ok_qE I p0 w_p0) (hS : St E w I Os) {r : Bool} (D : r20_names p0 = some r) :
    Calls P 36 #[(vE p0 w_p0)] w (RT E I Os (.bool r)) := by
 refine calls_W (fn := Tryz.f36) rfl rfl rfl ?_
 unfold r20_names at D
 refine ye nL2 (yaa hS (cs_qE p0 w_p0) 31 z fun b1 w4 S3 => ya 1 1 z (y8 nL5 (y4 ((cs_qE p0 w_p0)) (S3.rf m0) z (bsk D fun r10 Xr5 D => yaj (r10_Names_ok h_p0 S3 Xr5) ?_))))
 rintro _ w6 ⟨I7, a_r10, c_r10, rfl, L8, S9, h_r10⟩
 exact cv (ya 2 3 z (yb (yq (sj D ▸ yy ⟨I7, rfl, L8, S9.drop⟩))))
noncomputable def r20_Reads (p0 : qS) : Option Bool := (r20_names p0.Where).bind (fun r10 => (forE (fun (i15 : Nat) (s14 : Bool) => ((bif s14 then some true else (idx p0.Sets (i15 : Int)).bind (fun x26 => (r20_names x26.E).bind (fun r32 => some r32)))).bind (fun (j22 : Bool) => some j22)) p0.Sets.length 0 r10).bind (fun s14 => (forE (fun (i41 : Nat) (s40 : Bool) => ((bif s40 then some true else (idx p0.Order (i41 : Int)).bind (fun x52 => (r20_names x52.E).bind (fun r58 => some r58)))).bind (fun (j48 : Bool) => some j48)) p0.Order.length 0 s14).bind (fun s40 => (loopO (fun (s : Bool × Int) => match s with | (s66, s67) => (some (((decide (s67 < (p0.Rows.length : Int))) && (p0.Kind != 16)) && (p0.Kind != 21))).bind (fun (q74 : Bool) => (bif q74 then (loopO (fun (s : Bool × Int) => match s with | (s80, s81) => (idx p0.Rows s67).bind (fun x86 => (bif (decide (s81 < (x86.length : Int))) then ((bif s80 then some true else (idx p0.Rows s67).bind (fun x91 => (idx x91 s81).bind (fun x92 => (r20_names x92).bind (fun r98 => some r98))))).bind (fun (j87 : Bool) => some (.inl (j87, (w64 (s81 + 1))))) else some (.inr s80)))) (s66, 0)).bind (fun (s102 : Bool) => some (.inl (s102, (w64 (s67 + 1))))) else some (.inr s66)))) (s40, 0)).bind (fun (s104 : Bool) => some s104))))
theorem r20_Reads_ok {p0 : qS} {w_p0 : W_qS} (h_p0 : ok_qS I p0 w_p0) (hS : St E w I Os) {r : Bool} (D : r20_Reads p0 = some r) :
    Calls P 12 #[(vS p0 w_p0)] w (RT E I Os (.bool r)) := by
 refine calls_W (fn := Tryz.f12) rfl rfl rfl ?_
 unfold r20_Reads at D
 refine ye nL2 (yaa hS (cs_qS p0 w_p0) 36 z fun b1 w4 S3 => ya 1 1 z (y8 nL4 (yh 0 1 [8] z (y4 ((cs_qE p0.Where w_p0.Where)) (S3.rf m0) z (bsk D fun r10 Xr5 D => WO.c1 (r20_names_ok h_p0.Where S3 Xr5) z fun I7 w6 L8 S9 => ya 3 1 z (yb (yi (ye [0] (ya 0 1 z (yb (yo (bsk D fun s14 hloop16 D => have hlt20 := ((RSl.mono h_p0.Sets L8)).len_lt; W.wk (ya1 (m := p0.Sets.length) hloop16 (fun (i15 : Nat) (s14 : Bool) => JI E I7 [(1, Pt b1 0), (3, .bool s14), (4, Nv i15)] (bS b1 p0 w_p0 :: Os)) ⟨I7, rfl, lr, S9⟩ ?_ ?_)))))))))))))
 rintro i15 s14 _ w17 hi21 ⟨I12, rfl, L13, S18⟩ x19 R1
 refine yi (ye nL5 (yh 0 2 [15] z (yj (S18.rf m0) z (ya 3 2 z (yb (yax fun _ => yl (yc (yi (yo (yai nL11 (ya 0 2 z (bsk R1 fun j22 R2 R1 => yao (l1 := [2, 3, 4, 5, 6, 7, 8, 9]) (J := JI E I12 [(1, Pt b1 0), (4, Nv i15), (27, .bool j22)] (bS b1 p0 w_p0 :: Os)) ?_ ?_))))))))))))
 refine yan R2 (fun G R2 => ?_) (fun G R2 => ?_)
 refine y7 19 G ?_
 iterate 7 refine yam ?_
 exact ya 9 1 z (sj R2 ▸ y6 ⟨I12, rfl, lr, S18⟩)
 refine y7 19 G (yh 2 1 [15] z (yj (S18.rf m0) z (ya 4 1 z ?_)))
 obtain ⟨x26, R2, Hx26, _, ⟨w_x26, rfl, h_x26⟩, Zx26⟩ := sx I12 h_p0.Sets R2
 exact yac 61 8 Hx26 z (yh 6 1 [1] z (yat ((cs_qE x26.E w_x26.E)) Zx26 1 S18.rm z (bsk R2 fun r32 Xr27 R2 => WO.c1 (r20_names_ok h_x26.E S18 Xr27) z fun I29 w28 L30 S31 => ya 9 1 z (sj R2 ▸ y6 ⟨I29, rfl, L30, S31⟩))))
 rintro _ w33 ⟨I24, rfl, L25, S34⟩
 exact ya 10 1 z (yr (ym (yc (yai nL3 (ya 0 1 z (yap i15 z (ya 2 1 z (yr (sj R1 ▸ yx ⟨I24, rfl, le, S34⟩)))))))))
 rintro _ w35 ⟨I12, rfl, L13, S36⟩
 refine yi (ye nL5 (yh 0 2 [15] z (yj (S36.rf m0) z (ya 3 2 z (yb (yay fun _ => yab (yp (yt (yu (yc (yi (ye [0] (ya 0 1 z (yb (yo (bsk D fun s40 hloop42 D => have hlt46 := ((RSl.mono h_p0.Order (L8.trans L13))).len_lt; W.wk (ya1 (m := p0.Order.length) hloop42 (fun (i41 : Nat) (s40 : Bool) => JI E I12 [(1, Pt b1 0), (3, .bool s40), (5, Nv i41)] (bS b1 p0 w_p0 :: Os)) ⟨I12, rfl, lr, S36⟩ ?_ ?_)))))))))))))))))
 rintro i41 s40 _ w43 hi47 ⟨I38, rfl, L39, S44⟩ x45 R1
 refine yi (ye nL5 (yh 0 2 [16] z (yj (S44.rf m0) z (ya 3 2 z (yb (yax fun _ => yl (yc (yi (yo (yai nL11 (ya 0 2 z (bsk R1 fun j48 R2 R1 => yao (l1 := [2, 3, 4, 5, 6, 7, 8, 9]) (J := JI E I38 [(1, Pt b1 0), (5, Nv i41), (44, .bool j48)] (bS b1 p0 w_p0 :: Os)) ?_ ?_))))))))))))
 refine yan R2 (fun G R2 => ?_) (fun G R2 => ?_)
 refine y7 36 G ?_
 iterate 7 refine yam ?_
 exact ya 9 1 z (sj R2 ▸ y6 ⟨I38, rfl, lr, S44⟩)
 refine y7 36 G (yh 2 1 [16] z (yj (S44.rf m0) z (ya 4 1 z ?_)))
 obtain ⟨x52, R2, Hx52, _, ⟨w_x52, rfl, h_x52⟩, Zx52⟩ := sx I38 h_p0.Order R2
 exact yac 63 8 Hx52 z (yh 6 1 [0] z (yat ((cs_qE x52.E w_x52.E)) Zx52 0 S44.rm z (bsk R2 fun r58 Xr53 R2 => WO.c1 (r20_names_ok h_x52.E S44 Xr53) z fun I55 w54 L56 S57 => ya 9 1 z (sj R2 ▸ y6 ⟨I55, rfl, L56, S57⟩))))
 rintro _ w59 ⟨I50, rfl, L51, S60⟩
 exact ya 10 1 z (yr (ym (yc (yai nL3 (ya 0 1 z (yap i41 z (ya 2 1 z (yr (sj R1 ▸ yx ⟨I50, rfl, le, S60⟩)))))))))
 rintro _ w61 ⟨I38, rfl, L39, S62⟩
 refine yi (ye nL5 (yh 0 2 [16] z (yj (S62.rf m0) z (ya 3 2 z (yb (yay fun _ => yab (yp (yt (yu (yc (yi (ye [0] (ya 0 1 z (yb (yo (bsk D fun t63 hloop68 D => W.wk (ya4 hloop68 (fun (s : Bool × Int) fr w => match s with | (s66, s67) => ∃ I64, fr = [(1, Pt b1 0), (3, .bool s66), (6, Iv s67)] ∧ I38.Le I64 ∧ St E w I64 (bS b1 p0 w_p0 :: Os)) ⟨I38, rfl, lr, S62⟩ ?_)))))))))))))))))
 rintro ⟨s66, s67⟩ _ w69 ⟨I64, rfl, L65, S70⟩ x71 R1 hext63
 refine yi (ye nL15 (yh 0 2 [7] z (yj (S70.rf m0) z (ya 3 3 z (yaz [6, 7, 8] 9 50 54 (.refl ((decide (s67 < (p0.Rows.length : Int))) && (p0.Kind != 16))) (fun _ => yh 6 1 [0] z (yj (S70.rf m0) z (ya 8 2 z yal))) (ya 10 1 z (bsq R1 fun q74 Xq74 R1 => yaz [11, 12, 13] 14 55 59 Xq74 (fun _ => yh 11 1 [0] z (yj (S70.rf m0) z (ya 13 2 z yal))) (yb (y3 R1 (fun G R1 => ?_) (fun G R1 => ?_))))))))))
 refine yl (yc (yi (yo (ye [0] (ya 0 1 z (yb (yo (bsk R1 fun t77 hloop82 R1 => W.wk (ya4 hloop82 (fun (s : Bool × Int) fr w => match s with | (s80, s81) => ∃ I78, fr = [(1, Pt b1 0), (3, .bool s80), (6, Iv s67), (7, Iv s81)] ∧ I64.Le I78 ∧ St E w I78 (bS b1 p0 w_p0 :: Os)) ⟨I64, rfl, lr, S70⟩ ?_)))))))))
 rintro ⟨s80, s81⟩ _ w83 ⟨I78, rfl, L79, S84⟩ x85 R2 hext77
 refine yi (ye nL8 (yh 0 2 [7] z (yj (S84.rf m0) z (ya 3 1 z ?_))))
 obtain ⟨x86, Xx86, R2⟩ := bsm R2
 obtain ⟨h0_x86, h1_x86, Xx86⟩ := idx_some Xx86
 obtain ⟨ha_x86, cs_x86, hn_x86, hr_x86, Zx86⟩ := ((RSl.mono h_p0.Rows ((((L8.trans L13).trans L39).trans L65).trans L79))).el _ _ Xx86
 obtain ⟨a_x86, c_x86, rfl, h_x86⟩ := hr_x86
 refine ya5 29 1 ha_x86 h0_x86 h1_x86 ?_
 refine yar Zx86 S84.rm z (ya 6 2 z (yb (y3 R2 (fun G R2 => ?_) (fun G R2 => ?_))))
 refine yl (yc (yi (yo (yai nL13 (ya 0 2 z (bsk R2 fun j87 R3 R2 => yao (l1 := [2, 3, 4, 5, 6, 7, 8, 9, 10, 11]) (J := JI E I78 [(1, Pt b1 0), (6, Iv s67), (7, Iv s81), (83, .bool j87)] (bS b1 p0 w_p0 :: Os)) ?_ ?_))))))
 refine yan R3 (fun G R3 => ?_) (fun G R3 => ?_)
 refine y7 73 G ?_
 iterate 9 refine yam ?_
 exact ya 11 1 z (sj R3 ▸ y6 ⟨I78, rfl, lr, S84⟩)
 refine y7 73 G (yh 2 1 [7] z (yj (S84.rf m0) z (ya 4 1 z ?_)))
 obtain ⟨x91, Xx91, R3⟩ := bsm R3
 obtain ⟨h0_x91, h1_x91, Xx91⟩ := idx_some Xx91
 obtain ⟨ha_x91, cs_x91, hn_x91, hr_x91, Zx91⟩ := ((RSl.mono h_p0.Rows ((((L8.trans L13).trans L39).trans L65).trans L79))).el _ _ Xx91
 obtain ⟨a_x91, c_x91, rfl, h_x91⟩ := hr_x91
 refine ya5 29 1 ha_x91 h0_x91 h1_x91 ?_
 refine yar Zx91 S84.rm z (ya 7 1 z ?_)
 obtain ⟨x92, Xx92, R3⟩ := bsm R3
 obtain ⟨h0_x92, h1_x92, Xx92⟩ := idx_some Xx92
 obtain ⟨ha_x92, cs_x92, hn_x92, hr_x92, Zx92⟩ := (h_x91).el _ _ Xx92
 obtain ⟨w_x92, rfl, h_x92⟩ := Q_qE_iff.1 hr_x92
 refine ya5 31 7 ha_x92 h0_x92 h1_x92 ?_
 exact yat ((cs_qE x92 w_x92)) Zx92 0 S84.rm z (bsk R3 fun r98 Xr93 R3 => WO.c1 (r20_names_ok h_x92 S84 Xr93) z fun I95 w94 L96 S97 => ya 11 1 z (sj R3 ▸ y6 ⟨I95, rfl, L96, S97⟩))
 rintro _ w99 ⟨I89, rfl, L90, S100⟩
 exact ya 12 1 z (yr (ym (yc (yai nL3 (ya 0 3 z (yr (yx ⟨(j87, (w64 (s81 + 1))), (sj R2).symm, I89, rfl, le, S100⟩)))))))
 refine yab (yp (yt ?_))
 obtain rfl := hext77 _ (sj R2).symm
 exact yu (ym (yc (yai nL3 (ya 0 3 z (yr (yx ⟨(s80, (w64 (s67 + 1))), (sj R1).symm, I78, rfl, le, S84⟩))))))
 refine yab (yp (yt ?_))
 obtain rfl := hext63 _ (sj R1).symm
 exact yu (yc (ye nL2 (ya 0 2 z (yb (yq (sj D ▸ yy ⟨I64, rfl, le, S70.drop⟩))))))
noncomputable def r20_Allowed (p0 : qC) (p1 : By8) (p2 : qS) : Option Int := (r18_At p0.Roles p1).bind (fun r14 => (bif (decide (r14 < 0)) then some 4 else (bif (p2.Kind == 1) then (r20_parents p0 p1 p2).bind (fun r22 => some r22) else (some ((decide (p2.Kind < 2)) || ((decide (p2.Kind > 9)) && (decide (p2.Kind < 16))))).bind (fun (q27 : Bool) => (bif (q27 || (decide (p2.Kind > 19))) then some 0 else (r17_At p0 p2.Table).bind (fun r41 => (bif (decide (r41 < 0)) then some 4 else (bif (decide (p2.Kind ≤ 9)) then (r19_Owns p0 p1 p2.Table).bind (fun r49 => (bif (!r49) then some 36 else (bif (p2.Kind == 6) then (r20_parents p0 p1 p2).bind (fun r57 => some r57) else some 0))) else ((bif (decide (p2.Kind < 19)) then some (w64 (p2.Kind - 14)) else some 1)).bind (fun (j62 : Int) => (r19_May p0 p1 j62 p2.Table).bind (fun r75 => (bif (!r75) then some 36 else ((bif ((p2.Kind == 17) || (p2.Kind == 18)) then (r20_Reads p2).bind (fun r89 => some r89) else some false)).bind (fun (j80 : Bool) => ((bif j80 then (r19_May p0 p1 1 p2.Table).bind (fun r101 => some (!r101)) else some false)).bind (fun (j92 : Bool) => (bif j92 then some 36 else some 0))))))))))))))
theorem r20_Allowed_ok {p0 : qC} {p1 : By8} {p2 : qS} {w_p0 : W_qC} {w_p2 : W_qS} (h_p0 : ok_qC I p0 w_p0) (h_p2 : ok_qS I p2 w_p2) (hS : St E w I Os) {r : Int} (D : r20_Allowed p0 p1 p2 = some r) :
    Calls P 10 #[(vC p0 w_p0), (.string p1), (vS p2 w_p2)] w (RT E I Os (Iv r)) := by
 refine calls_W (fn := Tryz.f10) rfl rfl rfl ?_
 unfold r20_Allowed at D
 refine ye nL3 (yaa hS (cs_qC p0 w_p0) 44 z fun b1 w4 S3 => yaa S3 (cs_qS p2 w_p2) 36 z fun b5 w8 S7 => ya 2 1 z (y8 nL3 (yh 0 1 [0] z (yj (S7.rf m0) z (ya 2 1 z (yb (yi (ye nL5 (yh 0 1 [2] z (yj (S7.rf m1) z (ya 2 1 z (bsk D fun r14 Xr9 D => WO.c1 (r18_At_ok h_p0.Roles S7 Xr9) z fun I11 w10 L12 S13 => ya 4 1 z (yb (y3 D (fun G D => ?_) (fun G D => ?_)))))))))))))))
 exact ye [0] (ya 0 1 z (yb (yq (yf (sj D ▸ yy ⟨I11, rfl, L12, S13.d2⟩)))))
 refine yl (yc (yi (ye nL2 (ya 0 2 z (yb (y3 D (fun G D => ?_) (fun G D => ?_)))))))
 exact ye nL5 (y4 ((cs_qC p0 w_p0)) (S13.rf m1) z (ya 1 1 z (y4 ((cs_qS p2 w_p2)) (S13.rf m0) z (bsk D fun r22 Xr17 D => WO.c1 (r20_parents_ok (h_p0.mono L12) (h_p2.mono L12) S13 Xr17) z fun I19 w18 L20 S21 => ya 4 1 z (yb (yq (yf (sj D ▸ yy ⟨I19, rfl, le, S21.d2⟩))))))))
 refine yl (yc (yi (ye nL14 (ya 0 3 z (bsq D fun q27 Xq27 D => ya7 [3, 4, 5, 6, 7, 8] 9 24 31 Xq27 (fun _ => ya 3 3 z (yaz [6, 7] 8 27 30 (.refl ((decide (p2.Kind > 9)) && (decide (p2.Kind < 16)))) (fun _ => ya 6 3 z yal) (ya 9 1 z yal))) (ya 10 1 z (ya7 [11, 12] 13 32 35 (.refl (q27 || (decide (p2.Kind > 19)))) (fun _ => ya 11 3 z yal) (yb (y3 D (fun G D => ?_) (fun G D => ?_))))))))))
 exact ye [0] (ya 0 1 z (yb (yq (yf (sj D ▸ yy ⟨I11, rfl, L12, S13.d2⟩)))))
 refine yl (yc (yi (ye nL5 (y4 ((cs_qC p0 w_p0)) (S13.rf m1) z (yh 1 1 [1] z (yj (S13.rf m0) z (bsk D fun r41 Xr36 D => WO.c1 (r17_At_ok (h_p0.mono L12) S13 Xr36) z fun I38 w37 L39 S40 => ya 4 1 z (yb (y3 D (fun G D => ?_) (fun G D => ?_))))))))))
 exact ye [0] (ya 0 1 z (yb (yq (yf (sj D ▸ yy ⟨I38, rfl, le, S40.d2⟩)))))
 refine yl (yc (yi (ye nL2 (ya 0 2 z (yb (y3 D (fun G D => ?_) (fun G D => ?_)))))))
 refine yi (ye nL6 (y4 ((cs_qC p0 w_p0)) (S40.rf m1) z (yh 1 2 [1] z (yj (S40.rf m0) z (bsk D fun r49 Xr44 D => WO.c1 (r19_Owns_ok (h_p0.mono le) S40 Xr44) z fun I46 w45 L47 S48 => ya 5 1 z (yb (y3 D (fun G D => ?_) (fun G D => ?_))))))))
 exact ye [0] (ya 0 1 z (yb (yq (yf (yf (sj D ▸ yy ⟨I46, rfl, le, S48.d2⟩))))))
 refine yl (yc (yi (ye nL2 (ya 0 2 z (yb (y3 D (fun G D => ?_) (fun G D => ?_)))))))
 exact ye nL5 (y4 ((cs_qC p0 w_p0)) (S48.rf m1) z (ya 1 1 z (y4 ((cs_qS p2 w_p2)) (S48.rf m0) z (bsk D fun r57 Xr52 D => WO.c1 (r20_parents_ok (h_p0.mono le) (h_p2.mono le) S48 Xr52) z fun I54 w53 L55 S56 => ya 4 1 z (yb (yq (yf (yf (sj D ▸ yy ⟨I54, rfl, le, S56.d2⟩)))))))))
 exact yl (yc (ye [0] (ya 0 1 z (yb (yq (yf (sj D ▸ yy ⟨I46, rfl, le, S48.d2⟩)))))))
 refine yl (yc (ye [0] (ya 0 1 z (yb (yi (ye nL2 (ya 0 2 z (yb (bsk D fun j62 R1 D => ya0 (J := JI E I38 [(1, .string p1), (3, Pt b1 0), (5, Pt b5 0), (7, Iv p2.Kind), (8, Iv j62)] (bC b1 p0 w_p0 :: (bS b5 p2 w_p2) :: Os)) ?_ ?_)))))))))
 refine y3 R1 (fun G R1 => ?_) (fun G R1 => ?_)
 exact yai nL3 (ya 0 3 z (yr (sj R1 ▸ yx ⟨I38, rfl, lr, S40.front1⟩)))
 exact yl (sj R1 ▸ yx ⟨I38, rfl, lr, S40.front1⟩)
 rintro _ w68 ⟨I64, rfl, L65, S69⟩
 refine yc (yi (ye nL7 (y4 ((cs_qC p0 w_p0)) (S69.rf m0) z (yh 1 3 [1] z (yj (S69.rf m1) z (bsk D fun r75 Xr70 D => WO.c1 (r19_May_ok (h_p0.mono le) S69 Xr70) z fun I72 w71 L73 S74 => ya 6 1 z (yb (y3 D (fun G D => ?_) (fun G D => ?_)))))))))
 exact ye [0] (ya 0 1 z (yb (yq (yf (sj D ▸ yy ⟨I72, rfl, le, S74.d2⟩)))))
 refine yl (yc (yi (ye nL18 (ya 0 3 z (ya7 [3, 4] 5 68 71 (.refl ((p2.Kind == 17) || (p2.Kind == 18))) (fun _ => ya 3 3 z yal) (ya 6 1 z (bsk D fun j80 R1 D => yao (l1 := [7, 8, 9]) (J := JI E I72 [(1, .string p1), (3, Pt b1 0), (5, Pt b5 0), (75, .bool j80)] (bC b1 p0 w_p0 :: (bS b5 p2 w_p2) :: Os)) ?_ ?_)))))))
 refine yan R1 (fun G R1 => ?_) (fun G R1 => ?_)
 exact y7 72 G (y4 ((cs_qS p2 w_p2)) (S74.rf m1) z (bsk R1 fun r89 Xr84 R1 => WO.c1 (r20_Reads_ok (h_p2.mono le) S74 Xr84) z fun I86 w85 L87 S88 => ya 9 1 z (sj R1 ▸ y6 ⟨I86, rfl, L87, S88⟩)))
 refine y7 72 G ?_
 iterate 2 refine yam ?_
 exact ya 9 1 z (sj R1 ▸ y6 ⟨I72, rfl, lr, S74⟩)
 rintro _ w90 ⟨I82, rfl, L83, S91⟩
 refine ya 10 1 z (bsk D fun j92 R1 D => yao (l1 := [11, 12, 13, 14, 15, 16, 17]) (J := JI E I82 [(83, .bool j92)] Os) ?_ ?_)
 refine yan R1 (fun G R1 => ?_) (fun G R1 => ?_)
 exact y7 76 G (y4 ((cs_qC p0 w_p0)) (S91.rf m0) z (yh 12 2 [1] z (yj (S91.rf m1) z (bsk R1 fun r101 Xr96 R1 => WO.c1 (r19_May_ok (h_p0.mono le) S91 Xr96) z fun I98 w97 L99 S100 => ya 16 2 z (sj R1 ▸ y6 ⟨I98, rfl, L99, S100.d2⟩)))))
 refine y7 76 G ?_
 iterate 6 refine yam ?_
 exact ya 17 1 z (sj R1 ▸ y6 ⟨I82, rfl, lr, S91.d2⟩)
 rintro _ w106 ⟨I94, rfl, L95, S107⟩
 refine yb (y3 D (fun G D => ?_) (fun G D => ?_))
 exact ye [0] (ya 0 1 z (yb (yq (yf (sj D ▸ yy ⟨I94, rfl, le, S107⟩)))))
 exact yl (yc (ye [0] (ya 0 1 z (yb (yq (sj D ▸ yy ⟨I94, rfl, le, S107⟩))))))
end Go.Proofs.YtdhfbakalknplaaGreat
