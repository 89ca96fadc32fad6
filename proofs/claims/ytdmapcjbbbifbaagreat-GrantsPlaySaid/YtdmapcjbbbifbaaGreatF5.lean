/- What functions of the program come to, each by a plain one. Conditions: none. -/
import Derived.Test.YtdmapcjbbbifbaaGreatF4
import Derived.Test.YtdmapcjbbbifbaaGreatProg
set_option maxRecDepth 100000
namespace Go.Proofs.YtdmapcjbbbifbaaGreat
open Go.Gv
set_option maxHeartbeats 1000000
variable {E w : World} {I : Mem} {Os : List Mem}
def slices_IndexFunc_qG (p0 : List qG) (p1 : qG → Option Bool) : Option Int := (forN (fun (i4 : Nat) (_s : Unit) => (idx p0 (i4 : Int)).bind (fun x11 => (p1 x11).bind (fun (r17 : Bool) => (bif r17 then some (.inr (i4 : Int)) else some (.inl ()))))) p0.length 0 ()).bind (fun (t : Unit ⊕ (Int)) => match t with | .inl _ => some (-1) | .inr s19 => some s19)
theorem slices_IndexFunc_qG_ok {p0 : List qG} {p1 : qG → Option Bool} {a_p0 : Option Addr} {c_p0 : Nat} {g_p1 : FuncId} {k_p1 : List Value} (h_p0 : RSl 5 R_qG I a_p0 c_p0 p0) (h_p1 : ∀ {F : List Mem} {I' : Mem} {w : World} {u0 : qG}, I.Le I' → St E w I' (F ++ Os) → ∀ {r : Bool}, p1 u0 = some r → Calls P g_p1 (([(vG u0)] : List Value) ++ k_p1).toArray w (fun e w' => ∃ (I'' : Mem), e = .returned (.bool r) ∧ I'.Le I'' ∧ St E w' I'' (F ++ Os))) (hcall_p1 : Callable P g_p1) (hS : St E w I Os) {r : Int} (D : slices_IndexFunc_qG p0 p1 = some r) :
    Calls P 111 #[(Sl a_p0 p0 c_p0), (.func (.func g_p1) #[] k_p1.toArray)] w (RT E I Os (Iv r)) := by
 refine calls_W (fn := Tryz.f111) rfl rfl rfl ?_
 unfold slices_IndexFunc_qG at D
 refine yf [0] (ya 0 1 z (yb (yi (yf nL3 (ya 0 3 z (yb (yo (bsk D fun t1 hloop5 D => have hlt9 := (h_p0).len_lt; W.wk (yas (m := p0.length) hloop5 (fun (i4 : Nat) (_s : Unit) => JI E I [(0, Sl a_p0 p0 c_p0), (1, .func (.func g_p1) #[] k_p1.toArray), (7, Nv p0.length), (8, Nv i4)] Os) ⟨I, rfl, lr, hS⟩ ?_ ?_)))))))))
 rintro i4 _ _ w6 hi10 ⟨I2, rfl, L3, S7⟩ x8 R1 hext1
 refine yf [0] (ya 0 1 z (yb (yi (yaw fun _ => ym (yc (yi (yo (yf nL2 (ya 0 2 z (yz nL6 (y7 0 11 (.func (.func g_p1) #[] k_p1.toArray) (ya 1 2 z ?_))))))))))))
 obtain ⟨x11, R1, Hx11, _, rfl, Zx11⟩ := sx I2 h_p0 R1
 refine yac 67 5 Hx11 z (yau ((cs_qG x11)) Zx11 0 S7.rm z (bsk R1 fun r17 Xr12 R1 => yby z kr z (g := g_p1) (kk := k_p1) (args := [(vG x11)]) z kr hcall_p1 (h_p1 (F := []) L3 S7  Xr12) ?_))
 rintro _ w13 ⟨I14, rfl, L15, S16⟩
 refine cv (yb (y6 R1 (fun G R1 => ?_) (fun G R1 => ?_)))
 refine yf nL2 (ya 0 2 z (yb (yp (yl (ye (yw ?_))))))
 obtain rfl := hext1 _ (sj R1).symm
 exact yl (ye (sj D ▸ yy ⟨I14, rfl, le, S16⟩))
 exact ym (yn (yc (yak nL2 (yaq i4 z (ya 1 1 z (yq (yx ⟨(), (sj R1).symm, I14, rfl, le, S16⟩)))))))
 rintro _ _ w20 ⟨I2, rfl, L3, S21⟩ he
 cases he
 exact yf [0] (ya 0 1 z (yb (yi (yax fun _ => yae (yr (yu (yv (yc (yf [0] (ya 0 1 z (yb (yp (sj D ▸ yy ⟨I2, rfl, L3, S21⟩)))))))))))))
def grants_place_1 (p0 : qG) (q1 : qS) (q2 : By8) : Option Bool := (some (((sEq p0.To q1.Role) && (sEq p0.By q2)) && (sEq p0.Table q1.Table))).bind (fun (q7 : Bool) => some (q7 && (p0.Priv == q1.Priv)))
theorem grants_place_1_ok {p0 : qG} {q1 : qS} {q2 : By8} {kb1 : Nat} {w_q1 : W_qS} {kb2 : Nat} (h_q1 : ok_qS I q1 w_q1) (hm1 : (bS kb1 q1 w_q1) ∈ Os) (hm2 : (Bx kb2 [(.string q2)] 9) ∈ Os) (hS : St E w I Os) {r : Bool} (D : grants_place_1 p0 q1 q2 = some r) :
    Calls P 112 #[(vG p0), (Pt kb1 0), (Pt kb2 0)] w (RT E I Os (.bool r)) := by
 refine calls_W (fn := Tryz.f112) rfl rfl rfl ?_
 unfold grants_place_1 at D
 exact yf nL2 (yad hS (cs_qG p0) 67 z fun b1 w4 S3 => ya 1 1 z (yz nL26 (yg 0 1 [0] z (yj (S3.rf m0) z (yg 2 1 [3] z (yj (rd_f (S3.rd (List.Mem.tail _ hm1))) z (ya 4 2 z (yay [6, 7, 8, 9] 10 10 15 (.refl ((sEq p0.To q1.Role) && (sEq p0.By q2))) (fun _ => yg 6 1 [1] z (yj (S3.rf m0) z (yj (rd_f (S3.rd (List.Mem.tail _ hm2))) z (ya 9 2 z yal)))) (ya 11 1 z (bsq D fun q7 Xq7 D => yay [12, 13, 14, 15, 16] 17 16 22 Xq7 (fun _ => yg 12 1 [2] z (yj (S3.rf m0) z (yg 14 1 [1] z (yj (rd_f (S3.rd (List.Mem.tail _ hm1))) z (ya 16 2 z yal))))) (ya 18 1 z (yay [19, 20, 21, 22, 23] 24 23 29 (.refl (q7 && (p0.Priv == q1.Priv))) (fun _ => yg 19 1 [3] z (yj (S3.rf m0) z (yg 21 1 [18] z (yj (rd_f (S3.rd (List.Mem.tail _ hm1))) z (ya 23 2 z yal))))) (ya 25 1 z (yb (yp (sj D ▸ yy ⟨I, rfl, lr, S3.drop⟩))))))))))))))))
def grants_place (p0 : qC) (p1 : qS) (p2 : By8) : Option Int := (slices_IndexFunc_qG p0.Grants (fun (u0 : qG) => grants_place_1 u0 p1 p2)).bind (fun r18 => some r18)
theorem grants_place_ok {p0 : qC} {p1 : qS} {p2 : By8} {w_p0 : W_qC} {w_p1 : W_qS} (h_p0 : ok_qC I p0 w_p0) (h_p1 : ok_qS I p1 w_p1) (hS : St E w I Os) {r : Int} (D : grants_place p0 p1 p2 = some r) :
    Calls P 66 #[(vC p0 w_p0), (vS p1 w_p1), (.string p2)] w (RT E I Os (Iv r)) := by
 refine calls_W (fn := Tryz.f66) rfl rfl rfl ?_
 unfold grants_place at D
 exact yf nL4 (yad hS (cs_qC p0 w_p0) 29 z fun b1 w4 S3 => yad S3 (cs_qS p1 w_p1) 44 z fun b5 w8 S7 => yad S7 [(.string p2)] 9 z fun b9 w12 S11 => ya 3 1 z (yz nL5 (yg 0 1 [3] z (yj (S11.rf m2) z (y7 2 9 (.func (.func 112) #[] #[(Pt b5 0), (Pt b9 0)]) (bsk D fun r18 Xr13 D => WO.c1 (slices_IndexFunc_qG_ok h_p0.Grants (fun {F Ic wc} {_} hlc hSc  {rc} hrc => grants_place_1_ok (h_p1.mono hlc) (List.mem_append_right _ m1) (List.mem_append_right _ m0) hSc hrc) (fun _ _ => by kernel_rfl) S11 Xr13) z fun I15 w14 L16 S17 => ya 4 1 z (yb (yp (sj D ▸ yy ⟨I15, rfl, L16, S17.d3⟩)))))))))
noncomputable def grants_Owns (p0 : qC) (p1 : By8) (p2 : By8) : Option Bool := (catalog_Find p0 p2).bind (fun (r10, r11) => ((bif r11 then (member_Is p0.Roles p1 r10.Owner).bind (fun r27 => some r27) else some false)).bind (fun (j18 : Bool) => some j18))
theorem grants_Owns_ok {p0 : qC} {p1 : By8} {p2 : By8} {w_p0 : W_qC} (h_p0 : ok_qC I p0 w_p0) (hS : St E w I Os) {r : Bool} (D : grants_Owns p0 p1 p2 = some r) :
    Calls P 21 #[(vC p0 w_p0), (.string p1), (.string p2)] w (RT E I Os (.bool r)) := by
 refine calls_W (fn := Tryz.f21) rfl rfl rfl ?_
 unfold grants_Owns at D
 refine yf nL2 (yad hS (cs_qC p0 w_p0) 29 z fun b1 w4 S3 => ya 1 1 z (yz nL9 (yab ((cs_qC p0 w_p0)) (S3.rf m0) z (ya 1 1 z ?_))))
 obtain ⟨⟨r10, r11⟩, Xr5, D⟩ := bsm D
 refine yaj (catalog_Find_ok h_p0 S3 Xr5) ?_
 rintro _ w6 ⟨I7, w_r10, rfl, L8, S9, h_r10⟩
 refine cv (ya 3 3 z (yad S9 (cs_qT z_qT zw_qT) 89 z fun b12 w15 S14 => yaf S14 0 (cs_qT r10 w_r10) fun w17 S16 => ya 8 1 z (yz nL10 (ya 0 2 z (bsk D fun j18 R1 D => yap (l1 := [2, 3, 4, 5, 6, 7, 8]) (J := JI E I7 [(23, .bool j18)] Os) ?_ ?_)))))
 refine yao R1 (fun G R1 => ?_) (fun G R1 => ?_)
 exact y4 16 G (yg 2 1 [2] z (yj (S16.rf m1) z (yg 4 2 [1] z (yj (S16.rf m0) z (bsk R1 fun r27 Xr22 R1 => WO.c1 (member_Is_ok (RSl.mono h_p0.Roles L8) S16 Xr22) z fun I24 w23 L25 S26 => ya 8 1 z (sj R1 ▸ y3 ⟨I24, rfl, L25, S26.d2⟩))))))
 refine y4 16 G ?_
 iterate 6 refine yan ?_
 exact ya 8 1 z (sj R1 ▸ y3 ⟨I7, rfl, lr, S16.d2⟩)
 rintro _ w32 ⟨I20, rfl, L21, S33⟩
 exact ya 9 1 z (yb (yp (sj D ▸ yy ⟨I20, rfl, le, S33⟩)))
def slices_ContainsFunc_qG (p0 : List qG) (p1 : qG → Option Bool) : Option Bool := (slices_IndexFunc_qG p0 p1).bind (fun r6 => some (decide (r6 ≥ 0)))
theorem slices_ContainsFunc_qG_ok {p0 : List qG} {p1 : qG → Option Bool} {a_p0 : Option Addr} {c_p0 : Nat} {g_p1 : FuncId} {k_p1 : List Value} (h_p0 : RSl 5 R_qG I a_p0 c_p0 p0) (h_p1 : ∀ {F : List Mem} {I' : Mem} {w : World} {u0 : qG}, I.Le I' → St E w I' (F ++ Os) → ∀ {r : Bool}, p1 u0 = some r → Calls P g_p1 (([(vG u0)] : List Value) ++ k_p1).toArray w (fun e w' => ∃ (I'' : Mem), e = .returned (.bool r) ∧ I'.Le I'' ∧ St E w' I'' (F ++ Os))) (hcall_p1 : Callable P g_p1) (hS : St E w I Os) {r : Bool} (D : slices_ContainsFunc_qG p0 p1 = some r) :
    Calls P 78 #[(Sl a_p0 p0 c_p0), (.func (.func g_p1) #[] k_p1.toArray)] w (RT E I Os (.bool r)) := by
 refine calls_W (fn := Tryz.f78) rfl rfl rfl ?_
 unfold slices_ContainsFunc_qG at D
 exact yf [0] (ya 0 1 z (yz nL5 (ya 0 1 z (y7 1 6 (.func (.func g_p1) #[] k_p1.toArray) (bsk D fun r6 Xr1 D => WO.c1 (slices_IndexFunc_qG_ok h_p0 (fun {F Ic wc} {_} hlc hSc  {rc} hrc => h_p1 hlc hSc  hrc) hcall_p1 hS Xr1) z fun I3 w2 L4 S5 => ya 3 2 z (yb (yp (sj D ▸ yy ⟨I3, rfl, L4, S5⟩))))))))
noncomputable def grants_has_1 (p0 : qG) (q1 : Int) (q2 : By8) (q3 : Bool) (q4 : qC) (q5 : By8) : Option Bool := (some (((p0.Priv == q1) && (sEq p0.Table q2)) && (p0.Option || (!q3)))).bind (fun (q9 : Bool) => ((bif q9 then (member_Is q4.Roles q5 p0.To).bind (fun r23 => some r23) else some false)).bind (fun (j14 : Bool) => some j14))
theorem grants_has_1_ok {p0 : qG} {q1 : Int} {q2 : By8} {q3 : Bool} {q4 : qC} {q5 : By8} {kb1 : Nat} {kb2 : Nat} {kb3 : Nat} {kb4 : Nat} {w_q4 : W_qC} {kb5 : Nat} (h_q4 : ok_qC I q4 w_q4) (hm1 : (Bx kb1 [(Iv q1)] 3) ∈ Os) (hm2 : (Bx kb2 [(.string q2)] 9) ∈ Os) (hm3 : (Bx kb3 [(.bool q3)] 4) ∈ Os) (hm4 : (bC kb4 q4 w_q4) ∈ Os) (hm5 : (Bx kb5 [(.string q5)] 9) ∈ Os) (hS : St E w I Os) {r : Bool} (D : grants_has_1 p0 q1 q2 q3 q4 q5 = some r) :
    Calls P 79 #[(vG p0), (Pt kb1 0), (Pt kb2 0), (Pt kb3 0), (Pt kb4 0), (Pt kb5 0)] w (RT E I Os (.bool r)) := by
 refine calls_W (fn := Tryz.f79) rfl rfl rfl ?_
 unfold grants_has_1 at D
 refine yf nL2 (yad hS (cs_qG p0) 67 z fun b1 w4 S3 => ya 1 1 z (yz nL27 (yg 0 1 [3] z (yj (S3.rf m0) z (yj (rd_f (S3.rd (List.Mem.tail _ hm1))) z (ya 3 2 z (yay [5, 6, 7, 8] 9 12 17 (.refl ((p0.Priv == q1) && (sEq p0.Table q2))) (fun _ => yg 5 1 [2] z (yj (S3.rf m0) z (yj (rd_f (S3.rd (List.Mem.tail _ hm2))) z (ya 8 2 z yal)))) (ya 10 1 z (bsq D fun q9 Xq9 D => yay [11, 12, 13, 14, 15, 16] 17 18 25 Xq9 (fun _ => yg 11 1 [4] z (yj (S3.rf m0) z (ya 13 1 z (ya3 [14, 15] 16 21 24 (.refl (p0.Option || (!q3))) (fun _ => yj (rd_f (S3.rd (List.Mem.tail _ hm3))) z (ya 15 2 z yal)) (ya 17 1 z yal))))) (ya 18 1 z (bsk D fun j14 R1 D => yap (l1 := [19, 20, 21, 22, 23, 24, 25]) (J := JI E I [(33, .bool j14)] Os) ?_ ?_)))))))))))
 refine yao R1 (fun G R1 => ?_) (fun G R1 => ?_)
 exact y4 26 G (yg 19 1 [2] z (yj (rd_f (S3.rd (List.Mem.tail _ hm4))) z (yj (rd_f (S3.rd (List.Mem.tail _ hm5))) z (yg 22 1 [0] z (yj (S3.rf m0) z (bsk R1 fun r23 Xr18 R1 => WO.c1 (member_Is_ok h_q4.Roles S3 Xr18) z fun I20 w19 L21 S22 => ya 25 1 z (sj R1 ▸ y3 ⟨I20, rfl, L21, S22.drop⟩)))))))
 refine y4 26 G ?_
 iterate 6 refine yan ?_
 exact ya 25 1 z (sj R1 ▸ y3 ⟨I, rfl, lr, S3.drop⟩)
 rintro _ w26 ⟨I16, rfl, L17, S27⟩
 exact ya 26 1 z (yb (yp (sj D ▸ yy ⟨I16, rfl, L17, S27⟩)))
noncomputable def grants_has (p0 : qC) (p1 : List qG) (p2 : By8) (p3 : Int) (p4 : By8) (p5 : Bool) : Option Bool := (slices_ContainsFunc_qG p1 (fun (u0 : qG) => grants_has_1 u0 p3 p4 p5 p0 p2)).bind (fun r26 => some r26)
theorem grants_has_ok {p0 : qC} {p1 : List qG} {p2 : By8} {p3 : Int} {p4 : By8} {p5 : Bool} {w_p0 : W_qC} {a_p1 : Option Addr} {c_p1 : Nat} (h_p0 : ok_qC I p0 w_p0) (h_p1 : RSl 5 R_qG I a_p1 c_p1 p1) (hS : St E w I Os) {r : Bool} (D : grants_has p0 p1 p2 p3 p4 p5 = some r) :
    Calls P 44 #[(vC p0 w_p0), (Sl a_p1 p1 c_p1), (.string p2), (Iv p3), (.string p4), (.bool p5)] w (RT E I Os (.bool r)) := by
 refine calls_W (fn := Tryz.f44) rfl rfl rfl ?_
 unfold grants_has at D
 exact yf nL6 (yad hS (cs_qC p0 w_p0) 29 z fun b1 w4 S3 => yad S3 [(.string p2)] 9 z fun b5 w8 S7 => yad S7 [(Iv p3)] 3 z fun b9 w12 S11 => yad S11 [(.string p4)] 9 z fun b13 w16 S15 => yad S15 [(.bool p5)] 4 z fun b17 w20 S19 => ya 5 1 z (yz nL4 (ya 0 1 z (y7 1 14 (.func (.func 79) #[] #[(Pt b9 0), (Pt b13 0), (Pt b17 0), (Pt b1 0), (Pt b5 0)]) (bsk D fun r26 Xr21 D => WO.c1 (slices_ContainsFunc_qG_ok h_p1 (fun {F Ic wc} {_} hlc hSc  {rc} hrc => grants_has_1_ok (h_p0.mono hlc) (List.mem_append_right _ m2) (List.mem_append_right _ m1) (List.mem_append_right _ m0) (List.mem_append_right _ m4) (List.mem_append_right _ m3) hSc hrc) (fun _ _ => by kernel_rfl) S19 Xr21) z fun I23 w22 L24 S25 => ya 3 1 z (yb (yp (sj D ▸ yy ⟨I23, rfl, L24, S25.d5⟩))))))))
def grants_Held_1 (q0 : qC) (q1 : List Bool) : Option (List qG) := (forE (fun (i5 : Nat) (s4 : List qG) => (idx q0.Grants (i5 : Int)).bind (fun x14 => (idx q1 (i5 : Int)).bind (fun x21 => ((bif x21 then (app 64 s4 ([x14] : List qG)).bind (fun x34 => some x34) else some s4)).bind (fun (j22 : List qG) => some j22)))) q0.Grants.length 0 ([] : List qG)).bind (fun s4 => some s4)
theorem grants_Held_1_ok {q0 : qC} {q1 : List Bool} {kb0 : Nat} {w_q0 : W_qC} {kb1 : Nat} {a_q1 : Option Addr} {c_q1 : Nat} (h_q0 : ok_qC I q0 w_q0) (h_q1 : RSl 1 RBool I a_q1 c_q1 q1) (hm0 : (bC kb0 q0 w_q0) ∈ Os) (hm1 : (Bx kb1 [(Sl a_q1 q1 c_q1)] 90) ∈ Os) (hS : St E w I Os) {r : (List qG)} (D : grants_Held_1 q0 q1 = some r) :
    Calls P 42 #[(Pt kb0 0), (Pt kb1 0)] w (fun e w' => ∃ (I' : Mem) (ra0 : Option Addr) (rc0 : Nat) (rC0 : Mem), e = .returned (Sl ra0 r rc0) ∧ I.Le I' ∧ St E w' I' (rC0 :: Os) ∧ OwnSl 67 5 R_qG I' rC0 ra0 rc0 r) := by
 refine calls_W (fn := Tryz.f42) rfl rfl rfl ?_
 unfold grants_Held_1 at D
 refine yf [0] (y7 0 2 (.slice none 0 0) (yz [0] (y7 0 3 (.slice none 0 0) (yb (yi (yf nL4 (yg 0 1 [3] z (yj (rd_f (hS.rd hm0)) z (ya 2 2 z (yb (yo (bsk D fun s4 hloop6 D => have hlt12 := (h_q0.Grants).len_lt; W.wk (ya5 (m := q0.Grants.length) hloop6 (fun (i5 : Nat) (s4 : List qG) fr w => ∃ I2 a_s4 c_s4 C_s4, fr = [(1, Pt kb1 0), (3, Sl a_s4 s4 c_s4), (7, Sl w_q0.Grants.a q0.Grants w_q0.Grants.c), (8, Nv q0.Grants.length), (9, Nv i5)] ∧ I.Le I2 ∧ St E w I2 ((C_s4) :: Os) ∧ OwnSl 67 5 R_qG I2 C_s4 a_s4 c_s4 s4) ⟨I, none, 0, Mem.no, rfl, lr, hS.no, OwnSl.nil⟩ ?_ ?_)))))))))))))
 rintro i5 s4 _ w9 hi13 ⟨I2, a_s4, c_s4, C_s4, rfl, L3, S10, h_s4⟩ x11 R1
 refine yf [0] (ya 0 1 z (yb (yi (yaw fun _ => ym (yc (yi (yo (yf nL6 (ya 0 1 z ?_)))))))))
 obtain ⟨x14, R1, Hx14, _, rfl, Zx14⟩ := sx I2 h_q0.Grants R1
 refine yac 67 5 Hx14 z (yau ((cs_qG x14)) Zx14 0 S10.rm z (yad S10 (cs_qG z_qG) 67 z fun b15 w18 S17 => ya 4 1 z (yaf S17 0 (cs_qG x14) fun w20 S19 => yz nL4 (yj (rd_f (S19.rd (List.Mem.tail _ (List.Mem.tail _ hm1)))) z (ya 1 1 z ?_)))))
 obtain ⟨x21, R1, Hx21, _, rfl, Zx21⟩ := sx I2 h_q1 R1
 refine yac 4 1 Hx21 z (yar Zx21 S19.rm z (yb (bsk R1 fun j22 R2 R1 => ya0 (J := (fun fr w => ∃ I24 a_j22 c_j22 C_j22, fr = [(1, Pt kb1 0), (3, Sl a_j22 j22 c_j22), (7, Sl w_q0.Grants.a q0.Grants w_q0.Grants.c), (8, Nv q0.Grants.length), (9, Nv i5)] ∧ I2.Le I24 ∧ St E w I24 ((C_j22) :: Os) ∧ OwnSl 67 5 R_qG I24 C_j22 a_j22 c_j22 j22)) ?_ ?_)))
 refine y6 R2 (fun G R2 => ?_) (fun G R2 => ?_)
 refine yak nL5 (ya 0 1 z (yab ((cs_qG x14)) (S19.rf m0) z (yai (rel := R_qG) (xs := ([x14] : List qG)) S19 z kr z 67 5 [(cs_qG x14)] kr z ((Elr.cons z Elr.nil)) tv ?_)))
 intro a29 C27 w31 S30 ho28
 have S33 := S30.front2
 exact apk R2 fun x34 h0_x34 he_x34 R2 => yaz 67 64 (cs_qG z_qG) S33 h_s4 ho28.sl (S33.rd m1) h0_x34 he_x34 z fun a35 c36 w37 C38 S39 ho40 => ya 4 1 z (yq (sj R2 ▸ yx ⟨I2, a35, c36, C38, rfl, lr, S39.front1.drop.front1.drop, ho40⟩))
 exact ym (sj R2 ▸ yx ⟨I2, a_s4, c_s4, C_s4, rfl, lr, S19.drop, h_s4⟩)
 rintro _ w46 ⟨I24, a_j22, c_j22, C_j22, rfl, L25, S47, h_j22⟩
 exact yn (yc (yak nL2 (yaq i5 z (ya 1 1 z (yq (sj R1 ▸ yx ⟨I24, a_j22, c_j22, C_j22, rfl, le, S47, h_j22⟩))))))
 rintro _ w48 ⟨I2, a_s4, c_s4, C_s4, rfl, L3, S49, h_s4⟩
 exact yf [0] (ya 0 1 z (yb (yi (yax fun _ => yae (yr (yu (yv (yc (yf nL2 (ya 0 2 z (yb (yp (sj D ▸ yy ⟨I2, a_s4, c_s4, C_s4, rfl, L3, S49, h_s4⟩)))))))))))))
noncomputable def grants_Held (p0 : qC) : Option (List qG) := (mk 1 (p0.Grants.length : Int)).bind (fun n5 => (loopO (fun (s : Bool × (List Bool)) => match s with | (s21, s22) => (bif s21 then (grants_Held_1 p0 s22).bind (fun r38 => (forE (fun (i50 : Nat) (s : Bool × (List Bool)) => match s with | (s48, s49) => (idx p0.Grants (i50 : Int)).bind (fun x59 => (catalog_Find p0 x59.Table).bind (fun (r71, r72) => (member_Find p0.Roles x59.To).bind (fun (r84, r85) => (idx s49 (i50 : Int)).bind (fun x92 => ((bif (((!x92) && r72) && r85) then (grants_Owns p0 x59.By x59.Table).bind (fun r106 => ((bif r106 then some true else (grants_has p0 r38 x59.By x59.Priv x59.Table true).bind (fun r119 => some r119))).bind (fun (j107 : Bool) => some j107)) else some false)).bind (fun (j97 : Bool) => ((bif j97 then (idx s49 (i50 : Int)).bind (fun x134 => some (true, (s49.set ((i50 : Int)).toNat true))) else some (s48, s49))).bind (fun ((s141, s142) : Bool × (List Bool)) => some (s141, s142)))))))) p0.Grants.length 0 (false, s22)).bind (fun (s48, s49) => some (.inl (s48, s49)))) else some (.inr s22))) (true, (List.replicate n5 false))).bind (fun (s150 : List Bool) => (grants_Held_1 p0 s150).bind (fun r159 => some r159)))
theorem grants_Held_ok {p0 : qC} {w_p0 : W_qC} (h_p0 : ok_qC I p0 w_p0) (hS : St E w I Os) {r : (List qG)} (D : grants_Held p0 = some r) :
    Calls P 18 #[(vC p0 w_p0)] w (fun e w' => ∃ (I' : Mem) (ra0 : Option Addr) (rc0 : Nat), e = .returned (Sl ra0 r rc0) ∧ I.Le I' ∧ St E w' I' Os ∧ RSl 5 R_qG I' ra0 rc0 r) := by
 refine calls_W (fn := Tryz.f18) rfl rfl rfl ?_
 unfold grants_Held at D
 refine yf nL2 (yad hS (cs_qC p0 w_p0) 29 z fun b1 w4 S3 => y7 1 2 (.slice none 0 0) (yz nL6 (yg 0 1 [3] z (yj (S3.rf m0) z (ya 2 1 z ?_)))))
 obtain ⟨n5, Xn5, D⟩ := bsm D
 obtain ⟨h0_n5, he_n5⟩ := mk_some Xn5
 refine WO.make (rel := RBool) S3 z kr z kr (T := 4) (sz := 1) (b := 1) (zs := #[(.bool false)]) kr z z n5 (congrArg (Value.int .i64) he_n5) (congrArg (Value.int .i64) he_n5) h0_n5 z (z0 := false) z tv ?_
 intro a6 w10 C7 S9 ho8
 refine yaa 16 z (show Value.slice a6 n5 n5 = Value.slice a6 (List.replicate n5 false).length n5 by simp only [List.length_replicate]) ?_
 refine yad S9 [(.slice none 0 0)] 90 z fun b12 w15 S14 => yaf S14 0 [(.slice a6 (List.replicate n5 false).length n5)] fun w17 S16 => yz nL2 (WO.vs 0 [(17, .func (.func 42) #[] #[(Pt b1 0), (Pt b12 0)]), (4, .func (.func 42) #[] #[(Pt b1 0), (Pt b12 0)])] (yb (yi (yf [0] (ya 0 1 z (yb (yo (bsk D fun t18 hloop23 D => W.wk (ybf hloop23 (fun (s : Bool × (List Bool)) fr w => match s with | (s21, s22) => ∃ I19 C_s22, fr = [(1, Pt b1 0), (3, Pt b12 0), (4, .func (.func 42) #[] #[(Pt b1 0), (Pt b12 0)]), (5, .bool s21)] ∧ I.Le I19 ∧ St E w I19 (bC b1 p0 w_p0 :: (Bx b12 [(Sl a6 s22 n5)] 90) :: (C_s22) :: Os) ∧ OwnSl 4 1 RBool I19 C_s22 a6 n5 s22) ⟨I, C7, rfl, lr, S16.front1.front1.front2, ho8⟩ ?_)))))))))
 rintro ⟨s21, s22⟩ _ w27 ⟨I19, C_s22, rfl, L20, S28, h_s22⟩ x29 R1 hext18
 refine yi (yf [0] (ya 0 1 z (yb (y6 R1 (fun G R1 => ?_) (fun G R1 => ?_)))))
 refine ym (yc (yo (yf [0] (ya 0 1 z (yz nL3 (y7 0 19 (.func (.func 42) #[] #[(Pt b1 0), (Pt b12 0)]) (have S30 := S28.front2; have hp32 := (h_s22).publish S30; bsk R1 fun r38 Xr33 R1 => yaj (grants_Held_1_ok (h_p0.mono (L20.trans (ybg I19 C_s22))) hp32 m0 m1 S30.publish Xr33) ?_)))))))
 rintro _ w34 ⟨I35, a_r38, c_r38, C_r38, rfl, L36, S37, h_r38⟩
 have S39 := yb9 S30 L36 S37
 have ho40 := ycb h_r38 I19 (fun hq => hq)
 refine cv ?_
 obtain ⟨I41, L42, S44, hp43⟩ := OwnSl.pub ho40 S39
 refine ya 2 1 z (yz nL4 (yg 0 1 [3] z (yj (S44.rf m1) z (ya 2 2 z (yb (yo ?_))))))
 obtain ⟨⟨s48, s49⟩, hloop51, R1⟩ := bsm R1
 have hlt57 := ((RSl.mono h_p0.Grants (L20.trans L42))).len_lt
 refine W.wk (ya5 (m := p0.Grants.length) hloop51 (fun (i50 : Nat) (s : Bool × (List Bool)) fr w => match s with | (s48, s49) => ∃ I46 C_s49, fr = [(1, Pt b1 0), (3, Pt b12 0), (4, .func (.func 42) #[] #[(Pt b1 0), (Pt b12 0)]), (5, .bool s48), (6, Sl a_r38 r38 c_r38), (22, Sl w_p0.Grants.a p0.Grants w_p0.Grants.c), (23, Nv p0.Grants.length), (24, Nv i50)] ∧ I41.Le I46 ∧ St E w I46 (bC b1 p0 w_p0 :: (Bx b12 [(Sl a6 s49 n5)] 90) :: (C_s49) :: Os) ∧ OwnSl 4 1 RBool I46 C_s49 a6 n5 s49) ⟨I41, C_s22, rfl, lr, S44.front2.front2, (OwnSl.mono h_s22 L42)⟩ ?_ ?_)
 rintro i50 ⟨s48, s49⟩ _ w54 hi58 ⟨I46, C_s49, rfl, L47, S55, h_s49⟩ x56 R2
 refine yf [0] (ya 0 1 z (yb (yi (yaw fun _ => ym (yc (yi (yo (yf nL6 (ya 0 1 z ?_)))))))))
 obtain ⟨x59, R2, Hx59, _, rfl, Zx59⟩ := sx I46 h_p0.Grants R2
 refine yac 67 5 Hx59 z (yau ((cs_qG x59)) Zx59 0 S55.rm z (yad S55 (cs_qG z_qG) 67 z fun b60 w63 S62 => ya 4 1 z (yaf S62 0 (cs_qG x59) fun w65 S64 => yz nL10 (yab ((cs_qC p0 w_p0)) (S64.rf m1) z (yg 1 1 [2] z (yj (S64.rf m0) z ?_))))))
 obtain ⟨⟨r71, r72⟩, Xr66, R2⟩ := bsm R2
 refine yaj (catalog_Find_ok (h_p0.mono le) S64 Xr66) ?_
 rintro _ w67 ⟨I68, w_r71, rfl, L69, S70, h_r71⟩
 refine cv (ya 4 3 z (yad S70 (cs_qT z_qT zw_qT) 89 z fun b73 w76 S75 => yaf S75 0 (cs_qT r71 w_r71) fun w78 S77 => ya 9 1 z (yz nL11 (yg 0 1 [2] z (yj (S77.rf m2) z (yg 2 1 [0] z (yj (S77.rf m1) z ?_)))))))
 obtain ⟨⟨r84, r85⟩, Xr79, R2⟩ := bsm R2
 refine yaj (member_Find_ok (up h_p0.Roles) S77 Xr79) ?_
 rintro _ w80 ⟨I81, w_r84, rfl, L82, S83, h_r84⟩
 refine cv (ya 5 3 z (yad S83 (cs_qJ z_qJ zw_qJ) 62 z fun b86 w89 S88 => yaf S88 0 (cs_qJ r84 w_r84) fun w91 S90 => ya 10 1 z (yz nL30 (yj (S90.rf m4) z (ya 1 1 z ?_)))))
 obtain ⟨x92, R2, Hx92, _, rfl, Zx92⟩ := sl_ix ((h_s49.mono (L69.trans L82)).sl) R2
 refine yac 4 1 Hx92 z (yar Zx92 (S90.rf m5) z (ya 4 2 z (yay [6] 7 49 51 (.refl ((!x92) && r72)) (fun _ => ya 6 2 z yal) (ya 8 1 z (yay [9] 10 52 54 (.refl (((!x92) && r72) && r85)) (fun _ => ya 9 2 z yal) (ya 11 1 z (bsk R2 fun j97 R3 R2 => yap (l1 := [12, 13, 14, 15, 16, 17, 18, 19, 20, 21, 22, 23, 24, 25, 26, 27, 28, 29]) (J := JI E I81 [(1, Pt b1 0), (3, Pt b12 0), (4, .func (.func 42) #[] #[(Pt b1 0), (Pt b12 0)]), (5, .bool s48), (6, Sl a_r38 r38 c_r38), (7, Nv i50), (22, Sl w_p0.Grants.a p0.Grants w_p0.Grants.c), (23, Nv p0.Grants.length), (24, Nv i50), (73, .bool j97)] (bC b1 p0 w_p0 :: (Bx b12 [(Sl a6 s49 n5)] 90) :: (C_s49) :: Os)) ?_ ?_)))))))
 refine yao R3 (fun G R3 => ?_) (fun G R3 => ?_)
 refine y4 55 G (yab ((cs_qC p0 w_p0)) (S90.rf m3) z (yg 13 1 [1] z (yj (S90.rf m2) z (yg 15 1 [2] z (yj (S90.rf m2) z (bsk R3 fun r106 Xr101 R3 => WO.c1 (grants_Owns_ok (h_p0.mono le) S90 Xr101) z fun I103 w102 L104 S105 => ya 18 1 z (bsk R3 fun j107 R4 R3 => yap (l1 := [19, 20, 21, 22, 23, 24, 25, 26, 27, 28]) (J := JI E I103 [(1, Pt b1 0), (3, Pt b12 0), (4, .func (.func 42) #[] #[(Pt b1 0), (Pt b12 0)]), (5, .bool s48), (6, Sl a_r38 r38 c_r38), (7, Nv i50), (22, Sl w_p0.Grants.a p0.Grants w_p0.Grants.c), (23, Nv p0.Grants.length), (24, Nv i50), (55, .bool true), (72, .bool j107)] (bC b1 p0 w_p0 :: (Bx b12 [(Sl a6 s49 n5)] 90) :: (C_s49) :: Os)) ?_ ?_)))))))
 refine yao R4 (fun G R4 => ?_) (fun G R4 => ?_)
 refine y4 62 G ?_
 iterate 9 refine yan ?_
 exact ya 28 1 z (sj R4 ▸ y3 ⟨I103, rfl, lr, S105.d3⟩)
 exact y4 62 G (yab ((cs_qC p0 w_p0)) (S105.rf m3) z (yg 20 2 [1] z (yj (S105.rf m2) z (yg 23 1 [3] z (yj (S105.rf m2) z (yg 25 1 [2] z (yj (S105.rf m2) z (bsk R4 fun r119 Xr114 R4 => WO.c1 (grants_has_ok (h_p0.mono le) (up hp43) S105 Xr114) z fun I116 w115 L117 S118 => ya 28 1 z (sj R4 ▸ y3 ⟨I116, rfl, L117, S118.d3⟩)))))))))
 rintro _ w123 ⟨I109, rfl, L110, S124⟩
 exact ya 29 1 z (sj R3 ▸ y3 ⟨I109, rfl, le, S124⟩)
 refine y4 55 G ?_
 iterate 17 refine yan ?_
 exact ya 29 1 z (sj R3 ▸ y3 ⟨I81, rfl, lr, S90.d3⟩)
 rintro _ w128 ⟨I99, rfl, L100, S129⟩
 refine yb (bsk R2 fun j130 R3 R2 => ya0 (J := (fun fr w => ∃ (s141 : Bool) (s142 : List Bool), ∃ I132 C_s142, (s141, s142) = j130 ∧ fr = [(1, Pt b1 0), (3, Pt b12 0), (4, .func (.func 42) #[] #[(Pt b1 0), (Pt b12 0)]), (5, .bool s141), (6, Sl a_r38 r38 c_r38), (22, Sl w_p0.Grants.a p0.Grants w_p0.Grants.c), (23, Nv p0.Grants.length), (24, Nv i50)] ∧ I99.Le I132 ∧ St E w I132 (bC b1 p0 w_p0 :: (Bx b12 [(Sl a6 s142 n5)] 90) :: (C_s142) :: Os) ∧ OwnSl 4 1 RBool I132 C_s142 a6 n5 s142)) ?_ ?_)
 refine y6 R3 (fun G R3 => ?_) (fun G R3 => ?_)
 refine yf nL4 (yj (S129.rf m1) z (ya 1 1 z ?_))
 obtain ⟨x134, R3, h0_x134, h1_x134, Xx134, ha_x134, _, _, rfl, Zx134⟩ := sl_at ((h_s49.mono ((L69.trans L82).trans L100)).sl) R3
 refine ybe 4 1 ha_x134 h0_x134 h1_x134 ?_
 refine ya7 S129.front2 (OwnSl.mono h_s49 le) z kr z Xx134 (u' := true) 0 z z kr z z (fun cs hrel => (by obtain rfl := hrel; exact z)) tv ?_
 intro w137 C138 S136 ho139
 refine yaa 74 z (show Value.slice a6 s49.length n5 = Value.slice a6 (s49.set ((i50 : Int)).toNat true).length n5 by simp only [List.length_set]) ?_
 have S140 : St E w137 I99 ((C138) :: (bC b1 p0 w_p0) :: (Bx b12 [(.slice a6 (s49.set ((i50 : Int)).toNat true).length n5)] 90) :: Os) := by have hq := S136; simp only [List.length_set] at hq ⊢; exact hq
 exact yb (yak [0] (ya 0 1 z (yq (yx ⟨true, (s49.set ((i50 : Int)).toNat true), I99, C138, sj R3, rfl, lr, S140.front2.front2, ho139⟩))))
 exact ym (yx ⟨s48, s49, I99, C_s49, sj R3, rfl, lr, S129, (OwnSl.mono h_s49 le)⟩)
 rintro _ w145 ⟨s141, s142, I132, C_s142, rfl, rfl, L133, S146, h_s142⟩
 exact yn (yc (yak nL2 (yaq i50 z (ya 1 1 z (yq (sj R2 ▸ yx ⟨I132, C_s142, rfl, le, S146, h_s142⟩))))))
 rintro _ w147 ⟨I46, C_s49, rfl, L47, S148, h_s49⟩
 exact yf [0] (ya 0 1 z (yb (yi (yax fun _ => yae (yr (yu (yv (yn (yx ⟨(s48, s49), (sj R1).symm, I46, C_s49, rfl, le, S148, h_s49⟩)))))))))
 refine yae (yr (yu ?_))
 obtain rfl := hext18 _ (sj R1).symm
 refine yv (yc (yf nL3 (y7 0 78 (.func (.func 42) #[] #[(Pt b1 0), (Pt b12 0)]) (have S169 := S28.front2; have hp171 := (h_s22).publish S169; bsk D fun r177 Xr172 D => yaj (grants_Held_1_ok (h_p0.mono (L20.trans (ybg I19 C_s22))) hp171 m0 m1 S169.publish Xr172) ?_))))
 rintro _ w173 ⟨I174, a_r177, c_r177, C_r177, rfl, L175, S176, h_r177⟩
 have S178 := yb9 S169 L175 S176
 have ho179 := ycb h_r177 I19 (fun hq => hq)
 refine cv ?_
 obtain ⟨I180, L181, S183, hp182⟩ := OwnSl.pub ho179 S178
 exact ya 2 1 z (yb (yp (sj D ▸ yy ⟨I180, a_r177, c_r177, rfl, le, S183.d3, hp182⟩)))
noncomputable def grants_Can (p0 : qC) (p1 : By8) (p2 : Int) (p3 : By8) : Option Bool := (grants_Owns p0 p1 p3).bind (fun r12 => ((bif r12 then some true else (grants_Held p0).bind (fun r22 => (grants_has p0 r22 p1 p2 p3 true).bind (fun r28 => some r28)))).bind (fun (j13 : Bool) => some j13))
theorem grants_Can_ok {p0 : qC} {p1 : By8} {p2 : Int} {p3 : By8} {w_p0 : W_qC} (h_p0 : ok_qC I p0 w_p0) (hS : St E w I Os) {r : Bool} (D : grants_Can p0 p1 p2 p3 = some r) :
    Calls P 25 #[(vC p0 w_p0), (.string p1), (Iv p2), (.string p3)] w (RT E I Os (.bool r)) := by
 refine calls_W (fn := Tryz.f25) rfl rfl rfl ?_
 unfold grants_Can at D
 refine yf nL2 (yad hS (cs_qC p0 w_p0) 29 z fun b1 w4 S3 => ya 1 1 z (yb (yi (have S5 := S3.drew; ybd nL14 13 (yt (S5.rd m0) (y8 S5.im)) ?_))))
 generalize World.drew _ = w6 at *
 refine yab ((cs_qC p0 w_p0)) (rd_c m0 (S5.rd m0)) z (ya 1 2 z (bsk D fun r12 Xr7 D => yaj (grants_Owns_ok h_p0 S5 Xr7) ?_))
 rintro _ w8 ⟨I9, rfl, L10, S11⟩
 refine ⟨_, rfl, (yt (S11.rd m0) (y8 (S11.im.of_le L10))), ?_⟩
 refine ya 4 1 z (bsk D fun j13 R1 D => yap (l1 := [5, 6, 7, 8, 9, 10, 11, 12]) (J := JI E I9 [(21, .bool j13)] (bC b1 p0 w_p0 :: Os)) ?_ ?_)
 refine yao R1 (fun G R1 => ?_) (fun G R1 => ?_)
 refine y4 13 G ?_
 iterate 7 refine yan ?_
 exact ya 12 1 z (sj R1 ▸ y3 ⟨I9, rfl, lr, S11⟩)
 refine y4 13 G (yab ((cs_qC p0 w_p0)) (rd_c m0 (S11.rd m0)) z (yab ((cs_qC p0 w_p0)) (rd_c m0 (S11.rd m0)) z (bsk R1 fun r22 Xr17 R1 => yaj (grants_Held_ok (h_p0.mono L10) S11 Xr17) ?_)))
 rintro _ w18 ⟨I19, a_r22, c_r22, rfl, L20, S21, h_r22⟩
 refine ⟨_, rfl, (yt (S21.rd m0) (y8 (S21.im.of_le le))), ?_⟩
 refine ya 8 3 z (bsk R1 fun r28 Xr23 R1 => yaj (grants_has_ok (h_p0.mono le) h_r22 S21 Xr23) ?_)
 rintro _ w24 ⟨I25, rfl, L26, S27⟩
 refine ⟨_, rfl, (yt (S27.rd m0) (y8 (S27.im.of_le le))), ?_⟩
 exact ya 12 1 z (sj R1 ▸ y3 ⟨I25, rfl, le, S27⟩)
 rintro _ w29 ⟨I15, rfl, L16, S30⟩
 exact WO.tail z (ya 13 1 z (yb (yp (sj D ▸ yy ⟨I15, rfl, le, S30.drop⟩))))
def slices_Clone_qG (p0 : List qG) : Option (List qG) := (app 64 ([] : List qG) p0).bind (fun x10 => some x10)
theorem slices_Clone_qG_ok {p0 : List qG} {a_p0 : Option Addr} {c_p0 : Nat} (h_p0 : RSl 5 R_qG I a_p0 c_p0 p0) (hS : St E w I Os) {r : (List qG)} (D : slices_Clone_qG p0 = some r) :
    Calls P 67 #[(Sl a_p0 p0 c_p0)] w (fun e w' => ∃ (I' : Mem) (ra0 : Option Addr) (rc0 : Nat) (rC0 : Mem), e = .returned (Sl ra0 r rc0) ∧ I.Le I' ∧ St E w' I' (rC0 :: Os) ∧ OwnSl 67 5 R_qG I' rC0 ra0 rc0 r) := by
 refine calls_W (fn := Tryz.f67) rfl rfl rfl ?_
 unfold slices_Clone_qG at D
 refine yf [0] (y7 0 2 (.slice none 0 0) (yb (yi (yf nL2 (ya 0 1 z (ybt (e := 67) z kr kr z z ?_))))))
 refine yb (ybz (fun G => ?_) (fun G => ?_))
 have ha0 := Option.isNone_iff_eq_none.1 G
 subst ha0
 have hx0 := (h_p0).none_nil
 subst hx0
 replace D : some ([] : List qG) = some r := by simpa [app] using D
 exact yf [0] (y7 0 2 (.slice none 0 0) (yb (yp (ye (sj D ▸ yy ⟨I, none, 0, Mem.no, rfl, lr, hS.no, OwnSl.nil⟩)))))
 clear G
 refine ym (yc (yf nL4 (yai (rel := R_qG) (xs := ([] : List qG)) hS z kr z 67 5 [] kr z (Elr.nil) tv ?_)))
 intro a6 C4 w8 S7 ho5
 exact ya 1 1 z (apk D fun x10 h0_x10 he_x10 D => yaz 67 64 (cs_qG z_qG) S7 ho5 h_p0 S7.im h0_x10 he_x10 z fun a11 c12 w13 C14 S15 ho16 => ya 3 1 z (yb (yp (sj D ▸ yy ⟨I, a11, c12, C14, rfl, lr, S15, ho16⟩))))
noncomputable def grants_give (p0 : qC) (p1 : qS) (p2 : By8) : Option ((List qG) × Int) := (catalog_Find p0 p1.Table).bind (fun (r14, r15) => (member_Find p0.Roles p1.Role).bind (fun (r27, r28) => (grants_place p0 p1 p2).bind (fun r40 => (bif ((!r15) || (!r28)) then some (([] : List qG), 4) else (grants_Can p0 p2 p1.Priv p1.Table).bind (fun r52 => (bif (!r52) then some (([] : List qG), 36) else ((bif (decide (r40 ≥ 0)) then (idx p0.Grants r40).bind (fun x61 => some (x61.Option || (!p1.Option))) else some false)).bind (fun (j57 : Bool) => (bif j57 then some (([] : List qG), 19) else (bif (decide (r40 ≥ 0)) then (slices_Clone_qG p0.Grants).bind (fun r79 => (idx r79 r40).bind (fun x80 => some ((r79.set (r40).toNat ({ x80 with Option := true })), 0))) else (bif (decide ((p0.Grants.length : Int) ≥ 40)) then some (([] : List qG), 5) else ((slices_Clone_qG p0.Grants).bind (fun r111 => (app 64 r111 ([(⟨p1.Role, p2, p1.Table, p1.Priv, p1.Option⟩ : qG)] : List qG)).bind (fun x112 => some (x112, (0 : Int))))).bind (fun ((s125, s126) : (List qG) × Int) => some (s125, s126))))))))))))
theorem grants_give_ok {p0 : qC} {p1 : qS} {p2 : By8} {w_p0 : W_qC} {w_p1 : W_qS} (h_p0 : ok_qC I p0 w_p0) (h_p1 : ok_qS I p1 w_p1) (hS : St E w I Os) {r : (List qG) × Int} (D : grants_give p0 p1 p2 = some r) :
    Calls P 35 #[(vC p0 w_p0), (vS p1 w_p1), (.string p2)] w (fun e w' => ∃ (I' : Mem) (ra0 : Option Addr) (rc0 : Nat), e = .returned (.tuple #[(Sl ra0 r.1 rc0), (Iv r.2)]) ∧ I.Le I' ∧ St E w' I' Os ∧ RSl 5 R_qG I' ra0 rc0 r.1) := by
 refine calls_W (fn := Tryz.f35) rfl rfl rfl ?_
 unfold grants_give at D
 refine yf nL4 (yad hS (cs_qC p0 w_p0) 29 z fun b1 w4 S3 => yad S3 (cs_qS p1 w_p1) 44 z fun b5 w8 S7 => y7 2 6 (.slice none 0 0) (ya 3 1 z (yz nL10 (yab ((cs_qC p0 w_p0)) (S7.rf m1) z (yg 1 1 [1] z (yj (S7.rf m0) z ?_))))))
 obtain ⟨⟨r14, r15⟩, Xr9, D⟩ := bsm D
 refine yaj (catalog_Find_ok h_p0 S7 Xr9) ?_
 rintro _ w10 ⟨I11, w_r14, rfl, L12, S13, h_r14⟩
 refine cv (ya 4 3 z (yad S13 (cs_qT z_qT zw_qT) 89 z fun b16 w19 S18 => yaf S18 0 (cs_qT r14 w_r14) fun w21 S20 => ya 9 1 z (yz nL11 (yg 0 1 [2] z (yj (S20.rf m2) z (yg 2 1 [3] z (yj (S20.rf m1) z ?_)))))))
 obtain ⟨⟨r27, r28⟩, Xr22, D⟩ := bsm D
 refine yaj (member_Find_ok (RSl.mono h_p0.Roles L12) S20 Xr22) ?_
 rintro _ w23 ⟨I24, w_r27, rfl, L25, S26, h_r27⟩
 refine cv (ya 5 3 z (yad S26 (cs_qJ z_qJ zw_qJ) 62 z fun b29 w32 S31 => yaf S31 0 (cs_qJ r27 w_r27) fun w34 S33 => ya 10 1 z (yz nL5 (yab ((cs_qC p0 w_p0)) (S33.rf m3) z (yab ((cs_qS p1 w_p1)) (S33.rf m2) z (ya 2 1 z (bsk D fun r40 Xr35 D => WO.c1 (grants_place_ok (h_p0.mono le) (h_p1.mono le) S33 Xr35) z fun I37 w36 L38 S39 => ya 4 1 z (yb (yi (yo (yf nL7 (ya 0 3 z (ya3 [3, 4] 5 36 39 (.refl ((!r15) || (!r28))) (fun _ => ya 3 3 z yal) (ya 6 1 z (yb (y6 D (fun G D => ?_) (fun G D => ?_)))))))))))))))))
 exact yf nL2 (y7 0 6 (.slice none 0 0) (ya 1 1 z (yb (yp (yl (ye (sj D ▸ yat ⟨I37, none, 0, rfl, le, S39.d4, SlAt.nil⟩)))))))
 refine yf nL9 (yab ((cs_qC p0 w_p0)) (S39.rf m3) z (yg 1 2 [18] z (yj (S39.rf m2) z (yg 4 1 [1] z (yj (S39.rf m2) z (bsk D fun r52 Xr47 D => WO.c1 (grants_Can_ok (h_p0.mono le) S39 Xr47) z fun I49 w48 L50 S51 => ya 7 2 z (yb (y6 D (fun G D => ?_) (fun G D => ?_)))))))))
 exact yf nL2 (y7 0 6 (.slice none 0 0) (ya 1 1 z (yb (yp (yl (ye (sj D ▸ yat ⟨I49, none, 0, rfl, le, S51.d4, SlAt.nil⟩)))))))
 refine yf nL16 (ya 0 3 z (bsk D fun j57 R1 D => yap (l1 := [3, 4, 5, 6, 7, 8, 9, 10, 11, 12, 13, 14]) (J := JI E I49 [(2, .string p2), (3, Pt b1 0), (4, Pt b5 0), (12, Iv r40), (64, .bool j57)] (bC b1 p0 w_p0 :: (bS b5 p1 w_p1) :: Os)) ?_ ?_))
 refine yao R1 (fun G R1 => ?_) (fun G R1 => ?_)
 refine y4 52 G (yg 3 1 [3] z (yj (S51.rf m3) z (ya 5 1 z ?_)))
 obtain ⟨x61, R1, Hx61, _, rfl, Zx61⟩ := sx I49 h_p0.Grants R1
 exact yac 67 5 Hx61 z (yg 7 1 [4] z (ya2 Zx61 4 S51.rm z (ya 9 1 z (ya3 [10, 11, 12] 13 59 63 (.refl (x61.Option || (!p1.Option))) (fun _ => yg 10 1 [19] z (yj (S51.rf m2) z (ya 12 2 z yal))) (ya 14 1 z (sj R1 ▸ y3 ⟨I49, rfl, lr, S51.d2.front1⟩))))))
 refine y4 52 G ?_
 iterate 11 refine yan ?_
 exact ya 14 1 z (sj R1 ▸ y3 ⟨I49, rfl, lr, S51.d2.front1⟩)
 rintro _ w70 ⟨I59, rfl, L60, S71⟩
 refine ya 15 1 z (yb (y6 D (fun G D => ?_) (fun G D => ?_)))
 exact yf nL2 (y7 0 6 (.slice none 0 0) (ya 1 1 z (yb (yp (yl (ye (sj D ▸ yat ⟨I59, none, 0, rfl, le, S71.d2, SlAt.nil⟩)))))))
 refine yf nL3 (ya 0 3 z (yb (y6 D (fun G D => ?_) (fun G D => ?_))))
 refine yf nL4 (yg 0 1 [3] z (yj (S71.rf m0) z (bsk D fun r79 Xr74 D => yaj (slices_Clone_qG_ok (up h_p0.Grants) S71 Xr74) ?_)))
 rintro _ w75 ⟨I76, a_r79, c_r79, C_r79, rfl, L77, S78, h_r79⟩
 refine cv (ya 3 1 z (yz nL5 (ya 0 2 z ?_)))
 obtain ⟨x80, D, h0_x80, h1_x80, Xx80, ha_x80, _, _, rfl, Zx80⟩ := sl_at (h_r79.sl) D
 refine ybe 67 5 ha_x80 h0_x80 h1_x80 ?_
 refine yg 3 1 [4] z (ya7 S78 h_r79 z kr z Xx80 (u' := { x80 with Option := true }) 4 z z kr z z (fun cs hrel => (by obtain rfl := hrel; exact z)) tv ?_)
 intro w82 C83 S81 ho84
 refine yaa 13 z (show Value.slice a_r79 r79.length c_r79 = Value.slice a_r79 (r79.set (r40).toNat ({ x80 with Option := true })).length c_r79 by simp only [List.length_set]) ?_
 refine yz nL3 (ya 0 1 z ?_)
 obtain ⟨I85, L86, S88, hp87⟩ := OwnSl.pub ho84 S81
 exact ya 1 2 z (yb (yp (yl (ye (sj D ▸ yat ⟨I85, a_r79, c_r79, rfl, le, S88.d2, hp87⟩)))))
 refine yf nL5 (yg 0 1 [3] z (yj (S71.rf m0) z (ya 2 3 z (yb (y6 D (fun G D => ?_) (fun G D => ?_))))))
 exact yf nL2 (y7 0 6 (.slice none 0 0) (ya 1 1 z (yb (yp (yl (ye (sj D ▸ yat ⟨I59, none, 0, rfl, le, S71.d2, SlAt.nil⟩)))))))
 refine ym (yn (yc (yi (bsk D fun j93 R1 D => ya0 (J := (fun fr w => ∃ (s125 : List qG) (s126 : Int), ∃ I95 a_s125 c_s125, (s125, s126) = j93 ∧ fr = [(6, Sl a_s125 s125 c_s125), (7, Iv s126)] ∧ I59.Le I95 ∧ St E w I95 Os ∧ RSl 5 R_qG I95 a_s125 c_s125 s125)) ?_ ?_))))
 have S97 := S71.drew
 refine yb1 (.split 12 2 (.split 13 2 (.leaf [0, 1, 3, 4, 5, 6, 7, 8, 9, 10, 11, 12, 13, 2, 14, 15, 16]) (.leaf [0, 1, 3, 4, 5, 6, 7, 8, 9, 10, 11, 12, 2, 13, 14, 15, 16])) (.leaf [0, 1, 3, 4, 5, 6, 7, 8, 9, 10, 11, 2, 12, 13, 14, 15, 16])) 14 (KR I59 [bC b1 p0 w_p0, bS b5 p1 w_p1]) qR (.back kr) kr (yt (S97.rd m0) (yt (S97.rd m1) (y8 S97.im))) ?_
 generalize World.drew _ = w98 at *
 refine ⟨?_, ?_⟩
 refine ⟨?_, ?_⟩
 show WO _ _ _ _ _ _ _ [0, 1, 3, 4, 5, 6, 7, 8, 9, 10, 11, 12, 13, 2, 14, 15, 16] _ _
 refine yg 0 1 [3] z (yj (rd_c m0 (S97.rd m0)) z (yg 3 1 [3] z (yj (rd_c m1 (S97.rd m1)) z (yg 5 2 [1] z (yj (rd_c m1 (S97.rd m1)) z (yg 8 1 [18] z (yj (rd_c m1 (S97.rd m1)) z (yg 10 1 [19] z (yj (rd_c m1 (S97.rd m1)) z (y7 12 93 (.agg (cs_qG (⟨p1.Role, p2, p1.Table, p1.Priv, p1.Option⟩ : qG)).toArray) (yai (rel := R_qG) (xs := ([(⟨p1.Role, p2, p1.Table, p1.Priv, p1.Option⟩ : qG)] : List qG)) S97 z kr z 67 5 [(cs_qG (⟨p1.Role, p2, p1.Table, p1.Priv, p1.Option⟩ : qG))] kr z ((Elr.cons z Elr.nil)) (fun C100 w104 S103 => (yt (S103.rd m1) (yt (S103.rd m2) (y8 S103.im)))) ?_)))))))))))
 intro a102 C100 w104 S103 ho101
 refine bsk R1 fun r111 Xr106 R1 => yaj (slices_Clone_qG_ok (up h_p0.Grants) S103 Xr106) ?_
 rintro _ w107 ⟨I108, a_r111, c_r111, C_r111, rfl, L109, S110, h_r111⟩
 refine ⟨_, rfl, (yt (S110.rd m2) (yt (S110.rd m3) (y8 (S110.im.of_le L109)))), ?_⟩
 refine WO.tail z (apk R1 fun x112 h0_x112 he_x112 R1 => yaz 67 64 (cs_qG z_qG) S110 h_r111 (ho101.mono L109).sl (S110.rd m1) h0_x112 he_x112 z ?_)
 intro a113 c114 w115 C116 S117 ho118
 obtain ⟨I121, L122, S124, hp123⟩ := OwnSl.pub ho118 S117.front1.drop
 exact ya 15 2 z (yq (yx ⟨x112, 0, I121, a113, c114, sj R1, rfl, le, S124.d2, hp123⟩))
 show WO _ _ _ _ _ _ _ [0, 1, 3, 4, 5, 6, 7, 8, 9, 10, 11, 12, 2, 13, 14, 15, 16] _ _
 refine yg 0 1 [3] z (yj (rd_c m0 (S97.rd m0)) z (yg 3 1 [3] z (yj (rd_c m1 (S97.rd m1)) z (yg 5 2 [1] z (yj (rd_c m1 (S97.rd m1)) z (yg 8 1 [18] z (yj (rd_c m1 (S97.rd m1)) z (yg 10 1 [19] z (yj (rd_c m1 (S97.rd m1)) z (y7 12 93 (.agg (cs_qG (⟨p1.Role, p2, p1.Table, p1.Priv, p1.Option⟩ : qG)).toArray) (bsk R1 fun r134 Xr129 R1 => yaj (slices_Clone_qG_ok (up h_p0.Grants) S97 Xr129) ?_)))))))))))
 rintro _ w130 ⟨I131, a_r134, c_r134, C_r134, rfl, L132, S133, h_r134⟩
 refine ⟨_, rfl, (yt (S133.rd m1) (yt (S133.rd m2) (y8 (S133.im.of_le L132)))), ?_⟩
 refine yai (rel := R_qG) (xs := ([(⟨p1.Role, p2, p1.Table, p1.Priv, p1.Option⟩ : qG)] : List qG)) S133 z kr z 67 5 [(cs_qG (⟨p1.Role, p2, p1.Table, p1.Priv, p1.Option⟩ : qG))] kr z ((Elr.cons z Elr.nil)) (fun C136 w140 S139 => (yt (S139.rd m2) (yt (S139.rd m3) (y8 (S139.im.of_le L132))))) ?_
 intro a138 C136 w140 S139 ho137
 refine WO.tail z (have S142 := S139.front1; apk R1 fun x143 h0_x143 he_x143 R1 => yaz 67 64 (cs_qG z_qG) S142 h_r134 ho137.sl (S142.rd m1) h0_x143 he_x143 z ?_)
 intro a144 c145 w146 C147 S148 ho149
 obtain ⟨I152, L153, S155, hp154⟩ := OwnSl.pub ho149 S148.front1.drop
 exact ya 15 2 z (yq (yx ⟨x143, 0, I152, a144, c145, sj R1, rfl, le, S155.d2, hp154⟩))
 show WO _ _ _ _ _ _ _ [0, 1, 3, 4, 5, 6, 7, 8, 9, 10, 11, 2, 12, 13, 14, 15, 16] _ _
 refine yg 0 1 [3] z (yj (rd_c m0 (S97.rd m0)) z (yg 3 1 [3] z (yj (rd_c m1 (S97.rd m1)) z (yg 5 2 [1] z (yj (rd_c m1 (S97.rd m1)) z (yg 8 1 [18] z (yj (rd_c m1 (S97.rd m1)) z (yg 10 1 [19] z (yj (rd_c m1 (S97.rd m1)) z (bsk R1 fun r163 Xr158 R1 => yaj (slices_Clone_qG_ok (up h_p0.Grants) S97 Xr158) ?_))))))))))
 rintro _ w159 ⟨I160, a_r163, c_r163, C_r163, rfl, L161, S162, h_r163⟩
 refine ⟨_, rfl, (yt (S162.rd m1) (yt (S162.rd m2) (y8 (S162.im.of_le L161)))), ?_⟩
 refine y7 12 93 (.agg (cs_qG (⟨p1.Role, p2, p1.Table, p1.Priv, p1.Option⟩ : qG)).toArray) (yai (rel := R_qG) (xs := ([(⟨p1.Role, p2, p1.Table, p1.Priv, p1.Option⟩ : qG)] : List qG)) S162 z kr z 67 5 [(cs_qG (⟨p1.Role, p2, p1.Table, p1.Priv, p1.Option⟩ : qG))] kr z ((Elr.cons z Elr.nil)) (fun C165 w169 S168 => (yt (S168.rd m2) (yt (S168.rd m3) (y8 (S168.im.of_le L161))))) ?_)
 intro a167 C165 w169 S168 ho166
 refine WO.tail z (have S171 := S168.front1; apk R1 fun x172 h0_x172 he_x172 R1 => yaz 67 64 (cs_qG z_qG) S171 h_r163 ho166.sl (S171.rd m1) h0_x172 he_x172 z ?_)
 intro a173 c174 w175 C176 S177 ho178
 obtain ⟨I181, L182, S184, hp183⟩ := OwnSl.pub ho178 S177.front1.drop
 exact ya 15 2 z (yq (yx ⟨x172, 0, I181, a173, c174, sj R1, rfl, le, S184.d2, hp183⟩))
 rintro _ w187 ⟨s125, s126, I95, a_s125, c_s125, rfl, rfl, L96, S188, h_s125⟩
 exact yc (yp (sj D ▸ yat ⟨I95, a_s125, c_s125, rfl, le, S188, h_s125⟩))
theorem del68_ok {E w : World} {I C : Mem} {Os : List Mem} {xs : List qG} {a : Option Addr} {cap : Nat} (h : OwnSl 67 5 R_qG I C a cap xs) (hS : St E w I (C :: Os)) {p q : Nat} (hpq : p < q) (hq : q ≤ xs.length) :
    Calls P 68 #[.slice a xs.length cap, .int .i64 (p : Int), .int .i64 (q : Int)] w (fun e w' => ∃ (C' : Mem), e = .returned (.slice a (xs.take p ++ xs.drop q).length cap) ∧ St E w' I (C' :: Os) ∧ OwnSl 67 5 R_qG I C' a cap (xs.take p ++ xs.drop q)) := by
 have hxl := h.sl.le
 have hxc := h.sl.lt
 have hlen : (xs.take p ++ xs.drop q).length = p + (xs.length - q) := by simp; omega
 refine calls_W (fn := Tryz.f68) rfl rfl rfl ?_
 refine yf [0] (y7 0 6 (.slice none 0 0) (yz nL6 (WO.vs 0 [(8, Sl a xs cap), (9, Iv (p : Int)), (10, Iv (q : Int)), (11, Sl a xs cap), (12, Nv xs.length)] (WO.slice3 (e := 67) (sz := 5) z kr kr kr z p q xs.length z z z (by omega) hq hxl ?_))))
 refine yb (yi (yf nL3 (WO.vs 0 [(14, Iv (p : Int)), (15, Iv (q : Int)), (16, .bool ((p : Int) == (q : Int)))] (yb (ybz (fun G => ?_) (fun G => ?_))))))
 exfalso
 simp at G
 omega
 clear G
 refine ym (yc (yf nL3 (WO.vs 0 [(18, Sl a xs cap), (19, Nv xs.length), (7, Nv xs.length)] (yb (yi (have S1 := hS.drew; ybd nL8 6 (y8 S1.im) ?_))))))
 generalize World.drew _ = w1 at *
 refine WO.vs 0 [(20, Sl a xs cap), (21, Iv (p : Int))] (ya4 (e := 67) (sz := 5) z kr kr kr z (0 : Int) (p : Int) (by omega) (.inl ⟨rfl, rfl⟩) (.inr ⟨_, _, rfl, rfl⟩) (by omega) (by omega) ?_)
 refine WO.vs 3 [(23, Sl a xs cap), (24, Iv (q : Int))] (ya4 (e := 67) (sz := 5) z kr kr kr z (q : Int) (xs.length : Int) (by omega) (.inr ⟨_, _, rfl, rfl⟩) (.inl ⟨rfl, rfl⟩) (by omega) (by omega) ?_)
 refine WO.tail z (yb3 (T := 67) (e' := 67) (b := 64) (zs := #[(.string eB), (.string eB), (.string eB), (Iv 0), (.bool false)]) S1 h z kr z kr kr kr (Nat.le_of_lt hpq) hq z z tv ?_)
 intro w2 C2 S2 h2
 refine y7 7 0 (.slice a (p + (xs.length - q)) cap) (yb ?_)
 have hfl : (xs.take p ++ xs.drop q ++ xs.drop (p + (xs.length - q))).length = xs.length := by simp; omega
 refine yf nL6 (WO.vs 0 [(27, .slice a (p + (xs.length - q)) cap), (28, .slice a (p + (xs.length - q)) cap), (29, Iv ((p + (xs.length - q) : Nat) : Int)), (30, Nv xs.length)] (ya4 (e := 67) (sz := 5) z kr kr kr z ((p + (xs.length - q) : Nat) : Int) (xs.length : Int) (by omega) (.inr ⟨_, _, rfl, rfl⟩) (.inr ⟨_, _, rfl, rfl⟩) (by omega) (by omega) ?_))
 refine WO.clear S2 h2 (e := 67) kr (zs := [(.string eB), (.string eB), (.string eB), (Iv 0), (.bool false)]) kr (z0 := z_qG) z kr kr kr z kr z (lo := p + (xs.length - q)) (by rw [hfl]; omega) (by rw [hfl]; rfl) tv ?_
 intro w3 C3 S3 h3
 refine yz nL2 (WO.vs 0 [(32, .slice a (p + (xs.length - q)) cap), (6, .slice a (p + (xs.length - q)) cap)] (yb (yp ?_)))
 rw [hlen]
 refine yy ⟨C3, rfl, S3, ?_⟩
 have h4 := h3.shorter (p + (xs.length - q))
 rwa [List.take_append_of_le_length (by rw [List.length_take, hfl]; omega), List.take_take, Nat.min_self, List.take_append_of_le_length (by rw [hlen]; exact Nat.le_refl _), List.take_of_length_le (by rw [hlen]; exact Nat.le_refl _)] at h4
def slices_Delete_qG (p0 : List qG) (p1 p2 : Int) : Option (List qG) := delO p0 p1 p2
theorem slices_Delete_qG_ok {p0 : List qG} {p1 p2 : Int} {a_p0 : Option Addr} {c_p0 : Nat} {C_p0 : Mem} (h_p0 : OwnSl 67 5 R_qG I C_p0 a_p0 c_p0 p0) (hS : St E w I (C_p0 :: Os)) {r : List qG} (D : slices_Delete_qG p0 p1 p2 = some r) :
    Calls P 68 #[.slice a_p0 p0.length c_p0, .int .i64 p1, .int .i64 p2] w (fun e w' => ∃ (I' : Mem) (ra0 : Option Addr) (rc0 : Nat) (rC0 : Mem), e = .returned (.slice ra0 r.length rc0) ∧ I.Le I' ∧ St E w' I' (rC0 :: Os) ∧ OwnSl 67 5 R_qG I' rC0 ra0 rc0 r) := by
  obtain ⟨p, q, rfl, rfl, h1, h2, rfl⟩ := delO_some D
  refine (del68_ok h_p0 hS h1 h2).mono ?_
  rintro e w' ⟨C', rfl, hS', ho⟩
  exact ⟨I, a_p0, c_p0, C', rfl, Mem.Le.refl _, hS', ho⟩
def grants_take (p0 : qC) (p1 : qS) (p2 : By8) : Option ((List qG) × Int) := (grants_place p0 p1 p2).bind (fun r14 => (bif (decide (r14 < 0)) then some (([] : List qG), 4) else (slices_Clone_qG p0.Grants).bind (fun r22 => (slices_Delete_qG r22 r14 (w64 (r14 + 1))).bind (fun r28 => some (r28, 0)))))
theorem grants_take_ok {p0 : qC} {p1 : qS} {p2 : By8} {w_p0 : W_qC} {w_p1 : W_qS} (h_p0 : ok_qC I p0 w_p0) (h_p1 : ok_qS I p1 w_p1) (hS : St E w I Os) {r : (List qG) × Int} (D : grants_take p0 p1 p2 = some r) :
    Calls P 36 #[(vC p0 w_p0), (vS p1 w_p1), (.string p2)] w (fun e w' => ∃ (I' : Mem) (ra0 : Option Addr) (rc0 : Nat), e = .returned (.tuple #[(Sl ra0 r.1 rc0), (Iv r.2)]) ∧ I.Le I' ∧ St E w' I' Os ∧ RSl 5 R_qG I' ra0 rc0 r.1) := by
 refine calls_W (fn := Tryz.f36) rfl rfl rfl ?_
 unfold grants_take at D
 refine yf nL4 (yad hS (cs_qC p0 w_p0) 29 z fun b1 w4 S3 => yad S3 (cs_qS p1 w_p1) 44 z fun b5 w8 S7 => y7 2 6 (.slice none 0 0) (ya 3 1 z (yz nL5 (yab ((cs_qC p0 w_p0)) (S7.rf m1) z (yab ((cs_qS p1 w_p1)) (S7.rf m0) z (ya 2 1 z (bsk D fun r14 Xr9 D => WO.c1 (grants_place_ok h_p0 h_p1 S7 Xr9) z fun I11 w10 L12 S13 => ya 4 1 z (yb (yi (yf nL2 (ya 0 2 z (yb (y6 D (fun G D => ?_) (fun G D => ?_))))))))))))))
 exact yf nL2 (y7 0 6 (.slice none 0 0) (ya 1 1 z (yb (yp (ye (sj D ▸ yat ⟨I11, none, 0, rfl, L12, S13.d2, SlAt.nil⟩))))))
 refine ym (yc (yf nL9 (yg 0 1 [3] z (yj (S13.rf m1) z (bsk D fun r22 Xr17 D => yaj (slices_Clone_qG_ok (RSl.mono h_p0.Grants L12) S13 Xr17) ?_)))))
 rintro _ w18 ⟨I19, a_r22, c_r22, C_r22, rfl, L20, S21, h_r22⟩
 refine cv (ya 3 3 z (bsk D fun r28 Xr23 D => yaj (slices_Delete_qG_ok h_r22 S21 Xr23) ?_))
 rintro _ w24 ⟨I25, a_r28, c_r28, C_r28, rfl, L26, S27, h_r28⟩
 refine cv ?_
 obtain ⟨I29, L30, S32, hp31⟩ := OwnSl.pub h_r28 S27
 exact ya 7 2 z (yb (yp (sj D ▸ yat ⟨I29, a_r28, c_r28, rfl, le, S32.d2, hp31⟩)))
noncomputable def grants_Trim (p0 : qC) : Option qC := (grants_Held p0).bind (fun r14 => some { p0 with Grants := r14 })
theorem grants_Trim_ok {p0 : qC} {w_p0 : W_qC} (h_p0 : ok_qC I p0 w_p0) (hS : St E w I Os) {r : qC} (D : grants_Trim p0 = some r) :
    Calls P 20 #[(vC p0 w_p0)] w (fun e w' => ∃ I' w_rw0, e = .returned (vC r w_rw0) ∧ I.Le I' ∧ St E w' I' Os ∧ ok_qC I' r w_rw0) := by
 refine calls_W (fn := Tryz.f20) rfl rfl rfl ?_
 unfold grants_Trim at D
 refine yf nL2 (yad hS (cs_qC p0 w_p0) 29 z fun b1 w4 S3 => yad S3 (cs_qC z_qC zw_qC) 29 z fun b5 w8 S7 => yz nL4 (yab ((cs_qC p0 w_p0)) (S7.rf m1) z (bsk D fun r14 Xr9 D => yaj (grants_Held_ok h_p0 S7 Xr9) ?_)))
 rintro _ w10 ⟨I11, a_r14, c_r14, rfl, L12, S13, h_r14⟩
 refine cv (yg 2 1 [3] z (yaf S13.front1 3 (cs_qC ({ p0 with Grants := r14 }) ({ w_p0 with Grants := ⟨a_r14, c_r14⟩ })) fun w17 S16 => yz nL2 (yab ((cs_qC ({ p0 with Grants := r14 }) ({ w_p0 with Grants := ⟨a_r14, c_r14⟩ }))) (S16.rf m0) z (yaf S16.front1 0 (cs_qC ({ p0 with Grants := r14 }) ({ w_p0 with Grants := ⟨a_r14, c_r14⟩ })) fun w20 S19 => yb (yp ?_)))))
 have hk23 : ok_qC I11 ({ p0 with Grants := r14 }) ({ w_p0 with Grants := ⟨a_r14, c_r14⟩ }) := ⟨(RSl.mono h_p0.Tables L12), (RSl.mono h_p0.Roles L12), h_r14⟩
 exact sj D ▸ En.c1 _ (S19.rd m0) ⟨I11, ({ w_p0 with Grants := ⟨a_r14, c_r14⟩ }), rfl, L12, S19.d2, hk23⟩
noncomputable def grants_Make (p0 : qC) (p1 : qS) (p2 : By8) (p3 : Int) : Option (qC × Int) := (bif ((decide (p1.Kind < 10)) || (decide (p1.Kind > 15))) then some (z_qC, 2) else (member_Find p0.Roles p2).bind (fun (r25, r26) => (bif (!r26) then some (z_qC, 4) else ((((bif (p1.Kind == 10) then some (p1.Kind == 10) else ((bif (p1.Kind == 11) then some (p1.Kind == 11) else some (p1.Kind == 12))).bind (fun (j63 : Bool) => some j63))).bind (fun (j54 : Bool) => (bif j54 then some (.inl ()) else (bif (p1.Kind == 13) then some (.inl ()) else (bif (p1.Kind == 14) then some (.inr (.inl ())) else some (.inr (.inr ()))))))).bind (fun (t : Unit ⊕ Unit ⊕ Unit) => match t with | (.inl ()) => (member_Is p0.Roles p2 (⟨#[114, 111, 111, 116]⟩ : By8)).bind (fun r155 => (bif (!r155) then some (.inr (36, z_qC, p0)) else (grants_roles p0 p1).bind (fun (r177, r178) => some (.inl (r178, z_qC, { p0 with Roles := r177 }))))) | (.inr (.inl ())) => (grants_give p0 p1 p2).bind (fun (r87, r88) => some (.inl (r88, z_qC, { p0 with Grants := r87 }))) | (.inr (.inr ())) => (grants_take p0 p1 p2).bind (fun (r122, r123) => some (.inl (r123, z_qC, { p0 with Grants := r122 }))))).bind (fun (t : (Int × qC × qC) ⊕ (Int × qC × qC)) => match t with | (.inl (s91, s92, s93)) => ((bif ((s91 == 0) && (decide (p0.Version ≥ p3))) then some 52 else some s91)).bind (fun (j191 : Int) => (bif (j191 != 0) then some (z_qC, j191) else (grants_Trim ({ s93 with Version := (w64 (p0.Version + 1)) })).bind (fun r212 => some (r212, 0)))) | (.inr (s160, s161, s162)) => some (s161, s160)))))
theorem grants_Make_ok {p0 : qC} {p1 : qS} {p2 : By8} {p3 : Int} {w_p0 : W_qC} {w_p1 : W_qS} (h_p0 : ok_qC I p0 w_p0) (h_p1 : ok_qS I p1 w_p1) (hS : St E w I Os) {r : qC × Int} (D : grants_Make p0 p1 p2 p3 = some r) :
    Calls P 11 #[(vC p0 w_p0), (vS p1 w_p1), (.string p2), (Iv p3)] w (fun e w' => ∃ I' w_rw0, e = .returned (.tuple #[(vC r.1 w_rw0), (Iv r.2)]) ∧ I.Le I' ∧ St E w' I' Os ∧ ok_qC I' r.1 w_rw0) := by
 refine calls_W (fn := Tryz.f11) rfl rfl rfl ?_
 unfold grants_Make at D
 refine yf nL4 (yad hS (cs_qC p0 w_p0) 29 z fun b1 w4 S3 => yad S3 (cs_qS p1 w_p1) 44 z fun b5 w8 S7 => yad S7 (cs_qC z_qC zw_qC) 29 z fun b9 w12 S11 => ya 3 1 z (yb (yi (yf nL8 (yg 0 1 [0] z (yj (S11.rf m1) z (ya 2 2 z (ya3 [4, 5, 6] 7 17 21 (.refl ((decide (p1.Kind < 10)) || (decide (p1.Kind > 15)))) (fun _ => yg 4 1 [0] z (yj (S11.rf m1) z (ya 6 2 z yal))) (yb (y6 D (fun G D => ?_) (fun G D => ?_)))))))))))
 exact yf nL3 (y7 0 22 (vC z_qC zw_qC) (yaf S11 0 (cs_qC z_qC zw_qC) fun w16 S15 => ya 2 1 z (yb (yp (ye (sj D ▸ yba _ (S15.rd m0) ⟨I, zw_qC, rfl, lr, S15.d3, zok_qC⟩))))))
 refine ym (yc (yi (yf nL10 (yg 0 1 [2] z (yj (S11.rf m2) z (ya 2 1 z ?_))))))
 obtain ⟨⟨r25, r26⟩, Xr20, D⟩ := bsm D
 refine yaj (member_Find_ok h_p0.Roles S11 Xr20) ?_
 rintro _ w21 ⟨I22, w_r25, rfl, L23, S24, h_r25⟩
 refine cv (ya 4 3 z (yad S24 (cs_qJ z_qJ zw_qJ) 62 z fun b27 w30 S29 => yaf S29 0 (cs_qJ r25 w_r25) fun w32 S31 => ya 9 1 z (yz nL2 (ya 0 2 z (yb (y6 D (fun G D => ?_) (fun G D => ?_)))))))
 exact yf nL3 (y7 0 32 (vC z_qC zw_qC) (yaf S31.front1 0 (cs_qC z_qC zw_qC) fun w35 S34 => ya 2 1 z (yb (yp (ye (sj D ▸ yba _ (S34.rd m0) ⟨I22, zw_qC, rfl, L23, S34.d4, zok_qC⟩))))))
 refine ym (yc (yf nL3 (yab ((cs_qC p0 w_p0)) (S31.rf m3) z (yad S31 (cs_qC z_qC zw_qC) 29 z fun b40 w43 S42 => yaf S42 0 (cs_qC p0 w_p0) fun w45 S44 => yz [0] (ya 0 1 z (yb (yi (yf nL2 (yg 0 1 [0] z (yj (S44.rf m3) z (yb (bsk D fun j46 R1 D => ya0 (J := (fun fr w => ∃ (s91 : Int) (s92 : qC) (s93 : qC), ∃ I48 w_s92 w_s93, (.inl (s91, s92, s93)) = j46 ∧ fr = [(3, Iv p3), (4, Pt b1 0), (8, Pt b9 0), (12, Pt b40 0), (13, Iv s91)] ∧ I22.Le I48 ∧ St E w I48 (bC b1 p0 w_p0 :: (bC b9 s92 w_s92) :: (bC b40 s93 w_s93) :: Os) ∧ ok_qC I48 s92 w_s92 ∧ ok_qC I48 s93 w_s93)) ?_ ?_))))))))))))
 refine yo (yi (yo (yi (yo (yi (bsk R1 fun j50 R2 R1 => ya0 (J := (fun fr w => ∃ I52, (.inl ()) = j50 ∧ fr = [(2, .string p2), (3, Iv p3), (4, Pt b1 0), (5, Pt b5 0), (8, Pt b9 0), (12, Pt b40 0)] ∧ I22.Le I52 ∧ St E w I52 (bC b1 p0 w_p0 :: (bS b5 p1 w_p1) :: (bC b9 z_qC zw_qC) :: (bC b40 p0 w_p0) :: Os))) ?_ ?_))))))
 refine yo (yo (yi (yi (yi (yf nL2 (ya 0 2 z (yb (bsk R2 fun j54 R3 R2 => ya0 (J := JI E I22 [(2, .string p2), (3, Iv p3), (4, Pt b1 0), (5, Pt b5 0), (8, Pt b9 0), (12, Pt b40 0), (35, Iv p1.Kind), (36, .bool j54)] (bC b1 p0 w_p0 :: (bS b5 p1 w_p1) :: (bC b9 z_qC zw_qC) :: (bC b40 p0 w_p0) :: Os)) ?_ ?_))))))))
 refine y6 R3 (fun G R3 => ?_) (fun G R3 => ?_)
 exact ym (sj R3 ▸ yx ⟨I22, rfl, lr, S44.front1.drop.front1.front2.front3⟩)
 refine yf nL2 (ya 0 2 z (yb (bsk R3 fun j63 R4 R3 => ya0 (J := JI E I22 [(2, .string p2), (3, Iv p3), (4, Pt b1 0), (5, Pt b5 0), (8, Pt b9 0), (12, Pt b40 0), (35, Iv p1.Kind), (36, .bool j63)] (bC b1 p0 w_p0 :: (bS b5 p1 w_p1) :: (bC b9 z_qC zw_qC) :: (bC b40 p0 w_p0) :: Os)) ?_ ?_)))
 refine y6 R4 (fun G R4 => ?_) (fun G R4 => ?_)
 exact ym (sj R4 ▸ yx ⟨I22, rfl, lr, S44.front1.drop.front1.front2.front3⟩)
 exact yak nL2 (ya 0 2 z (yq (sj R4 ▸ yx ⟨I22, rfl, lr, S44.front1.drop.front1.front2.front3⟩)))
 rintro _ w77 ⟨I65, rfl, L66, S78⟩
 exact sj R3 ▸ yx ⟨I65, rfl, L66, S78⟩
 rintro _ w79 ⟨I56, rfl, L57, S80⟩
 refine yc (y6 R2 (fun G R2 => ?_) (fun G R2 => ?_))
 exact yae (yr (yr (yv (yn (yx ⟨I56, sj R2, rfl, L57, S80⟩)))))
 refine ym (yc (yi (yf nL2 (ya 0 2 z (yb (y6 R2 (fun G R2 => ?_) (fun G R2 => ?_)))))))
 refine yae (yr (yr (ybc z ?_)))
 exact yv (yx ⟨I56, sj R2, rfl, L57, S80⟩)
 refine ym (yc (yf nL2 (ya 0 2 z (yb (y6 R2 (fun G R2 => ?_) (fun G R2 => ?_))))))
 refine yae (yr (ybc z ?_))
 refine ybc z ?_
 refine yu ?_
 obtain rfl := sj R2
 refine yr (yv (yc (yf nL10 (yab ((cs_qC p0 w_p0)) (S80.rf m0) z (yab ((cs_qS p1 w_p1)) (S80.rf m1) z (ya 2 1 z ?_))))))
 obtain ⟨⟨r106, r107⟩, Xr101, R1⟩ := bsm R1
 refine yaj (grants_give_ok (h_p0.mono le) (h_p1.mono le) S80 Xr101) ?_
 rintro _ w102 ⟨I103, a_r106, c_r106, rfl, L104, S105, h_r106⟩
 refine cv (yg 4 4 [3] z (yaf S105.front3 3 (cs_qC ({ p0 with Grants := r106 }) ({ w_p0 with Grants := ⟨a_r106, c_r106⟩ })) fun w110 S109 => ya 9 1 z (yb (yae (ybc z ?_)))))
 refine yr (yv ?_)
 have hk111 : ok_qC I103 ({ p0 with Grants := r106 }) ({ w_p0 with Grants := ⟨a_r106, c_r106⟩ }) := ⟨(RSl.mono h_p0.Tables ((L23.trans L57).trans L104)), (RSl.mono h_p0.Roles ((L23.trans L57).trans L104)), h_r106⟩
 exact yx ⟨r107, z_qC, { p0 with Grants := r106 }, I103, zw_qC, ({ w_p0 with Grants := ⟨a_r106, c_r106⟩ }), sj R1, rfl, le, S109.front2.drop.front2.front2, zok_qC, hk111⟩
 refine ym (yc (yae (ybc z ?_)))
 refine ybc z ?_
 refine yu ?_
 obtain rfl := sj R2
 refine yr (ybc z ?_)
 refine yr (yv (yc (yf nL10 (yab ((cs_qC p0 w_p0)) (S80.rf m0) z (yab ((cs_qS p1 w_p1)) (S80.rf m1) z (ya 2 1 z ?_))))))
 obtain ⟨⟨r138, r139⟩, Xr133, R1⟩ := bsm R1
 refine yaj (grants_take_ok (h_p0.mono le) (h_p1.mono le) S80 Xr133) ?_
 rintro _ w134 ⟨I135, a_r138, c_r138, rfl, L136, S137, h_r138⟩
 refine cv (yg 4 4 [3] z (yaf S137.front3 3 (cs_qC ({ p0 with Grants := r138 }) ({ w_p0 with Grants := ⟨a_r138, c_r138⟩ })) fun w142 S141 => ya 9 1 z (yb (yae (yv ?_)))))
 have hk143 : ok_qC I135 ({ p0 with Grants := r138 }) ({ w_p0 with Grants := ⟨a_r138, c_r138⟩ }) := ⟨(RSl.mono h_p0.Tables ((L23.trans L57).trans L136)), (RSl.mono h_p0.Roles ((L23.trans L57).trans L136)), h_r138⟩
 exact yx ⟨r139, z_qC, { p0 with Grants := r138 }, I135, zw_qC, ({ w_p0 with Grants := ⟨a_r138, c_r138⟩ }), sj R1, rfl, le, S141.front2.drop.front2.front2, zok_qC, hk143⟩
 rintro _ w148 ⟨I52, rfl, rfl, L53, S149⟩
 refine yc (yi (yi (yf nL5 (yg 0 1 [2] z (yj (S149.rf m0) z (ya 2 1 z (bsk R1 fun r155 Xr150 R1 => WO.c1 (member_Is_ok (up h_p0.Roles) S149 Xr150) z fun I152 w151 L153 S154 => ya 4 1 z (yb (y6 R1 (fun G R1 => ?_) (fun G R1 => ?_))))))))))
 refine yf nL3 (y7 0 49 (vC z_qC zw_qC) (yaf S154.front2 0 (cs_qC z_qC zw_qC) fun w158 S157 => ya 2 1 z (yb (yp (ye (ye (yl (ye (yl (ye (yl (yw ?_))))))))))))
 obtain rfl := sj R1
 exact ye (sj D ▸ yba _ (S157.rd m0) ⟨I152, zw_qC, rfl, le, S157.d4, zok_qC⟩)
 refine ym (yc (yak nL9 (yab ((cs_qC p0 w_p0)) (S154.rf m0) z (yab ((cs_qS p1 w_p1)) (S154.rf m1) z ?_))))
 obtain ⟨⟨r177, r178⟩, Xr172, R1⟩ := bsm R1
 refine yaj (grants_roles_ok (h_p0.mono le) (h_p1.mono le) S154 Xr172) ?_
 rintro _ w173 ⟨I174, a_r177, c_r177, rfl, L175, S176, h_r177⟩
 refine cv (yg 3 4 [2] z (yaf S176.front3 2 (cs_qC ({ p0 with Roles := r177 }) ({ w_p0 with Roles := ⟨a_r177, c_r177⟩ })) fun w181 S180 => ya 8 1 z (yb (yae (ybc z ?_)))))
 refine yr (ybc z ?_)
 refine yr (yv ?_)
 have hk182 : ok_qC I174 ({ p0 with Roles := r177 }) ({ w_p0 with Roles := ⟨a_r177, c_r177⟩ }) := ⟨(RSl.mono h_p0.Tables (((L23.trans L53).trans L153).trans L175)), h_r177, (RSl.mono h_p0.Grants (((L23.trans L53).trans L153).trans L175))⟩
 exact yx ⟨r178, z_qC, { p0 with Roles := r177 }, I174, zw_qC, ({ w_p0 with Roles := ⟨a_r177, c_r177⟩ }), sj R1, rfl, le, S180.front2.drop.front2.front2, zok_qC, hk182⟩
 rintro _ w187 ⟨s91, s92, s93, I48, w_s92, w_s93, rfl, rfl, L49, S188, h_s92, h_s93⟩
 refine yc (yi (yf nL8 (ya 0 3 z (yay [3, 4, 5, 6] 7 75 80 (.refl ((s91 == 0) && (decide (p0.Version ≥ p3)))) (fun _ => yg 3 1 [0] z (yj (S188.rf m0) z (ya 5 3 z yal))) (yb (bsk D fun j191 R1 D => ya0 (J := JI E I48 [(4, Pt b1 0), (8, Pt b9 0), (12, Pt b40 0), (13, Iv j191)] (bC b1 p0 w_p0 :: (bC b9 s92 w_s92) :: (bC b40 s93 w_s93) :: Os)) ?_ ?_))))))
 refine y6 R1 (fun G R1 => ?_) (fun G R1 => ?_)
 exact yak [0] (ya 0 1 z (yq (sj R1 ▸ yx ⟨I48, rfl, lr, S188⟩)))
 exact ym (sj R1 ▸ yx ⟨I48, rfl, lr, S188⟩)
 rintro _ w195 ⟨I193, rfl, L194, S196⟩
 refine yc (yi (yf nL2 (ya 0 2 z (yb (y6 D (fun G D => ?_) (fun G D => ?_))))))
 exact yf nL4 (y7 0 83 (vC z_qC zw_qC) (ya 1 1 z (yaf S196.front1 0 (cs_qC z_qC zw_qC) fun w199 S198 => ya 3 1 z (yb (yp (ye (sj D ▸ yba _ (S198.rd m0) ⟨I193, zw_qC, rfl, le, S198.d3, zok_qC⟩)))))))
 refine ym (yc (yf nL5 (yg 0 1 [0] z (yj (S196.rf m0) z (yg 2 2 [0] z (yaf S196.front2 0 (cs_qC ({ s93 with Version := (w64 (p0.Version + 1)) }) w_s93) fun w205 S204 => yz nL4 (yab ((cs_qC ({ s93 with Version := (w64 (p0.Version + 1)) }) w_s93)) (S204.rf m0) z ?_)))))))
 have hk206 : ok_qC I193 ({ s93 with Version := (w64 (p0.Version + 1)) }) w_s93 := ⟨(RSl.mono h_s93.Tables L194), (RSl.mono h_s93.Roles L194), (RSl.mono h_s93.Grants L194)⟩
 refine bsk D fun r212 Xr207 D => yaj (grants_Trim_ok hk206 S204 Xr207) ?_
 rintro _ w208 ⟨I209, w_r212, rfl, L210, S211, h_r212⟩
 exact cv (yaf S211.front2 0 (cs_qC r212 w_r212) fun w215 S214 => ya 3 1 z (yb (yp (sj D ▸ yba _ (S214.rd m0) ⟨I209, w_r212, rfl, le, S214.d3, h_r212⟩))))
noncomputable def grants_May (p0 : qC) (p1 : By8) (p2 : Int) (p3 : By8) : Option Bool := (grants_Owns p0 p1 p3).bind (fun r12 => ((bif r12 then some true else (grants_Held p0).bind (fun r22 => (grants_has p0 r22 p1 p2 p3 false).bind (fun r28 => some r28)))).bind (fun (j13 : Bool) => some j13))
theorem grants_May_ok {p0 : qC} {p1 : By8} {p2 : Int} {p3 : By8} {w_p0 : W_qC} (h_p0 : ok_qC I p0 w_p0) (hS : St E w I Os) {r : Bool} (D : grants_May p0 p1 p2 p3 = some r) :
    Calls P 23 #[(vC p0 w_p0), (.string p1), (Iv p2), (.string p3)] w (RT E I Os (.bool r)) := by
 refine calls_W (fn := Tryz.f23) rfl rfl rfl ?_
 unfold grants_May at D
 refine yf nL2 (yad hS (cs_qC p0 w_p0) 29 z fun b1 w4 S3 => ya 1 1 z (yb (yi (have S5 := S3.drew; ybd nL14 13 (yt (S5.rd m0) (y8 S5.im)) ?_))))
 generalize World.drew _ = w6 at *
 refine yab ((cs_qC p0 w_p0)) (rd_c m0 (S5.rd m0)) z (ya 1 2 z (bsk D fun r12 Xr7 D => yaj (grants_Owns_ok h_p0 S5 Xr7) ?_))
 rintro _ w8 ⟨I9, rfl, L10, S11⟩
 refine ⟨_, rfl, (yt (S11.rd m0) (y8 (S11.im.of_le L10))), ?_⟩
 refine ya 4 1 z (bsk D fun j13 R1 D => yap (l1 := [5, 6, 7, 8, 9, 10, 11, 12]) (J := JI E I9 [(21, .bool j13)] (bC b1 p0 w_p0 :: Os)) ?_ ?_)
 refine yao R1 (fun G R1 => ?_) (fun G R1 => ?_)
 refine y4 13 G ?_
 iterate 7 refine yan ?_
 exact ya 12 1 z (sj R1 ▸ y3 ⟨I9, rfl, lr, S11⟩)
 refine y4 13 G (yab ((cs_qC p0 w_p0)) (rd_c m0 (S11.rd m0)) z (yab ((cs_qC p0 w_p0)) (rd_c m0 (S11.rd m0)) z (bsk R1 fun r22 Xr17 R1 => yaj (grants_Held_ok (h_p0.mono L10) S11 Xr17) ?_)))
 rintro _ w18 ⟨I19, a_r22, c_r22, rfl, L20, S21, h_r22⟩
 refine ⟨_, rfl, (yt (S21.rd m0) (y8 (S21.im.of_le le))), ?_⟩
 refine ya 8 3 z (bsk R1 fun r28 Xr23 R1 => yaj (grants_has_ok (h_p0.mono le) h_r22 S21 Xr23) ?_)
 rintro _ w24 ⟨I25, rfl, L26, S27⟩
 refine ⟨_, rfl, (yt (S27.rd m0) (y8 (S27.im.of_le le))), ?_⟩
 exact ya 12 1 z (sj R1 ▸ y3 ⟨I25, rfl, le, S27⟩)
 rintro _ w29 ⟨I15, rfl, L16, S30⟩
 exact WO.tail z (ya 13 1 z (yb (yp (sj D ▸ yy ⟨I15, rfl, le, S30.drop⟩))))
def law19_works_1 (p0 : By8) (p1 : By8) : Option law19_Act := some (⟨{ z_qS with Kind := 14, Table := (⟨#[116]⟩ : By8), Role := p1, Priv := 1, Option := true }, p0⟩ : law19_Act)
theorem law19_works_1_ok {p0 : By8} {p1 : By8} (hS : St E w I Os) {r : law19_Act} (D : law19_works_1 p0 p1 = some r) :
    Calls P 29 #[(.string p0), (.string p1)] w (fun e w' => ∃ I' w_rw0, e = .returned (.agg (cs_law19_Act r w_rw0).toArray) ∧ I.Le I' ∧ St E w' I' Os ∧ ok_law19_Act I' r w_rw0) := by
 refine calls_W (fn := Tryz.f29) rfl rfl rfl ?_
 unfold law19_works_1 at D
 refine yf [0] (yad hS (cs_law19_Act z_law19_Act zw_law19_Act) 46 z fun b1 w4 S3 => yz nL5 (ya 0 1 z (y7 1 6 (.agg (cs_qS ({ z_qS with Kind := 14, Table := (⟨#[116]⟩ : By8), Role := p1, Priv := 1, Option := true }) zw_qS).toArray) (ya 2 1 z (y7 3 8 (.agg (cs_law19_Act (⟨{ z_qS with Kind := 14, Table := (⟨#[116]⟩ : By8), Role := p1, Priv := 1, Option := true }, p0⟩ : law19_Act) (⟨zw_qS⟩ : W_law19_Act)).toArray) (yaf S3 0 (cs_law19_Act (⟨{ z_qS with Kind := 14, Table := (⟨#[116]⟩ : By8), Role := p1, Priv := 1, Option := true }, p0⟩ : law19_Act) (⟨zw_qS⟩ : W_law19_Act)) fun w6 S5 => yb (yp ?_)))))))
 have hk8 : ok_law19_Act I (⟨{ z_qS with Kind := 14, Table := (⟨#[116]⟩ : By8), Role := p1, Priv := 1, Option := true }, p0⟩ : law19_Act) (⟨zw_qS⟩ : W_law19_Act) := ⟨⟨SlAt.nil, SlAt.nil, SlAt.nil, SlAt.nil, zok_qS.Where, SlAt.nil, SlAt.nil, SlAt.nil⟩⟩
 exact sj D ▸ En.c1 _ (S5.rd m0) ⟨I, (⟨zw_qS⟩ : W_law19_Act), rfl, lr, S5.drop, hk8⟩
noncomputable def law19_works  : Option Bool := (law19_works_1 (⟨#[97, 110, 110]⟩ : By8) (⟨#[98, 111, 98]⟩ : By8)).bind (fun r6 => (law19_works_1 (⟨#[98, 111, 98]⟩ : By8) (⟨#[99, 121]⟩ : By8)).bind (fun r12 => (law19_Grown ([r6, r12] : List law19_Act)).bind (fun r29 => (grants_Make r29 ({ z_qS with Kind := 15, Table := (⟨#[116]⟩ : By8), Role := (⟨#[98, 111, 98]⟩ : By8), Priv := 1 }) (⟨#[97, 110, 110]⟩ : By8) 1000).bind (fun (r42, r43) => ((bif (r43 == 0) then (grants_May r29 (⟨#[99, 121]⟩ : By8) 1 (⟨#[116]⟩ : By8)).bind (fun r59 => some r59) else some false)).bind (fun (j50 : Bool) => ((bif j50 then (grants_May r42 (⟨#[99, 121]⟩ : By8) 1 (⟨#[116]⟩ : By8)).bind (fun r76 => some (!r76)) else some false)).bind (fun (j67 : Bool) => some (j67 && ((r42.Grants.length : Int) == 0))))))))
theorem law19_works_ok (hS : St E w I Os) {r : Bool} (D : law19_works = some r) :
    Calls P 8 #[] w (RT E I Os (.bool r)) := by
 refine calls_W (fn := Tryz.f8) rfl rfl rfl ?_
 unfold law19_works at D
 refine yf [0] (ya 0 1 z (yz [0] (y7 0 1 (.func (.func 29) #[] #[]) (yz nL8 (y7 0 5 (.func (.func 29) #[] #[]) (bsk D fun r6 Xr1 D => yaj (law19_works_1_ok  hS Xr1) ?_))))))
 rintro _ w2 ⟨I3, w_r6, rfl, L4, S5, h_r6⟩
 refine cv (y7 2 7 (.func (.func 29) #[] #[]) (bsk D fun r12 Xr7 D => yaj (law19_works_1_ok  S5 Xr7) ?_))
 rintro _ w8 ⟨I9, w_r12, rfl, L10, S11, h_r12⟩
 refine cv (yai (rel := R_law19_Act) (xs := ([r6, r12] : List law19_Act)) S11 z kr z 46 22 [(cs_law19_Act r6 w_r6), (cs_law19_Act r12 w_r12)] kr z ((Elr.cons ⟨w_r6, rfl, (h_r6.mono L10)⟩ (Elr.cons ⟨w_r12, rfl, h_r12⟩ Elr.nil))) tv ?_)
 intro a16 C14 w18 S17 ho15
 obtain ⟨I20, L21, S23, hp22⟩ := OwnSl.pub ho15 S17
 refine bsk D fun r29 Xr24 D => yaj (law19_Grown_ok hp22 S23 Xr24) ?_
 rintro _ w25 ⟨I26, w_r29, rfl, L27, S28, h_r29⟩
 refine cv (yad S28 (cs_qC z_qC zw_qC) 29 z fun b30 w33 S32 => yaf S32 0 (cs_qC r29 w_r29) fun w35 S34 => yz nL9 (yab ((cs_qC r29 w_r29)) (S34.rf m0) z (y7 1 13 (.agg (cs_qS ({ z_qS with Kind := 15, Table := (⟨#[116]⟩ : By8), Role := (⟨#[98, 111, 98]⟩ : By8), Priv := 1 }) zw_qS).toArray) ?_)))
 have hk36 : ok_qS I26 ({ z_qS with Kind := 15, Table := (⟨#[116]⟩ : By8), Role := (⟨#[98, 111, 98]⟩ : By8), Priv := 1 }) zw_qS := ⟨SlAt.nil, SlAt.nil, SlAt.nil, SlAt.nil, zok_qS.Where, SlAt.nil, SlAt.nil, SlAt.nil⟩
 obtain ⟨⟨r42, r43⟩, Xr37, D⟩ := bsm D
 refine yaj (grants_Make_ok h_r29 hk36 S34 Xr37) ?_
 rintro _ w38 ⟨I39, w_r42, rfl, L40, S41, h_r42⟩
 refine cv (ya 3 3 z (yad S41 (cs_qC z_qC zw_qC) 29 z fun b44 w47 S46 => yaf S46 0 (cs_qC r42 w_r42) fun w49 S48 => ya 8 1 z (yz nL18 (ya 0 3 z (bsk D fun j50 R1 D => yap (l1 := [3, 4, 5]) (J := JI E I39 [(3, Pt b44 0), (22, .bool j50)] (bC b44 r42 w_r42 :: Os)) ?_ ?_)))))
 refine yao R1 (fun G R1 => ?_) (fun G R1 => ?_)
 exact y4 19 G (yab ((cs_qC r29 w_r29)) (S48.rf m1) z (bsk R1 fun r59 Xr54 R1 => WO.c1 (grants_May_ok (h_r29.mono L40) S48 Xr54) z fun I56 w55 L57 S58 => ya 5 1 z (sj R1 ▸ y3 ⟨I56, rfl, L57, S58.front1.drop⟩)))
 refine y4 19 G ?_
 iterate 2 refine yan ?_
 exact ya 5 1 z (sj R1 ▸ y3 ⟨I39, rfl, lr, S48.front1.drop⟩)
 rintro _ w65 ⟨I52, rfl, L53, S66⟩
 refine ya 6 1 z (bsk D fun j67 R1 D => yap (l1 := [7, 8, 9, 10]) (J := JI E I52 [(3, Pt b44 0), (27, .bool j67)] (bC b44 r42 w_r42 :: Os)) ?_ ?_)
 refine yao R1 (fun G R1 => ?_) (fun G R1 => ?_)
 exact y4 23 G (yab ((cs_qC r42 w_r42)) (S66.rf m0) z (bsk R1 fun r76 Xr71 R1 => WO.c1 (grants_May_ok (h_r42.mono L53) S66 Xr71) z fun I73 w72 L74 S75 => ya 9 2 z (sj R1 ▸ y3 ⟨I73, rfl, L74, S75⟩)))
 refine y4 23 G ?_
 iterate 3 refine yan ?_
 exact ya 10 1 z (sj R1 ▸ y3 ⟨I52, rfl, lr, S66⟩)
 rintro _ w77 ⟨I69, rfl, L70, S78⟩
 exact ya 11 1 z (yay [12, 13, 14, 15] 16 28 33 (.refl (j67 && ((r42.Grants.length : Int) == 0))) (fun _ => yg 12 1 [3] z (yj (S78.rf m0) z (ya 14 3 z yal))) (ya 17 1 z (yb (yp (sj D ▸ yy ⟨I69, rfl, le, S78.drop⟩)))))
def r12_SameTexts (p0 : List By8) (p1 : List By8) : Option Bool := (bif ((p0.length : Int) != (p1.length : Int)) then some false else (forN (fun (i4 : Nat) (_s : Unit) => (idx p0 (i4 : Int)).bind (fun x13 => (idx p1 (i4 : Int)).bind (fun x14 => (bif (!sEq x13 x14) then some (.inr false) else some (.inl ()))))) p0.length 0 ()).bind (fun (t : Unit ⊕ (Bool)) => match t with | .inl _ => some true | .inr s16 => some s16))
theorem r12_SameTexts_ok {p0 : List By8} {p1 : List By8} {a_p0 : Option Addr} {c_p0 : Nat} {a_p1 : Option Addr} {c_p1 : Nat} (h_p0 : RSl 1 RStr I a_p0 c_p0 p0) (h_p1 : RSl 1 RStr I a_p1 c_p1 p1) (hS : St E w I Os) {r : Bool} (D : r12_SameTexts p0 p1 = some r) :
    Calls P 74 #[(Sl a_p0 p0 c_p0), (Sl a_p1 p1 c_p1)] w (RT E I Os (.bool r)) := by
 refine calls_W (fn := Tryz.f74) rfl rfl rfl ?_
 unfold r12_SameTexts at D
 refine yf [0] (ya 0 1 z (yb (yi (yf nL5 (ya 0 5 z (yb (y6 D (fun G D => ?_) (fun G D => ?_))))))))
 exact yf [0] (ya 0 1 z (yb (yp (ye (sj D ▸ yy ⟨I, rfl, lr, hS⟩)))))
 refine ym (yc (yi (yf [0] (ya 0 1 z (yb (yo (bsk D fun t1 hloop5 D => have hlt9 := (h_p0).len_lt; W.wk (yas (m := p0.length) hloop5 (fun (i4 : Nat) (_s : Unit) => JI E I [(0, Sl a_p0 p0 c_p0), (1, Sl a_p1 p1 c_p1), (5, Nv i4)] Os) ⟨I, rfl, lr, hS⟩ ?_ ?_))))))))
 rintro i4 _ _ w6 hi10 ⟨I2, rfl, L3, S7⟩ x8 R1 hext1
 refine yi (yf nL4 (ya 0 4 z (yb (yaw fun _ => ym (yc (yi (yo (yi (have S11 := S7.drew; ybd nL9 8 (y8 S11.im) ?_)))))))))
 generalize World.drew _ = w12 at *
 refine ya 0 2 z ?_
 obtain ⟨x13, R1, Hx13, _, rfl, Zx13⟩ := sx I2 h_p0 R1
 refine yac 9 1 Hx13 z (yar Zx13 (rd_i S11.im) z (ya 4 2 z ?_))
 obtain ⟨x14, R1, Hx14, _, rfl, Zx14⟩ := sx I2 h_p1 R1
 refine yac 9 1 Hx14 z (yar Zx14 (rd_i S11.im) z (WO.tail z (ya 8 1 z (yb (y6 R1 (fun G R1 => ?_) (fun G R1 => ?_))))))
 refine yf [0] (ya 0 1 z (yb (yp (yl (ye (yw ?_))))))
 obtain rfl := hext1 _ (sj R1).symm
 exact yl (ye (sj D ▸ yy ⟨I2, rfl, L3, S11⟩))
 exact ym (yn (yc (yak nL3 (ya 0 1 z (yaq i4 z (ya 2 1 z (yq (yx ⟨(), (sj R1).symm, I2, rfl, L3, S11⟩))))))))
 rintro _ _ w17 ⟨I2, rfl, L3, S18⟩ he
 cases he
 exact yi (yf nL4 (ya 0 4 z (yb (yax fun _ => yae (yr (yu (yv (yc (yf [0] (ya 0 1 z (yb (yp (sj D ▸ yy ⟨I2, rfl, L3, S18⟩)))))))))))))
noncomputable def r12_SameCons (p0 : qK) (p1 : qK) : Option Bool := (some (((sEq p0.Name p1.Name) && (p0.Kind == p1.Kind)) && (sEq p0.Table p1.Table))).bind (fun (q11 : Bool) => ((bif q11 then (r12_SameTexts p0.Cols p1.Cols).bind (fun r23 => some r23) else some false)).bind (fun (j14 : Bool) => ((bif j14 then (r12_SameTexts p0.Refs p1.Refs).bind (fun r37 => some r37) else some false)).bind (fun (j28 : Bool) => ((bif j28 then (r10_Same p0.Check p1.Check).bind (fun r49 => some r49) else some false)).bind (fun (j40 : Bool) => some j40))))
theorem r12_SameCons_ok {p0 : qK} {p1 : qK} {w_p0 : W_qK} {w_p1 : W_qK} (h_p0 : ok_qK I p0 w_p0) (h_p1 : ok_qK I p1 w_p1) (hS : St E w I Os) {r : Bool} (D : r12_SameCons p0 p1 = some r) :
    Calls P 73 #[(vK p0 w_p0), (vK p1 w_p1)] w (RT E I Os (.bool r)) := by
 refine calls_W (fn := Tryz.f73) rfl rfl rfl ?_
 unfold r12_SameCons at D
 refine yf nL3 (yad hS (cs_qK p0 w_p0) 100 z fun b1 w4 S3 => yad S3 (cs_qK p1 w_p1) 100 z fun b5 w8 S7 => ya 2 1 z (yz nL41 (yg 0 1 [0] z (yj (S7.rf m1) z (yg 2 1 [0] z (yj (S7.rf m0) z (ya 4 2 z (yay [6, 7, 8, 9, 10] 11 10 16 (.refl ((sEq p0.Name p1.Name) && (p0.Kind == p1.Kind))) (fun _ => yg 6 1 [1] z (yj (S7.rf m1) z (yg 8 1 [1] z (yj (S7.rf m0) z (ya 10 2 z yal))))) (ya 12 1 z (bsq D fun q11 Xq11 D => yay [13, 14, 15, 16, 17] 18 17 23 Xq11 (fun _ => yg 13 1 [10] z (yj (S7.rf m1) z (yg 15 1 [10] z (yj (S7.rf m0) z (ya 17 2 z yal))))) (ya 19 1 z (bsk D fun j14 R1 D => yap (l1 := [20, 21, 22, 23, 24, 25]) (J := JI E I [(2, Pt b1 0), (3, Pt b5 0), (30, .bool j14)] (bK b1 p0 w_p0 :: (bK b5 p1 w_p1) :: Os)) ?_ ?_))))))))))))
 refine yao R1 (fun G R1 => ?_) (fun G R1 => ?_)
 exact y4 24 G (yg 20 1 [2] z (yj (S7.rf m1) z (yg 22 1 [2] z (yj (S7.rf m0) z (bsk R1 fun r23 Xr18 R1 => WO.c1 (r12_SameTexts_ok h_p0.Cols h_p1.Cols S7 Xr18) z fun I20 w19 L21 S22 => ya 25 1 z (sj R1 ▸ y3 ⟨I20, rfl, L21, S22.front1⟩))))))
 refine y4 24 G ?_
 iterate 5 refine yan ?_
 exact ya 25 1 z (sj R1 ▸ y3 ⟨I, rfl, lr, S7.front1⟩)
 rintro _ w26 ⟨I16, rfl, L17, S27⟩
 refine ya 26 1 z (bsk D fun j28 R1 D => yap (l1 := [27, 28, 29, 30, 31, 32]) (J := JI E I16 [(2, Pt b1 0), (3, Pt b5 0), (37, .bool j28)] (bK b1 p0 w_p0 :: (bK b5 p1 w_p1) :: Os)) ?_ ?_)
 refine yao R1 (fun G R1 => ?_) (fun G R1 => ?_)
 exact y4 31 G (yg 27 1 [11] z (yj (S27.rf m0) z (yg 29 1 [11] z (yj (S27.rf m1) z (bsk R1 fun r37 Xr32 R1 => WO.c1 (r12_SameTexts_ok (RSl.mono h_p0.Refs L17) (RSl.mono h_p1.Refs L17) S27 Xr32) z fun I34 w33 L35 S36 => ya 32 1 z (sj R1 ▸ y3 ⟨I34, rfl, L35, S36⟩))))))
 refine y4 31 G ?_
 iterate 5 refine yan ?_
 exact ya 32 1 z (sj R1 ▸ y3 ⟨I16, rfl, lr, S27⟩)
 rintro _ w38 ⟨I30, rfl, L31, S39⟩
 refine ya 33 1 z (bsk D fun j40 R1 D => yap (l1 := [34, 35, 36, 37, 38, 39]) (J := JI E I30 [(44, .bool j40)] Os) ?_ ?_)
 refine yao R1 (fun G R1 => ?_) (fun G R1 => ?_)
 exact y4 38 G (yg 34 1 [3] z (yab ((cs_qE p0.Check w_p0.Check)) (S39.rf m0) z (yg 36 1 [3] z (yab ((cs_qE p1.Check w_p1.Check)) (S39.rf m1) z (bsk R1 fun r49 Xr44 R1 => WO.c1 (r10_Same_ok (h_p0.Check.mono le) (h_p1.Check.mono le) S39 Xr44) z fun I46 w45 L47 S48 => ya 39 1 z (sj R1 ▸ y3 ⟨I46, rfl, L47, S48.d2⟩))))))
 refine y4 38 G ?_
 iterate 5 refine yan ?_
 exact ya 39 1 z (sj R1 ▸ y3 ⟨I30, rfl, lr, S39.d2⟩)
 rintro _ w54 ⟨I42, rfl, L43, S55⟩
 exact ya 40 1 z (yb (yp (sj D ▸ yy ⟨I42, rfl, le, S55⟩)))
noncomputable def r14_Same (p0 : qT) (p1 : qT) : Option Bool := (some (((!sEq p0.Name p1.Name) || (!sEq p0.Owner p1.Owner)) || (p0.Version != p1.Version))).bind (fun (q11 : Bool) => (some ((q11 || ((p0.Cols.length : Int) != (p1.Cols.length : Int))) || ((p0.Cons.length : Int) != (p1.Cons.length : Int)))).bind (fun (q16 : Bool) => (bif (q16 || ((p0.Idx.length : Int) != (p1.Idx.length : Int))) then some false else (forN (fun (i26 : Nat) (_s : Unit) => (idx p0.Cols (i26 : Int)).bind (fun x36 => (idx p1.Cols (i26 : Int)).bind (fun x37 => (bif (!(sEq x36.Name x37.Name && ((x36.Type_ == x37.Type_) && (x36.NotNull == x37.NotNull)))) then some (.inr false) else some (.inl ()))))) p0.Cols.length 0 ()).bind (fun (t : Unit ⊕ (Bool)) => match t with | .inl _ => (forN (fun (i49 : Nat) (_s : Unit) => (idx p0.Cons (i49 : Int)).bind (fun x58 => (idx p1.Cons (i49 : Int)).bind (fun x59 => (r12_SameCons x58 x59).bind (fun r65 => (bif (!r65) then some (.inr false) else some (.inl ())))))) p0.Cons.length 0 ()).bind (fun (t : Unit ⊕ (Bool)) => match t with | .inl _ => (forN (fun (i77 : Nat) (_s : Unit) => (idx p0.Idx (i77 : Int)).bind (fun x86 => (idx p1.Idx (i77 : Int)).bind (fun x87 => ((bif (!sEq x86.Name x87.Name) then some true else (idx p0.Idx (i77 : Int)).bind (fun x92 => (idx p1.Idx (i77 : Int)).bind (fun x93 => (r12_SameTexts x92.Cols x93.Cols).bind (fun r99 => some (!r99)))))).bind (fun (j88 : Bool) => (bif j88 then some (.inr false) else some (.inl ())))))) p0.Idx.length 0 ()).bind (fun (t : Unit ⊕ (Bool)) => match t with | .inl _ => some true | .inr s103 => some s103) | .inr s67 => some s67) | .inr s39 => some s39))))
theorem r14_Same_ok {p0 : qT} {p1 : qT} {w_p0 : W_qT} {w_p1 : W_qT} (h_p0 : ok_qT I p0 w_p0) (h_p1 : ok_qT I p1 w_p1) (hS : St E w I Os) {r : Bool} (D : r14_Same p0 p1 = some r) :
    Calls P 41 #[(vT p0 w_p0), (vT p1 w_p1)] w (RT E I Os (.bool r)) := by
 refine calls_W (fn := Tryz.f41) rfl rfl rfl ?_
 unfold r14_Same at D
 refine yf nL3 (yad hS (cs_qT p0 w_p0) 89 z fun b1 w4 S3 => yad S3 (cs_qT p1 w_p1) 89 z fun b5 w8 S7 => ya 2 1 z (yb (yi (yf nL46 (yg 0 1 [0] z (yj (S7.rf m1) z (yg 2 1 [0] z (yj (S7.rf m0) z (ya 4 2 z (ya3 [6, 7, 8, 9, 10] 11 13 19 (.refl ((!sEq p0.Name p1.Name) || (!sEq p0.Owner p1.Owner))) (fun _ => yg 6 1 [1] z (yj (S7.rf m1) z (yg 8 1 [1] z (yj (S7.rf m0) z (ya 10 2 z yal))))) (ya 12 1 z (bsq D fun q11 Xq11 D => ya3 [13, 14, 15, 16, 17] 18 20 26 Xq11 (fun _ => yg 13 1 [2] z (yj (S7.rf m1) z (yg 15 1 [2] z (yj (S7.rf m0) z (ya 17 2 z yal))))) (ya 19 1 z (ya3 [20, 21, 22, 23, 24, 25, 26] 27 27 35 (.refl (q11 || ((p0.Cols.length : Int) != (p1.Cols.length : Int)))) (fun _ => yg 20 1 [3] z (yj (S7.rf m1) z (yg 22 2 [3] z (yj (S7.rf m0) z (ya 25 3 z yal))))) (ya 28 1 z (bsq D fun q16 Xq16 D => ya3 [29, 30, 31, 32, 33, 34, 35] 36 36 44 Xq16 (fun _ => yg 29 1 [4] z (yj (S7.rf m1) z (yg 31 2 [4] z (yj (S7.rf m0) z (ya 34 3 z yal))))) (ya 37 1 z (ya3 [38, 39, 40, 41, 42, 43, 44] 45 45 53 (.refl (q16 || ((p0.Idx.length : Int) != (p1.Idx.length : Int)))) (fun _ => yg 38 1 [5] z (yj (S7.rf m1) z (yg 40 2 [5] z (yj (S7.rf m0) z (ya 43 3 z yal))))) (yb (y6 D (fun G D => ?_) (fun G D => ?_)))))))))))))))))))))
 exact yf [0] (ya 0 1 z (yb (yp (ye (sj D ▸ yy ⟨I, rfl, lr, S7.d2⟩)))))
 refine ym (yc (yi (yf [0] (ya 0 1 z (yb (yo (bsk D fun t23 hloop27 D => have hlt32 := (h_p0.Cols).len_lt; W.wk (yas (m := p0.Cols.length) hloop27 (fun (i26 : Nat) (_s : Unit) => JI E I [(2, Pt b1 0), (3, Pt b5 0), (5, Nv i26)] (bT b1 p0 w_p0 :: (bT b5 p1 w_p1) :: Os)) ⟨I, rfl, lr, S7.front1⟩ ?_ ?_))))))))
 rintro i26 _ _ w29 hi33 ⟨I24, rfl, L25, S30⟩ x31 R1 hext23
 refine yi (yf nL5 (yg 0 2 [3] z (yj (S30.rf m0) z (ya 3 2 z (yb (yaw fun _ => ym (yc (yi (yo (yi (have S34 := S30.drew; ybd nL11 10 (yt (S34.rd m0) (yt (S34.rd m1) (y8 S34.im))) ?_)))))))))))
 generalize World.drew _ = w35 at *
 refine yg 0 1 [3] z (yj (rd_c m0 (S34.rd m0)) z (ya 2 1 z ?_))
 obtain ⟨x36, R1, Hx36, _, rfl, Zx36⟩ := sx I24 h_p0.Cols R1
 refine yac 73 3 Hx36 z (yau ((cs_qL x36)) Zx36 0 (rd_i S34.im) z (yg 5 1 [3] z (yj (rd_c m1 (S34.rd m1)) z (ya 7 1 z ?_))))
 obtain ⟨x37, R1, Hx37, _, rfl, Zx37⟩ := sx I24 h_p1.Cols R1
 refine yac 73 3 Hx37 z (yau ((cs_qL x37)) Zx37 0 (rd_i S34.im) z (WO.tail z (ybx z kr z z kr 50 z (b := (sEq x36.Name x37.Name && ((x36.Type_ == x37.Type_) && ((x36.NotNull == x37.NotNull) && true)))) kr (!(sEq x36.Name x37.Name && ((x36.Type_ == x37.Type_) && (x36.NotNull == x37.NotNull)))) (.inr ⟨rfl, by simp only [Bool.and_true]⟩) ?_)))
 refine yb (y6 R1 (fun G R1 => ?_) (fun G R1 => ?_))
 refine yf [0] (ya 0 1 z (yb (yp (yl (ye (yw ?_))))))
 obtain rfl := hext23 _ (sj R1).symm
 exact yl (ye (sj D ▸ yy ⟨I24, rfl, L25, S34.d2⟩))
 exact ym (yn (yc (yak nL3 (ya 0 1 z (yaq i26 z (ya 2 1 z (yq (yx ⟨(), (sj R1).symm, I24, rfl, L25, S34⟩))))))))
 rintro _ _ w44 ⟨I24, rfl, L25, S45⟩ he
 cases he
 refine yi (yf nL5 (yg 0 2 [3] z (yj (S45.rf m0) z (ya 3 2 z (yb (yax fun _ => yae (yr (yu (yv (yc (yi (yf [0] (ya 0 1 z (yb (yo (bsk D fun t46 hloop50 D => have hlt54 := ((RSl.mono h_p0.Cons L25)).len_lt; W.wk (yas (m := p0.Cons.length) hloop50 (fun (i49 : Nat) (_s : Unit) => JI E I24 [(2, Pt b1 0), (3, Pt b5 0), (6, Nv i49)] (bT b1 p0 w_p0 :: (bT b5 p1 w_p1) :: Os)) ⟨I24, rfl, lr, S45⟩ ?_ ?_)))))))))))))))))
 rintro i49 _ _ w51 hi55 ⟨I47, rfl, L48, S52⟩ x53 R1 hext46
 refine yi (yf nL5 (yg 0 2 [4] z (yj (S52.rf m0) z (ya 3 2 z (yb (yaw fun _ => ym (yc (yi (yo (yi (have S56 := S52.drew; ybd nL12 10 (yt (S56.rd m0) (yt (S56.rd m1) (y8 S56.im))) ?_)))))))))))
 generalize World.drew _ = w57 at *
 refine yg 0 1 [4] z (yj (rd_c m0 (S56.rd m0)) z (ya 2 1 z ?_))
 obtain ⟨x58, R1, Hx58, _, ⟨w_x58, rfl, h_x58⟩, Zx58⟩ := sx I47 h_p0.Cons R1
 refine yac 100 12 Hx58 z (yau ((cs_qK x58 w_x58)) Zx58 0 (rd_i S56.im) z (yg 5 1 [4] z (yj (rd_c m1 (S56.rd m1)) z (ya 7 1 z ?_))))
 obtain ⟨x59, R1, Hx59, _, ⟨w_x59, rfl, h_x59⟩, Zx59⟩ := sx I47 h_p1.Cons R1
 refine yac 100 12 Hx59 z (yau ((cs_qK x59 w_x59)) Zx59 0 (rd_i S56.im) z (WO.tail z (bsk R1 fun r65 Xr60 R1 => WO.c1 (r12_SameCons_ok h_x58 h_x59 S56 Xr60) z fun I62 w61 L63 S64 => ya 11 1 z (yb (y6 R1 (fun G R1 => ?_) (fun G R1 => ?_))))))
 refine yf [0] (ya 0 1 z (yb (yp (yl (ye (yw ?_))))))
 obtain rfl := hext46 _ (sj R1).symm
 exact yl (ye (sj D ▸ yy ⟨I62, rfl, le, S64.d2⟩))
 exact ym (yn (yc (yak nL3 (ya 0 1 z (yaq i49 z (ya 2 1 z (yq (yx ⟨(), (sj R1).symm, I62, rfl, le, S64⟩))))))))
 rintro _ _ w72 ⟨I47, rfl, L48, S73⟩ he
 cases he
 refine yi (yf nL5 (yg 0 2 [4] z (yj (S73.rf m0) z (ya 3 2 z (yb (yax fun _ => yae (yr (yu (yv (yc (yi (yf [0] (ya 0 1 z (yb (yo (bsk D fun t74 hloop78 D => have hlt82 := ((RSl.mono h_p0.Idx (L25.trans L48))).len_lt; W.wk (yas (m := p0.Idx.length) hloop78 (fun (i77 : Nat) (_s : Unit) => JI E I47 [(2, Pt b1 0), (3, Pt b5 0), (7, Nv i77)] (bT b1 p0 w_p0 :: (bT b5 p1 w_p1) :: Os)) ⟨I47, rfl, lr, S73⟩ ?_ ?_)))))))))))))))))
 rintro i77 _ _ w79 hi83 ⟨I75, rfl, L76, S80⟩ x81 R1 hext74
 refine yi (yf nL5 (yg 0 2 [5] z (yj (S80.rf m0) z (ya 3 2 z (yb (yaw fun _ => ym (yc (yi (yo (yi (have S84 := S80.drew; ybd nL29 29 (yt (S84.rd m0) (yt (S84.rd m1) (y8 S84.im))) ?_)))))))))))
 generalize World.drew _ = w85 at *
 refine yg 0 1 [5] z (yj (rd_c m0 (S84.rd m0)) z (ya 2 1 z ?_))
 obtain ⟨x86, R1, Hx86, _, ⟨w_x86, rfl, h_x86⟩, Zx86⟩ := sx I75 h_p0.Idx R1
 refine yac 124 2 Hx86 z (yg 4 1 [0] z (yar Zx86 (rd_i S84.im) z (yg 6 1 [5] z (yj (rd_c m1 (S84.rd m1)) z (ya 8 1 z ?_)))))
 obtain ⟨x87, R1, Hx87, _, ⟨w_x87, rfl, h_x87⟩, Zx87⟩ := sx I75 h_p1.Idx R1
 refine yac 124 2 Hx87 z (yg 10 1 [0] z (yar Zx87 (rd_i S84.im) z (ya 12 2 z (bsk R1 fun j88 R2 R1 => yap (l1 := [14, 15, 16, 17, 18, 19, 20, 21, 22, 23, 24, 25, 26, 27, 28]) (J := JI E I75 [(2, Pt b1 0), (3, Pt b5 0), (7, Nv i77), (126, .bool j88)] (bT b1 p0 w_p0 :: (bT b5 p1 w_p1) :: Os)) ?_ ?_))))
 refine yao R2 (fun G R2 => ?_) (fun G R2 => ?_)
 refine y4 111 G ?_
 iterate 14 refine yan ?_
 exact ya 28 1 z (sj R2 ▸ y3 ⟨I75, rfl, lr, S84⟩)
 refine y4 111 G (yg 14 1 [5] z (yj (rd_c m0 (S84.rd m0)) z (ya 16 1 z ?_)))
 obtain ⟨x92, R2, Hx92, _, ⟨w_x92, rfl, h_x92⟩, Zx92⟩ := sx I75 h_p0.Idx R2
 refine yac 124 2 Hx92 z (yg 18 1 [1] z (ya2 Zx92 1 (rd_i S84.im) z (yg 20 1 [5] z (yj (rd_c m1 (S84.rd m1)) z (ya 22 1 z ?_)))))
 obtain ⟨x93, R2, Hx93, _, ⟨w_x93, rfl, h_x93⟩, Zx93⟩ := sx I75 h_p1.Idx R2
 refine yac 124 2 Hx93 z (yg 24 1 [1] z (ya2 Zx93 1 (rd_i S84.im) z (bsk R2 fun r99 Xr94 R2 => yaj (r12_SameTexts_ok h_x92.Cols h_x93.Cols S84 Xr94) ?_)))
 rintro _ w95 ⟨I96, rfl, L97, S98⟩
 refine ⟨_, rfl, (yt (S98.rd m0) (yt (S98.rd m1) (y8 (S98.im.of_le L97)))), ?_⟩
 exact ya 27 2 z (sj R2 ▸ y3 ⟨I96, rfl, L97, S98⟩)
 rintro _ w100 ⟨I90, rfl, L91, S101⟩
 refine yb (y6 R1 (fun G R1 => ?_) (fun G R1 => ?_))
 refine yf [0] (ya 0 1 z (yb (yp (yl (ye (yw ?_))))))
 obtain rfl := hext74 _ (sj R1).symm
 exact yl (ye (sj D ▸ yy ⟨I90, rfl, le, S101.d2⟩))
 exact ym (yn (yc (yak nL3 (ya 0 1 z (yaq i77 z (ya 2 1 z (yq (yx ⟨(), (sj R1).symm, I90, rfl, le, S101⟩))))))))
 rintro _ _ w108 ⟨I75, rfl, L76, S109⟩ he
 cases he
 exact yi (yf nL5 (yg 0 2 [5] z (yj (S109.rf m0) z (ya 3 2 z (yb (yax fun _ => yae (yr (yu (yv (yc (yf [0] (ya 0 1 z (yb (yp (sj D ▸ yy ⟨I75, rfl, le, S109.d2⟩)))))))))))))))
noncomputable def r17_Same (p0 : qC) (p1 : qC) : Option Bool := (some ((p0.Version != p1.Version) || ((p0.Tables.length : Int) != (p1.Tables.length : Int)))).bind (fun (q9 : Bool) => (some ((q9 || ((p0.Roles.length : Int) != (p1.Roles.length : Int))) || ((p0.Grants.length : Int) != (p1.Grants.length : Int)))).bind (fun (q14 : Bool) => (bif q14 then some false else (forN (fun (i22 : Nat) (_s : Unit) => (idx p0.Tables (i22 : Int)).bind (fun x32 => (idx p1.Tables (i22 : Int)).bind (fun x33 => (r14_Same x32 x33).bind (fun r39 => (bif (!r39) then some (.inr false) else some (.inl ())))))) p0.Tables.length 0 ()).bind (fun (t : Unit ⊕ (Bool)) => match t with | .inl _ => (forN (fun (i51 : Nat) (_s : Unit) => ((idx p0.Roles (i51 : Int)).bind (fun x64 => (idx p1.Roles (i51 : Int)).bind (fun x65 => some (x64, x65)))).bind (fun ((s79, s80) : qJ × qJ) => (some ((!sEq s79.Name s80.Name) || ((s79.In.length : Int) != (s80.In.length : Int)))).bind (fun (q105 : Bool) => (bif q105 then some (.inr false) else (forN (fun (i119 : Nat) (_s : Unit) => (idx s79.In (i119 : Int)).bind (fun x128 => (idx s80.In (i119 : Int)).bind (fun x129 => (bif (!sEq x128 x129) then some (.inr false) else some (.inl ()))))) s79.In.length 0 ()).bind (fun (t : Unit ⊕ (Bool)) => match t with | .inl _ => some (.inl ()) | .inr s131 => some (.inr s131)))))) p0.Roles.length 0 ()).bind (fun (t : Unit ⊕ (Bool)) => match t with | .inl _ => (forN (fun (i151 : Nat) (_s : Unit) => (idx p0.Grants (i151 : Int)).bind (fun x160 => (idx p1.Grants (i151 : Int)).bind (fun x161 => (bif (!(sEq x160.To x161.To && (sEq x160.By x161.By && (sEq x160.Table x161.Table && ((x160.Priv == x161.Priv) && (x160.Option == x161.Option)))))) then some (.inr false) else some (.inl ()))))) p0.Grants.length 0 ()).bind (fun (t : Unit ⊕ (Bool)) => match t with | .inl _ => some true | .inr s163 => some s163) | .inr s109 => some s109) | .inr s41 => some s41))))
theorem r17_Same_ok {p0 : qC} {p1 : qC} {w_p0 : W_qC} {w_p1 : W_qC} (h_p0 : ok_qC I p0 w_p0) (h_p1 : ok_qC I p1 w_p1) (hS : St E w I Os) {r : Bool} (D : r17_Same p0 p1 = some r) :
    Calls P 13 #[(vC p0 w_p0), (vC p1 w_p1)] w (RT E I Os (.bool r)) := by
 refine calls_W (fn := Tryz.f13) rfl rfl rfl ?_
 unfold r17_Same at D
 refine yf nL3 (yad hS (cs_qC p0 w_p0) 29 z fun b1 w4 S3 => yad S3 (cs_qC p1 w_p1) 29 z fun b5 w8 S7 => ya 2 1 z (yb (yi (yf nL32 (yg 0 1 [0] z (yj (S7.rf m1) z (yg 2 1 [0] z (yj (S7.rf m0) z (ya 4 2 z (bsq D fun q9 Xq9 D => ya3 [6, 7, 8, 9, 10, 11, 12] 13 16 24 Xq9 (fun _ => yg 6 1 [1] z (yj (S7.rf m1) z (yg 8 2 [1] z (yj (S7.rf m0) z (ya 11 3 z yal))))) (ya 14 1 z (ya3 [15, 16, 17, 18, 19, 20, 21] 22 25 33 (.refl (q9 || ((p0.Roles.length : Int) != (p1.Roles.length : Int)))) (fun _ => yg 15 1 [2] z (yj (S7.rf m1) z (yg 17 2 [2] z (yj (S7.rf m0) z (ya 20 3 z yal))))) (ya 23 1 z (bsq D fun q14 Xq14 D => ya3 [24, 25, 26, 27, 28, 29, 30] 31 34 42 Xq14 (fun _ => yg 24 1 [3] z (yj (S7.rf m1) z (yg 26 2 [3] z (yj (S7.rf m0) z (ya 29 3 z yal))))) (yb (y6 D (fun G D => ?_) (fun G D => ?_)))))))))))))))))
 exact yf [0] (ya 0 1 z (yb (yp (ye (sj D ▸ yy ⟨I, rfl, lr, S7.d2⟩)))))
 refine ym (yc (yi (yf [0] (ya 0 1 z (yb (yo (bsk D fun t19 hloop23 D => have hlt28 := (h_p0.Tables).len_lt; W.wk (yas (m := p0.Tables.length) hloop23 (fun (i22 : Nat) (_s : Unit) => JI E I [(2, Pt b1 0), (3, Pt b5 0), (5, Nv i22)] (bC b1 p0 w_p0 :: (bC b5 p1 w_p1) :: Os)) ⟨I, rfl, lr, S7.front1⟩ ?_ ?_))))))))
 rintro i22 _ _ w25 hi29 ⟨I20, rfl, L21, S26⟩ x27 R1 hext19
 refine yi (yf nL5 (yg 0 2 [1] z (yj (S26.rf m0) z (ya 3 2 z (yb (yaw fun _ => ym (yc (yi (yo (yi (have S30 := S26.drew; ybd nL12 10 (yt (S30.rd m0) (yt (S30.rd m1) (y8 S30.im))) ?_)))))))))))
 generalize World.drew _ = w31 at *
 refine yg 0 1 [1] z (yj (rd_c m0 (S30.rd m0)) z (ya 2 1 z ?_))
 obtain ⟨x32, R1, Hx32, _, ⟨w_x32, rfl, h_x32⟩, Zx32⟩ := sx I20 h_p0.Tables R1
 refine yac 89 6 Hx32 z (yau ((cs_qT x32 w_x32)) Zx32 0 (rd_i S30.im) z (yg 5 1 [1] z (yj (rd_c m1 (S30.rd m1)) z (ya 7 1 z ?_))))
 obtain ⟨x33, R1, Hx33, _, ⟨w_x33, rfl, h_x33⟩, Zx33⟩ := sx I20 h_p1.Tables R1
 refine yac 89 6 Hx33 z (yau ((cs_qT x33 w_x33)) Zx33 0 (rd_i S30.im) z (WO.tail z (bsk R1 fun r39 Xr34 R1 => WO.c1 (r14_Same_ok h_x32 h_x33 S30 Xr34) z fun I36 w35 L37 S38 => ya 11 1 z (yb (y6 R1 (fun G R1 => ?_) (fun G R1 => ?_))))))
 refine yf [0] (ya 0 1 z (yb (yp (yl (ye (yw ?_))))))
 obtain rfl := hext19 _ (sj R1).symm
 exact yl (ye (sj D ▸ yy ⟨I36, rfl, le, S38.d2⟩))
 exact ym (yn (yc (yak nL3 (ya 0 1 z (yaq i22 z (ya 2 1 z (yq (yx ⟨(), (sj R1).symm, I36, rfl, le, S38⟩))))))))
 rintro _ _ w46 ⟨I20, rfl, L21, S47⟩ he
 cases he
 refine yi (yf nL5 (yg 0 2 [1] z (yj (S47.rf m0) z (ya 3 2 z (yb (yax fun _ => yae (yr (yu (yv (yc (yi (yf [0] (ya 0 1 z (yb (yo (bsk D fun t48 hloop52 D => have hlt56 := ((RSl.mono h_p0.Roles L21)).len_lt; W.wk (yas (m := p0.Roles.length) hloop52 (fun (i51 : Nat) (_s : Unit) => JI E I20 [(2, Pt b1 0), (3, Pt b5 0), (6, Nv i51)] (bC b1 p0 w_p0 :: (bC b5 p1 w_p1) :: Os)) ⟨I20, rfl, lr, S47⟩ ?_ ?_)))))))))))))))))
 rintro i51 _ _ w53 hi57 ⟨I49, rfl, L50, S54⟩ x55 R1 hext48
 refine yi (yf nL5 (yg 0 2 [2] z (yj (S54.rf m0) z (ya 3 2 z (yb (yaw fun _ => ym (yc (yi (yo (yi (bsk R1 fun j58 R2 R1 => ya0 (J := (fun fr w => ∃ (s79 : qJ) (s80 : qJ), ∃ I60 w_s79 b_s79 w_s80 b_s80, (s79, s80) = j58 ∧ fr = [(2, Pt b1 0), (3, Pt b5 0), (6, Nv i51), (7, Pt b_s79 0), (8, Pt b_s80 0)] ∧ I49.Le I60 ∧ St E w I60 (bC b1 p0 w_p0 :: (bC b5 p1 w_p1) :: (bJ b_s79 s79 w_s79) :: (bJ b_s80 s80 w_s80) :: Os) ∧ ok_qJ I60 s79 w_s79 ∧ ok_qJ I60 s80 w_s80)) ?_ ?_)))))))))))
 have S62 := S54.drew
 refine yb1 (.split 11 10 (.leaf [0, 1, 2, 3, 4, 5, 6, 7, 8, 9, 11, 10, 12, 13]) (.leaf nL14)) 13 (KR I49 [bC b1 p0 w_p0, bC b5 p1 w_p1]) qR (.ords nL14 [0, 1, 2, 3, 4, 10, 11, 12, 5, 6, 7, 8, 9, 13] kr kr kr kr kr) kr (yt (S62.rd m0) (yt (S62.rd m1) (y8 S62.im))) ?_
 generalize World.drew _ = w63 at *
 refine ⟨?_, ?_⟩
 show WO _ _ _ _ _ _ _ [0, 1, 2, 3, 4, 5, 6, 7, 8, 9, 11, 10, 12, 13] _ _
 refine yg 0 1 [2] z (yj (rd_c m0 (S62.rd m0)) z (ya 2 1 z ?_))
 obtain ⟨x64, R2, Hx64, _, ⟨w_x64, rfl, h_x64⟩, Zx64⟩ := sx I49 h_p0.Roles R2
 refine yac 62 2 Hx64 z (yau ((cs_qJ x64 w_x64)) Zx64 0 (rd_i S62.im) z (yg 5 1 [2] z (yj (rd_c m1 (S62.rd m1)) z (ya 7 1 z ?_))))
 obtain ⟨x65, R2, Hx65, _, ⟨w_x65, rfl, h_x65⟩, Zx65⟩ := sx I49 h_p1.Roles R2
 refine yac 62 2 Hx65 z (yau ((cs_qJ x65 w_x65)) Zx65 0 (rd_i S62.im) z (ybk S62 z kr z (.cells (cs_qJ z_qJ zw_qJ).toArray 62 (0, 0)) (fun b => .pointer (some ⟨b, 0, none⟩)) kr (fun b66 w69 S68 => (yt (S68.rd m1) (yt (S68.rd m2) (y8 S68.im)))) ?_))
 intro b66 w69 S68
 refine ybk S68 z kr z (.cells (cs_qJ z_qJ zw_qJ).toArray 62 (0, 0)) (fun b => .pointer (some ⟨b, 0, none⟩)) kr (fun b70 w73 S72 => (yt (S72.rd m2) (yt (S72.rd m3) (y8 S72.im)))) ?_
 intro b70 w73 S72
 refine ybs S72 z kr z 0 z z kr kr kr ((cs_qJ x64 w_x64).toArray) kr (fun w75 S74 => (yt (S74.rd m2) (yt (S74.rd m3) (y8 S74.im)))) ?_
 intro w75 S74
 exact WO.tail z (yaf S74.front1 0 (cs_qJ x65 w_x65) fun w78 S77 => yq (yx ⟨x64, x65, I49, w_x64, b70, w_x65, b66, sj R2, rfl, lr, S77.front1.front3.front3, h_x64, h_x65⟩))
 show WO _ _ _ _ _ _ _ nL14 _ _
 refine yg 0 1 [2] z (yj (rd_c m0 (S62.rd m0)) z (ya 2 1 z ?_))
 obtain ⟨x84, R2, Hx84, _, ⟨w_x84, rfl, h_x84⟩, Zx84⟩ := sx I49 h_p0.Roles R2
 refine yac 62 2 Hx84 z (yau ((cs_qJ x84 w_x84)) Zx84 0 (rd_i S62.im) z (yg 5 1 [2] z (yj (rd_c m1 (S62.rd m1)) z (ya 7 1 z ?_))))
 obtain ⟨x85, R2, Hx85, _, ⟨w_x85, rfl, h_x85⟩, Zx85⟩ := sx I49 h_p1.Roles R2
 refine yac 62 2 Hx85 z (yau ((cs_qJ x85 w_x85)) Zx85 0 (rd_i S62.im) z (ybk S62 z kr z (.cells (cs_qJ z_qJ zw_qJ).toArray 62 (0, 0)) (fun b => .pointer (some ⟨b, 0, none⟩)) kr (fun b86 w89 S88 => (yt (S88.rd m1) (yt (S88.rd m2) (y8 S88.im)))) ?_))
 intro b86 w89 S88
 refine ybk S88 z kr z (.cells (cs_qJ z_qJ zw_qJ).toArray 62 (0, 0)) (fun b => .pointer (some ⟨b, 0, none⟩)) kr (fun b90 w93 S92 => (yt (S92.rd m2) (yt (S92.rd m3) (y8 S92.im)))) ?_
 intro b90 w93 S92
 refine ybs S92.front1 z kr z 0 z z kr kr kr ((cs_qJ x84 w_x84).toArray) kr (fun w96 S95 => (yt (S95.rd m2) (yt (S95.rd m3) (y8 S95.im)))) ?_
 intro w96 S95
 exact WO.tail z (yaf S95.front1 0 (cs_qJ x85 w_x85) fun w99 S98 => yq (yx ⟨x84, x85, I49, w_x84, b86, w_x85, b90, sj R2, rfl, lr, S98.front1.front3.front3, h_x84, h_x85⟩))
 rintro _ w103 ⟨s79, s80, I60, w_s79, b_s79, w_s80, b_s80, rfl, rfl, L61, S104, h_s79, h_s80⟩
 refine yc (yi (yf nL14 (yg 0 1 [0] z (yj (S104.rf m2) z (yg 2 1 [0] z (yj (S104.rf m3) z (ya 4 2 z (bsq R1 fun q105 Xq105 R1 => ya3 [6, 7, 8, 9, 10, 11, 12] 13 84 92 Xq105 (fun _ => yg 6 1 [1] z (yj (S104.rf m2) z (yg 8 2 [1] z (yj (S104.rf m3) z (ya 11 3 z yal))))) (yb (y6 R1 (fun G R1 => ?_) (fun G R1 => ?_)))))))))))
 refine yf [0] (ya 0 1 z (yb (yp (ye (yl (ye (yw ?_)))))))
 obtain rfl := hext48 _ (sj R1).symm
 exact yl (ye (sj D ▸ yy ⟨I60, rfl, le, S104.d4⟩))
 refine ym (yc (yf [0] (ya 0 1 z (yb (yo (bsk R1 fun t116 hloop120 R1 => have hlt124 := (h_s79.In).len_lt; W.wk (yas (m := s79.In.length) hloop120 (fun (i119 : Nat) (_s : Unit) => JI E I60 [(2, Pt b1 0), (3, Pt b5 0), (6, Nv i51), (7, Pt b_s79 0), (8, Pt b_s80 0), (9, Nv i119)] (bC b1 p0 w_p0 :: (bC b5 p1 w_p1) :: (bJ b_s79 s79 w_s79) :: (bJ b_s80 s80 w_s80) :: Os)) ⟨I60, rfl, lr, S104⟩ ?_ ?_)))))))
 rintro i119 _ _ w121 hi125 ⟨I117, rfl, L118, S122⟩ x123 R2 hext116
 refine yi (yf nL5 (yg 0 2 [1] z (yj (S122.rf m2) z (ya 3 2 z (yb (yaw fun _ => ym (yc (yi (yo (yi (have S126 := S122.drew; ybd nL11 10 (yt (S126.rd m2) (yt (S126.rd m3) (y8 S126.im))) ?_)))))))))))
 generalize World.drew _ = w127 at *
 refine yg 0 1 [1] z (yj (rd_c m0 (S126.rd m2)) z (ya 2 1 z ?_))
 obtain ⟨x128, R2, Hx128, _, rfl, Zx128⟩ := sx I117 h_s79.In R2
 refine yac 9 1 Hx128 z (yar Zx128 (rd_i S126.im) z (yg 5 1 [1] z (yj (rd_c m1 (S126.rd m3)) z (ya 7 1 z ?_))))
 obtain ⟨x129, R2, Hx129, _, rfl, Zx129⟩ := sx I117 h_s80.In R2
 refine yac 9 1 Hx129 z (yar Zx129 (rd_i S126.im) z (WO.tail z (ya 10 1 z (yb (y6 R2 (fun G R2 => ?_) (fun G R2 => ?_))))))
 refine yf [0] (ya 0 1 z (yb (yp (yl (ye (yw ?_))))))
 obtain rfl := hext116 _ (sj R2).symm
 refine yl (yl (ye (yw ?_)))
 obtain rfl := hext48 _ (sj R1).symm
 exact yl (ye (sj D ▸ yy ⟨I117, rfl, le, S126.d4⟩))
 exact ym (yn (yc (yak nL3 (ya 0 1 z (yaq i119 z (ya 2 1 z (yq (yx ⟨(), (sj R2).symm, I117, rfl, L118, S126⟩))))))))
 rintro _ _ w140 ⟨I117, rfl, L118, S141⟩ he
 cases he
 exact yi (yf nL5 (yg 0 2 [1] z (yj (S141.rf m2) z (ya 3 2 z (yb (yax fun _ => yae (yr (yu (yv (yn (yc (yak nL3 (ya 0 1 z (yaq i51 z (ya 2 1 z (yq (yx ⟨(), (sj R1).symm, I117, rfl, le, S141.front2.drop.front2.drop⟩)))))))))))))))))
 rintro _ _ w146 ⟨I49, rfl, L50, S147⟩ he
 cases he
 refine yi (yf nL5 (yg 0 2 [2] z (yj (S147.rf m0) z (ya 3 2 z (yb (yax fun _ => yae (yr (yu (yv (yc (yi (yf [0] (ya 0 1 z (yb (yo (bsk D fun t148 hloop152 D => have hlt156 := ((RSl.mono h_p0.Grants (L21.trans L50))).len_lt; W.wk (yas (m := p0.Grants.length) hloop152 (fun (i151 : Nat) (_s : Unit) => JI E I49 [(2, Pt b1 0), (3, Pt b5 0), (10, Nv i151)] (bC b1 p0 w_p0 :: (bC b5 p1 w_p1) :: Os)) ⟨I49, rfl, lr, S147⟩ ?_ ?_)))))))))))))))))
 rintro i151 _ _ w153 hi157 ⟨I149, rfl, L150, S154⟩ x155 R1 hext148
 refine yi (yf nL5 (yg 0 2 [3] z (yj (S154.rf m0) z (ya 3 2 z (yb (yaw fun _ => ym (yc (yi (yo (yi (have S158 := S154.drew; ybd nL11 10 (yt (S158.rd m0) (yt (S158.rd m1) (y8 S158.im))) ?_)))))))))))
 generalize World.drew _ = w159 at *
 refine yg 0 1 [3] z (yj (rd_c m0 (S158.rd m0)) z (ya 2 1 z ?_))
 obtain ⟨x160, R1, Hx160, _, rfl, Zx160⟩ := sx I149 h_p0.Grants R1
 refine yac 67 5 Hx160 z (yau ((cs_qG x160)) Zx160 0 (rd_i S158.im) z (yg 5 1 [3] z (yj (rd_c m1 (S158.rd m1)) z (ya 7 1 z ?_))))
 obtain ⟨x161, R1, Hx161, _, rfl, Zx161⟩ := sx I149 h_p1.Grants R1
 refine yac 67 5 Hx161 z (yau ((cs_qG x161)) Zx161 0 (rd_i S158.im) z (WO.tail z (ybx z kr z z kr 50 z (b := (sEq x160.To x161.To && (sEq x160.By x161.By && (sEq x160.Table x161.Table && ((x160.Priv == x161.Priv) && ((x160.Option == x161.Option) && true)))))) kr (!(sEq x160.To x161.To && (sEq x160.By x161.By && (sEq x160.Table x161.Table && ((x160.Priv == x161.Priv) && (x160.Option == x161.Option)))))) (.inr ⟨rfl, by simp only [Bool.and_true]⟩) ?_)))
 refine yb (y6 R1 (fun G R1 => ?_) (fun G R1 => ?_))
 refine yf [0] (ya 0 1 z (yb (yp (yl (ye (yw ?_))))))
 obtain rfl := hext148 _ (sj R1).symm
 exact yl (ye (sj D ▸ yy ⟨I149, rfl, le, S158.d2⟩))
 exact ym (yn (yc (yak nL3 (ya 0 1 z (yaq i151 z (ya 2 1 z (yq (yx ⟨(), (sj R1).symm, I149, rfl, L150, S158⟩))))))))
 rintro _ _ w168 ⟨I149, rfl, L150, S169⟩ he
 cases he
 exact yi (yf nL5 (yg 0 2 [3] z (yj (S169.rf m0) z (ya 3 2 z (yb (yax fun _ => yae (yr (yu (yv (yc (yf [0] (ya 0 1 z (yb (yp (sj D ▸ yy ⟨I149, rfl, le, S169.d2⟩)))))))))))))))
noncomputable def law19_GrantsPlay (p0 : List law19_Act) (p1 : Int) : Option Bool := (law19_Few p0).bind (fun r6 => (bif (!r6) then (law19_works).bind (fun r12 => some r12) else (law19_first).bind (fun r18 => (forN (fun (i29 : Nat) (s28 : qC) => ((idx p0 (i29 : Int)).bind (fun x40 => (bif (decide (x40.S.Kind < 10)) then (idx p0 (i29 : Int)).bind (fun x43 => (law19_Next s28 x43).bind (fun (r49, r50) => some (.inl r49))) else ((idx p0 (i29 : Int)).bind (fun x60 => (idx p0 (i29 : Int)).bind (fun x61 => (grants_Make s28 x60.S x61.By (w64 (4 + (w64 p1)))).bind (fun (r71, r72) => some (r71, r72))))).bind (fun ((s75, s76) : qC × Int) => ((idx p0 (i29 : Int)).bind (fun x102 => (idx p0 (i29 : Int)).bind (fun x103 => (r19_Make s28 x102.S x103.By (w64 (4 + (w64 p1)))).bind (fun (r113, r114) => some (r113, r114))))).bind (fun ((s117, s118) : qC × Int) => ((bif (s76 != s118) then some true else (r17_Same s75 s117).bind (fun r151 => some (!r151)))).bind (fun (j140 : Bool) => (bif j140 then some (.inr (false, s28)) else ((bif (s76 == 0) then some s75 else some s28)).bind (fun (j166 : qC) => some (.inl j166))))))))).bind (fun (t : qC ⊕ (Bool × qC)) => match t with | (.inl s53) => some (.inl s53) | (.inr (s157, s158)) => some (.inr (s157, s158)))) p0.length 0 r18).bind (fun (t : qC ⊕ ((Bool × qC))) => match t with | .inl s28 => (law19_works).bind (fun r187 => some r187) | .inr (s160, s161) => some s160))))
theorem law19_GrantsPlay_ok {p0 : List law19_Act} {p1 : Int} {a_p0 : Option Addr} {c_p0 : Nat} (h_p0 : RSl 22 R_law19_Act I a_p0 c_p0 p0) (hS : St E w I Os) {r : Bool} (D : law19_GrantsPlay p0 p1 = some r) :
    Calls P 3 #[(Sl a_p0 p0 c_p0), (.int .u8 p1)] w (RT E I Os (.bool r)) := by
 refine calls_W (fn := Tryz.f3) rfl rfl rfl ?_
 unfold law19_GrantsPlay at D
 refine yf [0] (ya 0 1 z (yb (yi (yf nL3 (ya 0 1 z (bsk D fun r6 Xr1 D => WO.c1 (law19_Few_ok h_p0 hS Xr1) z fun I3 w2 L4 S5 => ya 2 1 z (yb (y6 D (fun G D => ?_) (fun G D => ?_)))))))))
 exact yf nL2 (bsk D fun r12 Xr7 D => WO.c1 (law19_works_ok  S5 Xr7) z fun I9 w8 L10 S11 => ya 1 1 z (yb (yp (ye (sj D ▸ yy ⟨I9, rfl, le, S11⟩)))))
 refine ym (yc (yf nL3 (bsk D fun r18 Xr13 D => yaj (law19_first_ok  S5 Xr13) ?_)))
 rintro _ w14 ⟨I15, w_r18, rfl, L16, S17, h_r18⟩
 refine cv (yad S17 (cs_qC z_qC zw_qC) 29 z fun b19 w22 S21 => yaf S21 0 (cs_qC r18 w_r18) fun w24 S23 => yb (yi (yf [0] (ya 0 1 z (yb (yo (bsk D fun t25 hloop30 D => have hlt34 := ((RSl.mono h_p0 (L4.trans L16))).len_lt; W.wk (yas (m := p0.length) hloop30 (fun (i29 : Nat) (s28 : qC) fr w => ∃ I26 w_s28, fr = [(0, Sl a_p0 p0 c_p0), (1, .int .u8 p1), (5, Pt b19 0), (6, Nv i29)] ∧ I15.Le I26 ∧ St E w I26 (bC b19 s28 w_s28 :: Os) ∧ ok_qC I26 s28 w_s28) ⟨I15, w_r18, rfl, lr, S23, h_r18⟩ ?_ ?_))))))))
 rintro i29 s28 _ w31 hi35 ⟨I26, w_s28, rfl, L27, S32, h_s28⟩ x33 R1 hext25
 refine yi (yf nL4 (ya 0 4 z (yb (yaw fun _ => ym (yc (yi (bsk R1 fun j36 R2 R1 => ya0 (J := (fun fr w => ∃ (s53 : qC), ∃ I38 w_s53, (.inl s53) = j36 ∧ fr = [(0, Sl a_p0 p0 c_p0), (1, .int .u8 p1), (5, Pt b19 0), (6, Nv i29)] ∧ I26.Le I38 ∧ St E w I38 (bC b19 s53 w_s53 :: Os) ∧ ok_qC I38 s53 w_s53)) ?_ ?_)))))))
 refine yo (yi (yf nL7 (ya 0 2 z ?_)))
 obtain ⟨x40, R2, Hx40, _, ⟨w_x40, rfl, h_x40⟩, Zx40⟩ := sx I26 h_p0 R2
 refine yac 46 22 Hx40 z (yg 3 2 [0, 0] z (yar Zx40 S32.rm z (ya 6 1 z (yb (y6 R2 (fun G R2 => ?_) (fun G R2 => ?_))))))
 refine yi (have S41 := S32.drew; yb0 (l := nL10) kr 9 (KR I26 [bC b19 s28 w_s28]) qR (.ords nL10 [0, 1, 2, 3, 4, 5, 6, 7, 9, 8] kr kr kr kr kr) kr (yt (S41.rd m0) (y8 S41.im)) ?_)
 generalize World.drew _ = w42 at *
 refine yab ((cs_qC s28 w_s28)) (rd_c m0 (S41.rd m0)) z (ya 1 2 z ?_)
 obtain ⟨x43, R2, Hx43, _, ⟨w_x43, rfl, h_x43⟩, Zx43⟩ := sx I26 h_p0 R2
 refine yac 46 22 Hx43 z (yau ((cs_law19_Act x43 w_x43)) Zx43 0 (rd_i S41.im) z ?_)
 obtain ⟨⟨r49, r50⟩, Xr44, R2⟩ := bsm R2
 refine yaj (law19_Next_ok h_s28 h_x43 S41 Xr44) ?_
 rintro _ w45 ⟨I46, w_r49, rfl, L47, S48, h_r49⟩
 refine ⟨_, rfl, (yt (S48.rd m0) (y8 (S48.im.of_le L47))), ?_⟩
 exact ya 6 3 z (WO.tail z (yaf S48 0 (cs_qC r49 w_r49) fun w52 S51 => yb (yae (yr (yv (yx ⟨r49, I46, w_r49, sj R2, rfl, L47, S51, h_r49⟩))))))
 refine ym (yc (yi (bsk R2 fun j54 R3 R2 => ya0 (J := (fun fr w => ∃ (s75 : qC) (s76 : Int), ∃ I56 w_s75 b_s75, (s75, s76) = j54 ∧ fr = [(0, Sl a_p0 p0 c_p0), (1, .int .u8 p1), (5, Pt b19 0), (6, Nv i29), (7, Pt b_s75 0), (8, Iv s76)] ∧ I26.Le I56 ∧ St E w I56 (bC b19 s28 w_s28 :: (bC b_s75 s75 w_s75) :: Os) ∧ ok_qC I56 s75 w_s75)) ?_ ?_)))
 have S58 := S32.drew
 refine yb1 (.split 18 14 (.leaf [0, 1, 2, 3, 4, 5, 6, 7, 8, 9, 10, 11, 12, 13, 18, 14, 15, 16, 17, 19, 20]) (.leaf nL21)) 19 (KR I26 [bC b19 s28 w_s28]) qR (.ords nL21 [0, 1, 2, 3, 4, 5, 6, 7, 8, 9, 10, 11, 12, 13, 14, 15, 16, 18, 19, 17, 20] kr kr kr kr kr) kr (yt (S58.rd m0) (y8 S58.im)) ?_
 generalize World.drew _ = w59 at *
 refine ⟨?_, ?_⟩
 show WO _ _ _ _ _ _ _ [0, 1, 2, 3, 4, 5, 6, 7, 8, 9, 10, 11, 12, 13, 18, 14, 15, 16, 17, 19, 20] _ _
 refine yab ((cs_qC s28 w_s28)) (rd_c m0 (S58.rd m0)) z (ya 1 2 z ?_)
 obtain ⟨x60, R3, Hx60, _, ⟨w_x60, rfl, h_x60⟩, Zx60⟩ := sx I26 h_p0 R3
 refine yac 46 22 Hx60 z (yg 4 1 [0] z (yau ((cs_qS x60.S w_x60.S)) Zx60 0 (rd_i S58.im) z (ya 6 2 z ?_)))
 obtain ⟨x61, R3, Hx61, _, ⟨w_x61, rfl, h_x61⟩, Zx61⟩ := sx I26 h_p0 R3
 refine yac 46 22 Hx61 z (yg 9 1 [21] z (ya2 Zx61 21 (rd_i S58.im) z (ya 11 1 z (y7 12 51 (Iv (w64 p1)) (ya 13 1 z (ybk S58 z kr z (.cells (cs_qC z_qC zw_qC).toArray 29 (0, 0)) (fun b => .pointer (some ⟨b, 0, none⟩)) kr (fun b62 w65 S64 => (yt (S64.rd m1) (y8 S64.im))) ?_))))))
 intro b62 w65 S64
 obtain ⟨⟨r71, r72⟩, Xr66, R3⟩ := bsm R3
 refine yaj (grants_Make_ok h_s28 h_x60.S S64 Xr66) ?_
 rintro _ w67 ⟨I68, w_r71, rfl, L69, S70, h_r71⟩
 refine ⟨_, rfl, (yt (S70.rd m1) (y8 (S70.im.of_le L69))), ?_⟩
 exact ya 15 3 z (WO.tail z (yaf S70 0 (cs_qC r71 w_r71) fun w74 S73 => ya 20 1 z (yq (yx ⟨r71, r72, I68, w_r71, b62, sj R3, rfl, L69, S73.front1, h_r71⟩))))
 show WO _ _ _ _ _ _ _ nL21 _ _
 refine yab ((cs_qC s28 w_s28)) (rd_c m0 (S58.rd m0)) z (ya 1 2 z ?_)
 obtain ⟨x78, R3, Hx78, _, ⟨w_x78, rfl, h_x78⟩, Zx78⟩ := sx I26 h_p0 R3
 refine yac 46 22 Hx78 z (yg 4 1 [0] z (yau ((cs_qS x78.S w_x78.S)) Zx78 0 (rd_i S58.im) z (ya 6 2 z ?_)))
 obtain ⟨x79, R3, Hx79, _, ⟨w_x79, rfl, h_x79⟩, Zx79⟩ := sx I26 h_p0 R3
 refine yac 46 22 Hx79 z (yg 9 1 [21] z (ya2 Zx79 21 (rd_i S58.im) z (ya 11 1 z (y7 12 51 (Iv (w64 p1)) (ya 13 1 z ?_)))))
 obtain ⟨⟨r85, r86⟩, Xr80, R3⟩ := bsm R3
 refine yaj (grants_Make_ok h_s28 h_x78.S S58 Xr80) ?_
 rintro _ w81 ⟨I82, w_r85, rfl, L83, S84, h_r85⟩
 refine ⟨_, rfl, (yt (S84.rd m0) (y8 (S84.im.of_le L83))), ?_⟩
 refine ya 15 3 z (ybk S84 z kr z (.cells (cs_qC z_qC zw_qC).toArray 29 (0, 0)) (fun b => .pointer (some ⟨b, 0, none⟩)) kr (fun b87 w90 S89 => (yt (S89.rd m1) (y8 (S89.im.of_le L83)))) ?_)
 intro b87 w90 S89
 exact WO.tail z (yaf S89 0 (cs_qC r85 w_r85) fun w92 S91 => ya 20 1 z (yq (yx ⟨r85, r86, I82, w_r85, b87, sj R3, rfl, L83, S91.front1, h_r85⟩)))
 rintro _ w94 ⟨s75, s76, I56, w_s75, b_s75, rfl, rfl, L57, S95, h_s75⟩
 refine yc (yi (bsk R2 fun j96 R3 R2 => ya0 (J := (fun fr w => ∃ (s117 : qC) (s118 : Int), ∃ I98 w_s117 b_s117, (s117, s118) = j96 ∧ fr = [(0, Sl a_p0 p0 c_p0), (1, .int .u8 p1), (5, Pt b19 0), (6, Nv i29), (7, Pt b_s75 0), (8, Iv s76), (9, Pt b_s117 0), (10, Iv s118)] ∧ I56.Le I98 ∧ St E w I98 (bC b19 s28 w_s28 :: (bC b_s75 s75 w_s75) :: (bC b_s117 s117 w_s117) :: Os) ∧ ok_qC I98 s117 w_s117)) ?_ ?_))
 have S100 := S95.drew
 refine yb1 (.split 18 14 (.leaf [0, 1, 2, 3, 4, 5, 6, 7, 8, 9, 10, 11, 12, 13, 18, 14, 15, 16, 17, 19, 20]) (.leaf nL21)) 19 (KR I56 [bC b19 s28 w_s28]) qR (.ords nL21 [0, 1, 2, 3, 4, 5, 6, 7, 8, 9, 10, 11, 12, 13, 14, 15, 16, 18, 19, 17, 20] kr kr kr kr kr) kr (yt (S100.rd m0) (y8 S100.im)) ?_
 generalize World.drew _ = w101 at *
 refine ⟨?_, ?_⟩
 show WO _ _ _ _ _ _ _ [0, 1, 2, 3, 4, 5, 6, 7, 8, 9, 10, 11, 12, 13, 18, 14, 15, 16, 17, 19, 20] _ _
 refine yab ((cs_qC s28 w_s28)) (rd_c m0 (S100.rd m0)) z (ya 1 2 z ?_)
 obtain ⟨x102, R3, Hx102, _, ⟨w_x102, rfl, h_x102⟩, Zx102⟩ := sx I56 h_p0 R3
 refine yac 46 22 Hx102 z (yg 4 1 [0] z (yau ((cs_qS x102.S w_x102.S)) Zx102 0 (rd_i S100.im) z (ya 6 2 z ?_)))
 obtain ⟨x103, R3, Hx103, _, ⟨w_x103, rfl, h_x103⟩, Zx103⟩ := sx I56 h_p0 R3
 refine yac 46 22 Hx103 z (yg 9 1 [21] z (ya2 Zx103 21 (rd_i S100.im) z (ya 11 1 z (y7 12 69 (Iv (w64 p1)) (ya 13 1 z (ybk S100 z kr z (.cells (cs_qC z_qC zw_qC).toArray 29 (0, 0)) (fun b => .pointer (some ⟨b, 0, none⟩)) kr (fun b104 w107 S106 => (yt (S106.rd m1) (y8 S106.im))) ?_))))))
 intro b104 w107 S106
 obtain ⟨⟨r113, r114⟩, Xr108, R3⟩ := bsm R3
 refine yaj (r19_Make_ok (h_s28.mono L57) h_x102.S S106 Xr108) ?_
 rintro _ w109 ⟨I110, w_r113, rfl, L111, S112, h_r113⟩
 refine ⟨_, rfl, (yt (S112.rd m1) (y8 (S112.im.of_le L111))), ?_⟩
 exact ya 15 3 z (WO.tail z (yaf S112 0 (cs_qC r113 w_r113) fun w116 S115 => ya 20 1 z (yq (yx ⟨r113, r114, I110, w_r113, b104, sj R3, rfl, L111, S115.front2.front2, h_r113⟩))))
 show WO _ _ _ _ _ _ _ nL21 _ _
 refine yab ((cs_qC s28 w_s28)) (rd_c m0 (S100.rd m0)) z (ya 1 2 z ?_)
 obtain ⟨x121, R3, Hx121, _, ⟨w_x121, rfl, h_x121⟩, Zx121⟩ := sx I56 h_p0 R3
 refine yac 46 22 Hx121 z (yg 4 1 [0] z (yau ((cs_qS x121.S w_x121.S)) Zx121 0 (rd_i S100.im) z (ya 6 2 z ?_)))
 obtain ⟨x122, R3, Hx122, _, ⟨w_x122, rfl, h_x122⟩, Zx122⟩ := sx I56 h_p0 R3
 refine yac 46 22 Hx122 z (yg 9 1 [21] z (ya2 Zx122 21 (rd_i S100.im) z (ya 11 1 z (y7 12 69 (Iv (w64 p1)) (ya 13 1 z ?_)))))
 obtain ⟨⟨r128, r129⟩, Xr123, R3⟩ := bsm R3
 refine yaj (r19_Make_ok (h_s28.mono L57) h_x121.S S100 Xr123) ?_
 rintro _ w124 ⟨I125, w_r128, rfl, L126, S127, h_r128⟩
 refine ⟨_, rfl, (yt (S127.rd m0) (y8 (S127.im.of_le L126))), ?_⟩
 refine ya 15 3 z (ybk S127 z kr z (.cells (cs_qC z_qC zw_qC).toArray 29 (0, 0)) (fun b => .pointer (some ⟨b, 0, none⟩)) kr (fun b130 w133 S132 => (yt (S132.rd m1) (y8 (S132.im.of_le L126)))) ?_)
 intro b130 w133 S132
 exact WO.tail z (yaf S132 0 (cs_qC r128 w_r128) fun w135 S134 => ya 20 1 z (yq (yx ⟨r128, r129, I125, w_r128, b130, sj R3, rfl, L126, S134.front2.front2, h_r128⟩)))
 rintro _ w138 ⟨s117, s118, I98, w_s117, b_s117, rfl, rfl, L99, S139, h_s117⟩
 refine yc (yi (yf nL9 (ya 0 4 z (bsk R2 fun j140 R3 R2 => yap (l1 := [4, 5, 6, 7, 8]) (J := JI E I98 [(0, Sl a_p0 p0 c_p0), (1, .int .u8 p1), (5, Pt b19 0), (6, Nv i29), (7, Pt b_s75 0), (8, Iv s76), (82, .bool j140)] (bC b19 s28 w_s28 :: (bC b_s75 s75 w_s75) :: Os)) ?_ ?_))))
 refine yao R3 (fun G R3 => ?_) (fun G R3 => ?_)
 refine y4 77 G ?_
 iterate 4 refine yan ?_
 exact ya 8 1 z (sj R3 ▸ y3 ⟨I98, rfl, lr, S139.front2.drop⟩)
 exact y4 77 G (yab ((cs_qC s75 w_s75)) (S139.rf m1) z (yab ((cs_qC s117 w_s117)) (S139.rf m2) z (bsk R3 fun r151 Xr146 R3 => WO.c1 (r17_Same_ok (h_s75.mono L99) h_s117 S139 Xr146) z fun I148 w147 L149 S150 => ya 7 2 z (sj R3 ▸ y3 ⟨I148, rfl, L149, S150.front2.drop⟩))))
 rintro _ w154 ⟨I142, rfl, L143, S155⟩
 refine yb (y6 R2 (fun G R2 => ?_) (fun G R2 => ?_))
 refine yf [0] (ya 0 1 z (yb (yp (ye (yl (yw ?_))))))
 obtain rfl := sj R2
 refine ye (yw ?_)
 obtain rfl := hext25 _ (sj R1).symm
 exact yl (ye (sj D ▸ yy ⟨I142, rfl, le, S155.d2⟩))
 refine ym (yc (yf nL2 (ya 0 2 z (yb (bsk R2 fun j166 R3 R2 => ya0 (J := (fun fr w => ∃ I168 w_j166, fr = [(0, Sl a_p0 p0 c_p0), (1, .int .u8 p1), (5, Pt b19 0), (6, Nv i29)] ∧ I142.Le I168 ∧ St E w I168 (bC b19 j166 w_j166 :: Os) ∧ ok_qC I168 j166 w_j166)) ?_ ?_)))))
 refine y6 R3 (fun G R3 => ?_) (fun G R3 => ?_)
 exact yak nL2 (yab ((cs_qC s75 w_s75)) (S155.rf m1) z (yaf S155 0 (cs_qC s75 w_s75) fun w171 S170 => yq (sj R3 ▸ yx ⟨I142, w_s75, rfl, lr, S170.front1.drop, (h_s75.mono le)⟩)))
 exact ym (sj R3 ▸ yx ⟨I142, w_s28, rfl, lr, S155.front1.drop, (h_s28.mono le)⟩)
 rintro _ w176 ⟨I168, w_j166, rfl, L169, S177, h_j166⟩
 exact yn (yx ⟨j166, I168, w_j166, sj R2, rfl, le, S177, h_j166⟩)
 rintro _ w178 ⟨s53, I38, w_s53, rfl, rfl, L39, S179, h_s53⟩
 exact yc (yak nL3 (ya 0 1 z (yaq i29 z (ya 2 1 z (yq (yx ⟨s53, (sj R1).symm, I38, w_s53, rfl, le, S179, h_s53⟩))))))
 rintro s28 _ w180 ⟨I26, w_s28, rfl, L27, S181, h_s28⟩ he
 cases he
 exact yi (yf nL4 (ya 0 4 z (yb (yax fun _ => yae (yr (yu (yv (yc (yf nL2 (bsk D fun r187 Xr182 D => WO.c1 (law19_works_ok  S181 Xr182) z fun I184 w183 L185 S186 => ya 1 1 z (yb (yp (sj D ▸ yy ⟨I184, rfl, le, S186.drop⟩)))))))))))))
noncomputable def r19_May (p0 : qC) (p1 : By8) (p2 : Int) (p3 : By8) : Option Bool := (r19_Owns p0 p1 p3).bind (fun r12 => ((bif r12 then some true else (r19_Held p0).bind (fun r22 => (r19_has p0 r22 p1 p2 p3 false).bind (fun r28 => some r28)))).bind (fun (j13 : Bool) => some j13))
theorem r19_May_ok {p0 : qC} {p1 : By8} {p2 : Int} {p3 : By8} {w_p0 : W_qC} (h_p0 : ok_qC I p0 w_p0) (hS : St E w I Os) {r : Bool} (D : r19_May p0 p1 p2 p3 = some r) :
    Calls P 24 #[(vC p0 w_p0), (.string p1), (Iv p2), (.string p3)] w (RT E I Os (.bool r)) := by
 refine calls_W (fn := Tryz.f24) rfl rfl rfl ?_
 unfold r19_May at D
 refine yf nL2 (yad hS (cs_qC p0 w_p0) 29 z fun b1 w4 S3 => ya 1 1 z (yb (yi (have S5 := S3.drew; ybd nL14 13 (yt (S5.rd m0) (y8 S5.im)) ?_))))
 generalize World.drew _ = w6 at *
 refine yab ((cs_qC p0 w_p0)) (rd_c m0 (S5.rd m0)) z (ya 1 2 z (bsk D fun r12 Xr7 D => yaj (r19_Owns_ok h_p0 S5 Xr7) ?_))
 rintro _ w8 ⟨I9, rfl, L10, S11⟩
 refine ⟨_, rfl, (yt (S11.rd m0) (y8 (S11.im.of_le L10))), ?_⟩
 refine ya 4 1 z (bsk D fun j13 R1 D => yap (l1 := [5, 6, 7, 8, 9, 10, 11, 12]) (J := JI E I9 [(21, .bool j13)] (bC b1 p0 w_p0 :: Os)) ?_ ?_)
 refine yao R1 (fun G R1 => ?_) (fun G R1 => ?_)
 refine y4 13 G ?_
 iterate 7 refine yan ?_
 exact ya 12 1 z (sj R1 ▸ y3 ⟨I9, rfl, lr, S11⟩)
 refine y4 13 G (yab ((cs_qC p0 w_p0)) (rd_c m0 (S11.rd m0)) z (yab ((cs_qC p0 w_p0)) (rd_c m0 (S11.rd m0)) z (bsk R1 fun r22 Xr17 R1 => yaj (r19_Held_ok (h_p0.mono L10) S11 Xr17) ?_)))
 rintro _ w18 ⟨I19, a_r22, c_r22, rfl, L20, S21, h_r22⟩
 refine ⟨_, rfl, (yt (S21.rd m0) (y8 (S21.im.of_le le))), ?_⟩
 refine ya 8 3 z (bsk R1 fun r28 Xr23 R1 => yaj (r19_has_ok (h_p0.mono le) h_r22 S21 Xr23) ?_)
 rintro _ w24 ⟨I25, rfl, L26, S27⟩
 refine ⟨_, rfl, (yt (S27.rd m0) (y8 (S27.im.of_le le))), ?_⟩
 exact ya 12 1 z (sj R1 ▸ y3 ⟨I25, rfl, le, S27⟩)
 rintro _ w29 ⟨I15, rfl, L16, S30⟩
 exact WO.tail z (ya 13 1 z (yb (yp (sj D ▸ yy ⟨I15, rfl, le, S30.drop⟩))))
end Go.Proofs.YtdmapcjbbbifbaaGreat
