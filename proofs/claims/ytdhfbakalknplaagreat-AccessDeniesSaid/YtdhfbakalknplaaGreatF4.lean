/- What functions of the program come to, each by a plain one. Conditions: none. -/
import Derived.Test.YtdhfbakalknplaaGreatF3
import Derived.Test.YtdhfbakalknplaaGreatProg
set_option maxRecDepth 100000
namespace Go.Proofs.YtdhfbakalknplaaGreat
open Go.Gv
set_option maxHeartbeats 1000000
variable {E w : World} {I : Mem} {Os : List Mem}
noncomputable def r17_Make (p0 : qC) (p1 : qS) (p2 : By8) (p3 : Int) : Option (qC × Int) := (bif ((decide (p1.Kind < 1)) || (decide (p1.Kind > 9))) then some (z_qC, 2) else (r17_At p0 p1.Table).bind (fun r25 => (bif ((p1.Kind == 1) && (decide (r25 ≥ 0))) then some (z_qC, 19) else (bif ((p1.Kind == 1) && (decide ((p0.Tables.length : Int) ≥ 8))) then some (z_qC, 5) else (bif ((p1.Kind != 1) && (decide (r25 < 0))) then some (z_qC, 4) else (r17_without p0 p1.Table).bind (fun r52 => ((bif (p1.Kind == 1) then some (.inl ((0 : Int), z_qC, r52.Version, r52.Tables, r52.Roles, r52.Grants, { z_qT with Name := p1.Table, Owner := p2, Cols := p1.Cols, Cons := p1.Cons })) else ((bif (p1.Kind == 2) then (r17_refers_nilsl p0 p1.Table p1.Table eB).bind (fun r90 => (bif r90 then some (.inl (34, z_qC, z_qT)) else (forE (fun (i124 : Nat) (s123 : List qG) => (idx p0.Grants (i124 : Int)).bind (fun x140 => ((bif (!sEq x140.Table p1.Table) then (idx p0.Grants (i124 : Int)).bind (fun x147 => (app 64 s123 ([x147] : List qG)).bind (fun x156 => some x156)) else some s123)).bind (fun (j141 : List qG) => some j141))) p0.Grants.length 0 ([] : List qG)).bind (fun s123 => some (.inr ((0 : Int), z_qC, r52.Version, r52.Tables, r52.Roles, s123, z_qT))))) else ((bif (p1.Kind == 5) then (r17_At p0 p1.Name).bind (fun r199 => (bif (decide (r199 ≥ 0)) then some (.inl (19, z_qC, z_qT)) else (idx p0.Tables r25).bind (fun x219 => (r17_renamed p0 x219 p1.Name).bind (fun (r225, r226) => some (.inr ((0 : Int), z_qC, r225.Version, r225.Tables, r225.Roles, r225.Grants, r226)))))) else (idx p0.Tables r25).bind (fun x246 => (r17_turned p0 x246 p1).bind (fun (r252, r253) => some (.inr (r253, z_qC, r52.Version, r52.Tables, r52.Roles, r52.Grants, r252)))))).bind (fun (t : (Int × qC × qT) ⊕ (Int × qC × Int × (List qT) × (List qJ) × (List qG) × qT)) => match t with | (.inl (s204, s205, s206)) => some (.inl (s204, s205, s206)) | (.inr (s233, s234, s235, s236, s237, s238, s239)) => some (.inr (s233, s234, s235, s236, s237, s238, s239))))).bind (fun (t : (Int × qC × qT) ⊕ (Int × qC × Int × (List qT) × (List qJ) × (List qG) × qT)) => match t with | (.inl (s95, s96, s97)) => some (.inr (s95, s96, s97)) | (.inr (s178, s179, s180, s181, s182, s183, s184)) => some (.inl (s178, s179, s180, s181, s182, s183, s184))))).bind (fun (t : (Int × qC × Int × (List qT) × (List qJ) × (List qG) × qT) ⊕ (Int × qC × qT)) => match t with | (.inl (s69, s70, s71, s72, s73, s74, s75)) => ((bif ((s69 == 0) && (p1.Kind != 2)) then (r17_Sound (⟨s71, s72, s73, s74⟩ : qC) s75).bind (fun r278 => some r278) else some s69)).bind (fun (j268 : Int) => ((bif ((j268 == 0) && (decide (p0.Version ≥ p3))) then some 52 else some j268)).bind (fun (j283 : Int) => (bif (j283 != 0) then some (z_qC, j283) else ((bif (p1.Kind != 2) then (r17_with (⟨s71, s72, s73, s74⟩ : qC) ({ s75 with Version := (w64 (p0.Version + 1)) })).bind (fun r311 => some (r311.Version, r311.Tables, r311.Roles, r311.Grants, { s75 with Version := (w64 (p0.Version + 1)) })) else some (s71, s72, s73, s74, s75))).bind (fun ((s315, s316, s317, s318, s319) : Int × (List qT) × (List qJ) × (List qG) × qT) => some ((⟨(w64 (p0.Version + 1)), s316, s317, s318⟩ : qC), 0))))) | (.inr (s99, s100, s101)) => some (s100, s99))))))))
theorem r17_Make_ok {p0 : qC} {p1 : qS} {p2 : By8} {p3 : Int} {w_p0 : W_qC} {w_p1 : W_qS} (h_p0 : ok_qC I p0 w_p0) (h_p1 : ok_qS I p1 w_p1) (hS : St E w I Os) {r : qC × Int} (D : r17_Make p0 p1 p2 p3 = some r) :
    Calls P 49 #[(vC p0 w_p0), (vS p1 w_p1), (.string p2), (Iv p3)] w (fun e w' => ∃ I' w_rw0, e = .returned (.tuple #[(vC r.1 w_rw0), (Iv r.2)]) ∧ I.Le I' ∧ St E w' I' Os ∧ ok_qC I' r.1 w_rw0) := by
 refine calls_W (fn := Tryz.f49) rfl rfl rfl ?_
 unfold r17_Make at D
 refine ye nL4 (yaa hS (cs_qC p0 w_p0) 44 z fun b1 w4 S3 => yaa S3 (cs_qS p1 w_p1) 36 z fun b5 w8 S7 => yaa S7 (cs_qC z_qC zw_qC) 44 z fun b9 w12 S11 => ya 3 1 z (yb (yi (ye nL8 (yh 0 1 [0] z (yj (S11.rf m1) z (ya 2 2 z (ya7 [4, 5, 6] 7 18 22 (.refl ((decide (p1.Kind < 1)) || (decide (p1.Kind > 9)))) (fun _ => yh 4 1 [0] z (yj (S11.rf m1) z (ya 6 2 z yal))) (yb (y3 D (fun G D => ?_) (fun G D => ?_)))))))))))
 exact ye nL3 (yaf 0 23 (vC z_qC zw_qC) (yad S11 0 (cs_qC z_qC zw_qC) fun w16 S15 => ya 2 1 z (yb (yq (yf (sj D ▸ yba _ (S15.rd m0) ⟨I, zw_qC, rfl, lr, S15.d3, zok_qC⟩))))))
 refine yl (yc (ye nL5 (y4 ((cs_qC p0 w_p0)) (S11.rf m2) z (yh 1 1 [1] z (yj (S11.rf m1) z (bsk D fun r25 Xr20 D => WO.c1 (r17_At_ok h_p0 S11 Xr20) z fun I22 w21 L23 S24 => ya 4 1 z (yb (yi (ye nL7 (yh 0 1 [0] z (yj (S24.rf m1) z (ya 2 2 z (yaz [4, 5] 6 31 34 (.refl ((p1.Kind == 1) && (decide (r25 ≥ 0)))) (fun _ => ya 4 3 z yal) (yb (y3 D (fun G D => ?_) (fun G D => ?_))))))))))))))))
 exact ye nL3 (yaf 0 35 (vC z_qC zw_qC) (yad S24 0 (cs_qC z_qC zw_qC) fun w29 S28 => ya 2 1 z (yb (yq (yf (sj D ▸ yba _ (S28.rd m0) ⟨I22, zw_qC, rfl, L23, S28.d3, zok_qC⟩))))))
 refine yl (yc (yi (ye nL9 (yh 0 1 [0] z (yj (S24.rf m1) z (ya 2 2 z (yaz [4, 5, 6, 7] 8 39 44 (.refl ((p1.Kind == 1) && (decide ((p0.Tables.length : Int) ≥ 8)))) (fun _ => yh 4 1 [1] z (yj (S24.rf m2) z (ya 6 3 z yal))) (yb (y3 D (fun G D => ?_) (fun G D => ?_))))))))))
 exact ye nL3 (yaf 0 45 (vC z_qC zw_qC) (yad S24 0 (cs_qC z_qC zw_qC) fun w36 S35 => ya 2 1 z (yb (yq (yf (sj D ▸ yba _ (S35.rd m0) ⟨I22, zw_qC, rfl, L23, S35.d3, zok_qC⟩))))))
 refine yl (yc (yi (ye nL7 (yh 0 1 [0] z (yj (S24.rf m1) z (ya 2 2 z (yaz [4, 5] 6 49 52 (.refl ((p1.Kind != 1) && (decide (r25 < 0)))) (fun _ => ya 4 3 z yal) (yb (y3 D (fun G D => ?_) (fun G D => ?_))))))))))
 exact ye nL3 (yaf 0 53 (vC z_qC zw_qC) (yad S24 0 (cs_qC z_qC zw_qC) fun w43 S42 => ya 2 1 z (yb (yq (yf (sj D ▸ yba _ (S42.rd m0) ⟨I22, zw_qC, rfl, L23, S42.d3, zok_qC⟩))))))
 refine yl (yc (ye nL6 (y4 ((cs_qC p0 w_p0)) (S24.rf m2) z (yh 1 1 [1] z (yj (S24.rf m1) z (bsk D fun r52 Xr47 D => yaj (r17_without_ok (h_p0.mono L23) S24 Xr47) ?_))))))
 rintro _ w48 ⟨I49, w_r52, rfl, L50, S51, h_r52⟩
 refine cv (yaa S51 (cs_qC z_qC zw_qC) 44 z fun b53 w56 S55 => yad S55 0 (cs_qC r52 w_r52) fun w58 S57 => y8 [0] (yaa S57 (cs_qT z_qT zw_qT) 52 z fun b59 w62 S61 => y8 [0] (ya 0 1 z (yb (yi (ye nL2 (yh 0 1 [0] z (yj (S61.rf m3) z (yb (yo (ye nL2 (ya 0 2 z (yb (bsk D fun j63 R1 D => ya0 (J := (fun fr w => ∃ (s69 : Int) (s70 : qC) (s71 : Int) (s72 : List qT) (s73 : List qJ) (s74 : List qG) (s75 : qT), ∃ I65 w_s70 a_s72 c_s72 a_s73 c_s73 a_s74 c_s74 w_s75, (.inl (s69, s70, s71, s72, s73, s74, s75)) = j63 ∧ fr = [(3, Iv p3), (4, Pt b1 0), (5, Pt b5 0), (8, Pt b9 0), (11, Pt b53 0), (12, Pt b59 0), (13, Iv s69)] ∧ I49.Le I65 ∧ St E w I65 (bC b1 p0 w_p0 :: (bS b5 p1 w_p1) :: (bC b9 s70 w_s70) :: (Bx b53 (cs_qC (⟨s71, s72, s73, s74⟩ : qC) (⟨⟨a_s72, c_s72⟩, ⟨a_s73, c_s73⟩, ⟨a_s74, c_s74⟩⟩ : W_qC)) 44) :: (bT b59 s75 w_s75) :: Os) ∧ ok_qC I65 s70 w_s70 ∧ RSl 6 R_qT I65 a_s72 c_s72 s72 ∧ RSl 2 R_qJ I65 a_s73 c_s73 s73 ∧ RSl 5 R_qG I65 a_s74 c_s74 s74 ∧ ok_qT I65 s75 w_s75)) ?_ ?_))))))))))))))
 refine y3 R1 (fun G R1 => ?_) (fun G R1 => ?_)
 refine yai nL9 (yh 0 1 [1] z (yj (S61.rf m3) z (yh 2 2 [4] z (yj (S61.rf m3) z (yh 5 1 [5] z (yj (S61.rf m3) z (yaf 7 80 (.agg (cs_qT ({ z_qT with Name := p1.Table, Owner := p2, Cols := p1.Cols, Cons := p1.Cons }) ({ zw_qT with Cols := ⟨w_p1.Cols.a, w_p1.Cols.c⟩, Cons := ⟨w_p1.Cons.a, w_p1.Cons.c⟩ })).toArray) (yad S61 0 (cs_qT ({ z_qT with Name := p1.Table, Owner := p2, Cols := p1.Cols, Cons := p1.Cons }) ({ zw_qT with Cols := ⟨w_p1.Cols.a, w_p1.Cols.c⟩, Cons := ⟨w_p1.Cons.a, w_p1.Cons.c⟩ })) fun w68 S67 => yr ?_))))))))
 have hk76 : ok_qT I49 ({ z_qT with Name := p1.Table, Owner := p2, Cols := p1.Cols, Cons := p1.Cons }) ({ zw_qT with Cols := ⟨w_p1.Cols.a, w_p1.Cols.c⟩, Cons := ⟨w_p1.Cons.a, w_p1.Cons.c⟩ }) := ⟨(RSl.mono h_p1.Cols (L23.trans L50)), (RSl.mono h_p1.Cons (L23.trans L50)), SlAt.nil⟩
 exact yx ⟨0, z_qC, r52.Version, r52.Tables, r52.Roles, r52.Grants, { z_qT with Name := p1.Table, Owner := p2, Cols := p1.Cols, Cons := p1.Cons }, I49, zw_qC, w_r52.Tables.a, w_r52.Tables.c, w_r52.Roles.a, w_r52.Roles.c, w_r52.Grants.a, w_r52.Grants.c, ({ zw_qT with Cols := ⟨w_p1.Cols.a, w_p1.Cols.c⟩, Cons := ⟨w_p1.Cons.a, w_p1.Cons.c⟩ }), sj R1, rfl, lr, S67.front1.front2.front3.front4, zok_qC, h_r52.Tables, h_r52.Roles, h_r52.Grants, hk76⟩
 refine ye nL2 (ya 0 2 z (yb (bsk R1 fun j81 R2 R1 => ya0 (J := (fun fr w => ∃ (s178 : Int) (s179 : qC) (s180 : Int) (s181 : List qT) (s182 : List qJ) (s183 : List qG) (s184 : qT), ∃ I83 w_s179 a_s181 c_s181 a_s182 c_s182 a_s183 c_s183 w_s184, (.inr (s178, s179, s180, s181, s182, s183, s184)) = j81 ∧ fr = [(3, Iv p3), (4, Pt b1 0), (5, Pt b5 0), (8, Pt b9 0), (11, Pt b53 0), (12, Pt b59 0), (13, Iv s178)] ∧ I49.Le I83 ∧ St E w I83 (bC b1 p0 w_p0 :: (bS b5 p1 w_p1) :: (bC b9 s179 w_s179) :: (Bx b53 (cs_qC (⟨s180, s181, s182, s183⟩ : qC) (⟨⟨a_s181, c_s181⟩, ⟨a_s182, c_s182⟩, ⟨a_s183, c_s183⟩⟩ : W_qC)) 44) :: (bT b59 s184 w_s184) :: Os) ∧ ok_qC I83 s179 w_s179 ∧ RSl 6 R_qT I83 a_s181 c_s181 s181 ∧ RSl 2 R_qJ I83 a_s182 c_s182 s182 ∧ RSl 5 R_qG I83 a_s183 c_s183 s183 ∧ ok_qT I83 s184 w_s184)) ?_ ?_)))
 refine y3 R2 (fun G R2 => ?_) (fun G R2 => ?_)
 refine yi (ye nL6 (y4 ((cs_qC p0 w_p0)) (S61.rf m4) z (yh 1 1 [1] z (yj (S61.rf m3) z (yh 3 1 [1] z (yj (S61.rf m3) z (bsk R2 fun r90 Xr85 R2 => WO.c1 (r17_refers_nilsl_ok (h_p0.mono le) S61 Xr85) z fun I87 w86 L88 S89 => yb (y3 R2 (fun G R2 => ?_) (fun G R2 => ?_)))))))))
 refine ye nL3 (yaf 0 89 (vC z_qC zw_qC) (yad S89.front2 0 (cs_qC z_qC zw_qC) fun w93 S92 => ya 2 1 z (yb (yq (yf (yv ?_))))))
 obtain rfl := sj R2
 refine yv ?_
 obtain rfl := sj R1
 exact yn (yf (sj D ▸ yba _ (S92.rd m0) ⟨I87, zw_qC, rfl, le, S92.d5, zok_qC⟩))
 refine yl (yc (ye nL2 (yh 0 1 [3] z (yad S89.front1 3 (cs_qC ({ r52 with Grants := ([] : List qG) }) ({ w_r52 with Grants := ⟨none, 0⟩ })) fun w119 S118 => y8 [0] (ya 0 1 z (yb (yo (bsk R2 fun s123 hloop125 R2 => have hlt136 := ((RSl.mono h_p0.Grants ((L23.trans L50).trans L88))).len_lt; W.wk (ya1 (m := p0.Grants.length) hloop125 (fun (i124 : Nat) (s123 : List qG) fr w => ∃ I121 a_s123 c_s123 C_s123, fr = [(3, Iv p3), (4, Pt b1 0), (5, Pt b5 0), (8, Pt b9 0), (11, Pt b53 0), (12, Pt b59 0), (13, Iv 0), (14, Nv i124)] ∧ I87.Le I121 ∧ St E w I121 (bC b1 p0 w_p0 :: (bS b5 p1 w_p1) :: (bC b9 z_qC zw_qC) :: (Bx b53 (cs_qC ({ r52 with Grants := s123 }) ({ w_r52 with Grants := ⟨a_s123, c_s123⟩ })) 44) :: (bT b59 z_qT zw_qT) :: (C_s123) :: Os) ∧ OwnSl 122 5 R_qG I121 C_s123 a_s123 c_s123 s123) ⟨I87, none, 0, Mem.no, rfl, lr, S118.no.front2.front2.front3.front4.front5, OwnSl.nil⟩ ?_ ?_)))))))))
 rintro i124 s123 _ w133 hi137 ⟨I121, a_s123, c_s123, C_s123, rfl, L122, S134, h_s123⟩ x135 R3
 refine yi (ye nL5 (yh 0 2 [3] z (yj (S134.rf m0) z (ya 3 2 z (yb (yax fun _ => yl (yc (yi (yo (yi (have S138 := S134.drew; ybc nL9 8 (yw (S138.rd m0) (yw (S138.rd m1) (yae S138.im))) ?_)))))))))))
 generalize World.drew _ = w139 at *
 refine yh 0 1 [3] z (yj (rd_c m0 (S138.rd m0)) z (ya 2 1 z ?_))
 obtain ⟨x140, R3, Hx140, _, rfl, Zx140⟩ := sx I121 h_p0.Grants R3
 refine yac 122 5 Hx140 z (yh 4 1 [2] z (ya6 Zx140 2 (rd_i S138.im) z (yh 6 1 [1] z (yj (rd_c m1 (S138.rd m1)) z (WO.tail z (ya 8 1 z (yb (bsk R3 fun j141 R4 R3 => ya0 (J := (fun fr w => ∃ I143 a_j141 c_j141 C_j141, fr = [(3, Iv p3), (4, Pt b1 0), (5, Pt b5 0), (8, Pt b9 0), (11, Pt b53 0), (12, Pt b59 0), (13, Iv 0), (14, Nv i124)] ∧ I121.Le I143 ∧ St E w I143 (bC b1 p0 w_p0 :: (bS b5 p1 w_p1) :: (bC b9 z_qC zw_qC) :: (Bx b53 (cs_qC ({ r52 with Grants := j141 }) ({ w_r52 with Grants := ⟨a_j141, c_j141⟩ })) 44) :: (bT b59 z_qT zw_qT) :: (C_j141) :: Os) ∧ OwnSl 122 5 R_qG I143 C_j141 a_j141 c_j141 j141)) ?_ ?_))))))))
 refine y3 R4 (fun G R4 => ?_) (fun G R4 => ?_)
 have S145 := S138.drew
 refine ybc nL11 8 (yw (S145.rd m0) (yw (S145.rd m3) (yae S145.im))) ?_
 generalize World.drew _ = w146 at *
 refine yh 0 1 [3] z (yj (rd_c m1 (S145.rd m3)) z (yh 2 1 [3] z (yj (rd_c m0 (S145.rd m0)) z (ya 4 1 z ?_))))
 obtain ⟨x147, R4, Hx147, _, rfl, Zx147⟩ := sx I121 h_p0.Grants R4
 refine yac 122 5 Hx147 z (yat ((cs_qG x147)) Zx147 0 (rd_i S145.im) z (yag (rel := R_qG) (xs := ([x147] : List qG)) S145 z kr z 122 5 [(cs_qG x147)] kr z ((Elr.cons z Elr.nil)) (fun C149 w153 S152 => (yw (S152.rd m1) (yw (S152.rd m4) (yae S152.im)))) ?_))
 intro a151 C149 w153 S152 ho150
 exact WO.tail z (have S155 := S152.front6; apk R4 fun x156 h0_x156 he_x156 R4 => ya2 122 64 (cs_qG z_qG) S155 h_s123 ho150.sl (S155.rd m1) h0_x156 he_x156 z fun a157 c158 w159 C160 S161 ho162 => yh 9 1 [3] z (yad S161.front1.drop.front4 3 (cs_qC ({ r52 with Grants := x156 }) ({ w_r52 with Grants := ⟨a157, c158⟩ })) fun w167 S166 => yr (sj R4 ▸ yx ⟨I121, a157, c158, C160, rfl, lr, S166.front1.front5.front2.front5.front5.front5, ho162⟩)))
 exact yl (sj R4 ▸ yx ⟨I121, a_s123, c_s123, C_s123, rfl, lr, S138, h_s123⟩)
 rintro _ w174 ⟨I143, a_j141, c_j141, C_j141, rfl, L144, S175, h_j141⟩
 exact ym (yc (yai nL3 (ya 0 1 z (yap i124 z (ya 2 1 z (yr (sj R3 ▸ yx ⟨I143, a_j141, c_j141, C_j141, rfl, le, S175, h_j141⟩)))))))
 rintro _ w176 ⟨I121, a_s123, c_s123, C_s123, rfl, L122, S177, h_s123⟩
 refine yi (ye nL5 (yh 0 2 [3] z (yj (S177.rf m0) z (ya 3 2 z (yb (yay fun _ => yab (yp (yt (yu ?_)))))))))
 obtain ⟨I186, L187, S189, hp188⟩ := yah h_s123 S177.front5
 exact yx ⟨0, z_qC, r52.Version, r52.Tables, r52.Roles, s123, z_qT, I186, zw_qC, w_r52.Tables.a, w_r52.Tables.c, w_r52.Roles.a, w_r52.Roles.c, a_s123, c_s123, zw_qT, sj R2, rfl, le, S189, zok_qC, (up h_r52.Tables), (up h_r52.Roles), hp188, zok_qT⟩
 refine ye nL2 (ya 0 2 z (yb (bsk R2 fun j190 R3 R2 => ya0 (J := (fun fr w => ∃ (s233 : Int) (s234 : qC) (s235 : Int) (s236 : List qT) (s237 : List qJ) (s238 : List qG) (s239 : qT), ∃ I192 w_s234 a_s236 c_s236 a_s237 c_s237 a_s238 c_s238 w_s239, (.inr (s233, s234, s235, s236, s237, s238, s239)) = j190 ∧ fr = [(3, Iv p3), (4, Pt b1 0), (5, Pt b5 0), (8, Pt b9 0), (11, Pt b53 0), (12, Pt b59 0), (13, Iv s233)] ∧ I49.Le I192 ∧ St E w I192 (bC b1 p0 w_p0 :: (bS b5 p1 w_p1) :: (bC b9 s234 w_s234) :: (Bx b53 (cs_qC (⟨s235, s236, s237, s238⟩ : qC) (⟨⟨a_s236, c_s236⟩, ⟨a_s237, c_s237⟩, ⟨a_s238, c_s238⟩⟩ : W_qC)) 44) :: (bT b59 s239 w_s239) :: Os) ∧ ok_qC I192 s234 w_s234 ∧ RSl 6 R_qT I192 a_s236 c_s236 s236 ∧ RSl 2 R_qJ I192 a_s237 c_s237 s237 ∧ RSl 5 R_qG I192 a_s238 c_s238 s238 ∧ ok_qT I192 s239 w_s239)) ?_ ?_)))
 refine y3 R3 (fun G R3 => ?_) (fun G R3 => ?_)
 refine yi (ye nL5 (y4 ((cs_qC p0 w_p0)) (S61.rf m4) z (yh 1 1 [2] z (yj (S61.rf m3) z (bsk R3 fun r199 Xr194 R3 => WO.c1 (r17_At_ok (h_p0.mono le) S61 Xr194) z fun I196 w195 L197 S198 => ya 4 1 z (yb (y3 R3 (fun G R3 => ?_) (fun G R3 => ?_))))))))
 refine ye nL3 (yaf 0 124 (vC z_qC zw_qC) (yad S198.front2 0 (cs_qC z_qC zw_qC) fun w202 S201 => ya 2 1 z (yb (yq (yf (yv ?_))))))
 obtain rfl := sj R3
 refine yv ?_
 obtain rfl := sj R2
 refine yv ?_
 obtain rfl := sj R1
 exact yn (yf (sj D ▸ yba _ (S201.rd m0) ⟨I196, zw_qC, rfl, le, S201.d5, zok_qC⟩))
 refine yl (yc (have S217 := S198.drew; ybm (l := nL14) kr 12 (KR I196 [bS b5 p1 w_p1, bC b1 p0 w_p0]) qR (.ords nL14 [0, 1, 2, 3, 4, 5, 6, 7, 8, 9, 10, 12, 11, 13] kr kr kr kr kr) kr (yw (S217.rd m3) (yw (S217.rd m4) (yae S217.im))) ?_))
 generalize World.drew _ = w218 at *
 refine y4 ((cs_qC p0 w_p0)) (rd_c m1 (S217.rd m4)) z (yh 1 1 [1] z (yj (rd_c m1 (S217.rd m4)) z (ya 3 1 z ?_)))
 obtain ⟨x219, R3, Hx219, _, ⟨w_x219, rfl, h_x219⟩, Zx219⟩ := sx I196 h_p0.Tables R3
 refine yac 52 6 Hx219 z (yat ((cs_qT x219 w_x219)) Zx219 0 (rd_i S217.im) z (yh 6 1 [2] z (yj (rd_c m0 (S217.rd m3)) z ?_)))
 obtain ⟨⟨r225, r226⟩, Xr220, R3⟩ := bsm R3
 refine yaj (r17_renamed_ok (h_p0.mono le) h_x219 S217 Xr220) ?_
 rintro _ w221 ⟨I222, w_r225, w_r226, rfl, L223, S224, h_r225, h_r226⟩
 refine ⟨_, rfl, (yw (S224.rd m3) (yw (S224.rd m4) (yae (S224.im.of_le L223)))), ?_⟩
 exact ya 9 3 z (WO.tail z (yad S224.front1 0 (cs_qC r225 w_r225) fun w229 S228 => yad S228.front1 0 (cs_qT r226 w_r226) fun w232 S231 => yr (yx ⟨0, z_qC, r225.Version, r225.Tables, r225.Roles, r225.Grants, r226, I222, zw_qC, w_r225.Tables.a, w_r225.Tables.c, w_r225.Roles.a, w_r225.Roles.c, w_r225.Grants.a, w_r225.Grants.c, w_r226, sj R3, rfl, le, S231.front1.front2.front3.front4, zok_qC, h_r225.Tables, h_r225.Roles, h_r225.Grants, h_r226⟩)))
 have S244 := S61.drew
 refine ybm (l := nL13) kr 11 (KR I49 [bS b5 p1 w_p1, bC b1 p0 w_p0]) qR (.ords nL13 [0, 1, 2, 3, 4, 5, 6, 7, 8, 9, 11, 10, 12] kr kr kr kr kr) kr (yw (S244.rd m3) (yw (S244.rd m4) (yae S244.im))) ?_
 generalize World.drew _ = w245 at *
 refine y4 ((cs_qC p0 w_p0)) (rd_c m1 (S244.rd m4)) z (yh 1 1 [1] z (yj (rd_c m1 (S244.rd m4)) z (ya 3 1 z ?_)))
 obtain ⟨x246, R3, Hx246, _, ⟨w_x246, rfl, h_x246⟩, Zx246⟩ := sx I49 h_p0.Tables R3
 refine yac 52 6 Hx246 z (yat ((cs_qT x246 w_x246)) Zx246 0 (rd_i S244.im) z (y4 ((cs_qS p1 w_p1)) (rd_c m0 (S244.rd m3)) z ?_))
 obtain ⟨⟨r252, r253⟩, Xr247, R3⟩ := bsm R3
 refine yaj (r17_turned_ok (h_p0.mono le) h_x246 (h_p1.mono le) S244 Xr247) ?_
 rintro _ w248 ⟨I249, w_r252, rfl, L250, S251, h_r252⟩
 refine ⟨_, rfl, (yw (S251.rd m3) (yw (S251.rd m4) (yae (S251.im.of_le L250)))), ?_⟩
 exact ya 8 3 z (WO.tail z (yad S251 0 (cs_qT r252 w_r252) fun w255 S254 => ya 12 1 z (yr (yx ⟨r253, z_qC, r52.Version, r52.Tables, r52.Roles, r52.Grants, r252, I249, zw_qC, w_r52.Tables.a, w_r52.Tables.c, w_r52.Roles.a, w_r52.Roles.c, w_r52.Grants.a, w_r52.Grants.c, w_r252, sj R3, rfl, L250, S254.front1.front2.front3.front4, zok_qC, (RSl.mono h_r52.Tables L250), (RSl.mono h_r52.Roles L250), (RSl.mono h_r52.Grants L250), h_r252⟩))))
 rintro _ w260 ⟨s233, s234, s235, s236, s237, s238, s239, I192, w_s234, a_s236, c_s236, a_s237, c_s237, a_s238, c_s238, w_s239, rfl, rfl, L193, S261, h_s234, h_s236, h_s237, h_s238, h_s239⟩
 exact yx ⟨s233, s234, s235, s236, s237, s238, s239, I192, w_s234, a_s236, c_s236, a_s237, c_s237, a_s238, c_s238, w_s239, sj R2, rfl, L193, S261, h_s234, h_s236, h_s237, h_s238, h_s239⟩
 rintro _ w262 ⟨s178, s179, s180, s181, s182, s183, s184, I83, w_s179, a_s181, c_s181, a_s182, c_s182, a_s183, c_s183, w_s184, rfl, rfl, L84, S263, h_s179, h_s181, h_s182, h_s183, h_s184⟩
 exact yx ⟨s178, s179, s180, s181, s182, s183, s184, I83, w_s179, a_s181, c_s181, a_s182, c_s182, a_s183, c_s183, w_s184, sj R1, rfl, L84, S263, h_s179, h_s181, h_s182, h_s183, h_s184⟩
 rintro _ w264 ⟨s69, s70, s71, s72, s73, s74, s75, I65, w_s70, a_s72, c_s72, a_s73, c_s73, a_s74, c_s74, w_s75, rfl, rfl, L66, S265, h_s70, h_s72, h_s73, h_s74, h_s75⟩
 refine ym (yc (yi (ye nL7 (ya 0 3 z (yaz [3, 4, 5] 6 139 143 (.refl ((s69 == 0) && (p1.Kind != 2))) (fun _ => yh 3 1 [0] z (yj (S265.rf m1) z (ya 5 2 z yal))) (yb (bsk D fun j268 R1 D => ya0 (J := JI E I65 [(3, Iv p3), (4, Pt b1 0), (5, Pt b5 0), (8, Pt b9 0), (11, Pt b53 0), (12, Pt b59 0), (13, Iv j268)] (bC b1 p0 w_p0 :: (bS b5 p1 w_p1) :: (bC b9 s70 w_s70) :: (Bx b53 (cs_qC (⟨s71, s72, s73, s74⟩ : qC) (⟨⟨a_s72, c_s72⟩, ⟨a_s73, c_s73⟩, ⟨a_s74, c_s74⟩⟩ : W_qC)) 44) :: (bT b59 s75 w_s75) :: Os)) ?_ ?_)))))))
 refine y3 R1 (fun G R1 => ?_) (fun G R1 => ?_)
 refine yai nL4 (y4 ((cs_qC (⟨s71, s72, s73, s74⟩ : qC) (⟨⟨a_s72, c_s72⟩, ⟨a_s73, c_s73⟩, ⟨a_s74, c_s74⟩⟩ : W_qC))) (S265.rf m3) z (y4 ((cs_qT s75 w_s75)) (S265.rf m4) z ?_))
 have hk272 : ok_qC I65 (⟨s71, s72, s73, s74⟩ : qC) (⟨⟨a_s72, c_s72⟩, ⟨a_s73, c_s73⟩, ⟨a_s74, c_s74⟩⟩ : W_qC) := ⟨h_s72, h_s73, h_s74⟩
 exact bsk R1 fun r278 Xr273 R1 => WO.c1 (r17_Sound_ok hk272 h_s75 S265 Xr273) z fun I275 w274 L276 S277 => ya 3 1 z (yr (sj R1 ▸ yx ⟨I275, rfl, L276, S277⟩))
 exact yl (sj R1 ▸ yx ⟨I65, rfl, lr, S265⟩)
 rintro _ w279 ⟨I270, rfl, L271, S280⟩
 refine yc (yi (ye nL8 (ya 0 3 z (yaz [3, 4, 5, 6] 7 149 154 (.refl ((j268 == 0) && (decide (p0.Version ≥ p3)))) (fun _ => yh 3 1 [0] z (yj (S280.rf m0) z (ya 5 3 z yal))) (yb (bsk D fun j283 R1 D => ya0 (J := JI E I270 [(4, Pt b1 0), (5, Pt b5 0), (8, Pt b9 0), (11, Pt b53 0), (12, Pt b59 0), (13, Iv j283)] (bC b1 p0 w_p0 :: (bS b5 p1 w_p1) :: (bC b9 s70 w_s70) :: (Bx b53 (cs_qC (⟨s71, s72, s73, s74⟩ : qC) (⟨⟨a_s72, c_s72⟩, ⟨a_s73, c_s73⟩, ⟨a_s74, c_s74⟩⟩ : W_qC)) 44) :: (bT b59 s75 w_s75) :: Os)) ?_ ?_))))))
 refine y3 R1 (fun G R1 => ?_) (fun G R1 => ?_)
 exact yai [0] (ya 0 1 z (yr (sj R1 ▸ yx ⟨I270, rfl, lr, S280⟩)))
 exact yl (sj R1 ▸ yx ⟨I270, rfl, lr, S280⟩)
 rintro _ w287 ⟨I285, rfl, L286, S288⟩
 refine yc (yi (ye nL2 (ya 0 2 z (yb (y3 D (fun G D => ?_) (fun G D => ?_))))))
 exact ye nL4 (yaf 0 157 (vC z_qC zw_qC) (ya 1 1 z (yad S288.front2 0 (cs_qC z_qC zw_qC) fun w291 S290 => ya 3 1 z (yb (yq (yf (sj D ▸ yba _ (S290.rd m0) ⟨I285, zw_qC, rfl, le, S290.d5, zok_qC⟩)))))))
 refine yl (yc (yi (ye nL3 (yh 0 1 [0] z (yj (S288.rf m1) z (ya 2 1 z (yb (bsk D fun j297 R1 D => ya0 (J := (fun fr w => ∃ (s315 : Int) (s316 : List qT) (s317 : List qJ) (s318 : List qG) (s319 : qT), ∃ I299 a_s316 c_s316 a_s317 c_s317 a_s318 c_s318 w_s319, (s315, s316, s317, s318, s319) = j297 ∧ fr = [(4, Pt b1 0), (8, Pt b9 0), (11, Pt b53 0)] ∧ I285.Le I299 ∧ St E w I299 (bC b1 p0 w_p0 :: (bC b9 s70 w_s70) :: (Bx b53 (cs_qC (⟨s315, s316, s317, s318⟩ : qC) (⟨⟨a_s316, c_s316⟩, ⟨a_s317, c_s317⟩, ⟨a_s318, c_s318⟩⟩ : W_qC)) 44) :: Os) ∧ RSl 6 R_qT I299 a_s316 c_s316 s316 ∧ RSl 2 R_qJ I299 a_s317 c_s317 s317 ∧ RSl 5 R_qG I299 a_s318 c_s318 s318 ∧ ok_qT I299 s319 w_s319)) ?_ ?_))))))))
 refine y3 R1 (fun G R1 => ?_) (fun G R1 => ?_)
 refine ye nL5 (yh 0 1 [0] z (yj (S288.rf m0) z (yh 2 2 [2] z (yad S288.front4 2 (cs_qT ({ s75 with Version := (w64 (p0.Version + 1)) }) w_s75) fun w303 S302 => yb (yai nL4 (y4 ((cs_qC (⟨s71, s72, s73, s74⟩ : qC) (⟨⟨a_s72, c_s72⟩, ⟨a_s73, c_s73⟩, ⟨a_s74, c_s74⟩⟩ : W_qC))) (S302.rf m4) z (y4 ((cs_qT ({ s75 with Version := (w64 (p0.Version + 1)) }) w_s75)) (S302.rf m0) z ?_)))))))
 have hk304 : ok_qC I285 (⟨s71, s72, s73, s74⟩ : qC) (⟨⟨a_s72, c_s72⟩, ⟨a_s73, c_s73⟩, ⟨a_s74, c_s74⟩⟩ : W_qC) := ⟨(RSl.mono h_s72 (L271.trans L286)), (RSl.mono h_s73 (L271.trans L286)), (RSl.mono h_s74 (L271.trans L286))⟩
 have hk305 : ok_qT I285 ({ s75 with Version := (w64 (p0.Version + 1)) }) w_s75 := ⟨(RSl.mono h_s75.Cols (L271.trans L286)), (RSl.mono h_s75.Cons (L271.trans L286)), (RSl.mono h_s75.Idx (L271.trans L286))⟩
 refine bsk R1 fun r311 Xr306 R1 => yaj (r17_with_ok hk304 hk305 S302 Xr306) ?_
 rintro _ w307 ⟨I308, w_r311, rfl, L309, S310, h_r311⟩
 refine cv (yad S310.front4 0 (cs_qC r311 w_r311) fun w314 S313 => yr ?_)
 have hk320 : ok_qT I308 ({ s75 with Version := (w64 (p0.Version + 1)) }) w_s75 := ⟨(RSl.mono h_s75.Cols ((L271.trans L286).trans L309)), (RSl.mono h_s75.Cons ((L271.trans L286).trans L309)), (RSl.mono h_s75.Idx ((L271.trans L286).trans L309))⟩
 exact yx ⟨r311.Version, r311.Tables, r311.Roles, r311.Grants, { s75 with Version := (w64 (p0.Version + 1)) }, I308, w_r311.Tables.a, w_r311.Tables.c, w_r311.Roles.a, w_r311.Roles.c, w_r311.Grants.a, w_r311.Grants.c, w_s75, sj R1, rfl, L309, S313.front1.drop.front2.drop.front2.front2, h_r311.Tables, h_r311.Roles, h_r311.Grants, hk320⟩
 exact yl (yx ⟨s71, s72, s73, s74, s75, I285, a_s72, c_s72, a_s73, c_s73, a_s74, c_s74, w_s75, sj R1, rfl, lr, S288.front1.drop.front3.drop, (up h_s72), (up h_s73), (up h_s74), (h_s75.mono le)⟩)
 rintro _ w331 ⟨s315, s316, s317, s318, s319, I299, a_s316, c_s316, a_s317, c_s317, a_s318, c_s318, w_s319, rfl, rfl, L300, S332, h_s316, h_s317, h_s318, h_s319⟩
 refine yc (ye nL5 (yh 0 1 [0] z (yj (S332.rf m0) z (yh 2 2 [0] z (yad S332.front2 0 (cs_qC (⟨(w64 (p0.Version + 1)), s316, s317, s318⟩ : qC) (⟨⟨a_s316, c_s316⟩, ⟨a_s317, c_s317⟩, ⟨a_s318, c_s318⟩⟩ : W_qC)) fun w335 S334 => y8 nL3 (y4 ((cs_qC (⟨(w64 (p0.Version + 1)), s316, s317, s318⟩ : qC) (⟨⟨a_s316, c_s316⟩, ⟨a_s317, c_s317⟩, ⟨a_s318, c_s318⟩⟩ : W_qC))) (S334.rf m0) z (yad S334.front2 0 (cs_qC (⟨(w64 (p0.Version + 1)), s316, s317, s318⟩ : qC) (⟨⟨a_s316, c_s316⟩, ⟨a_s317, c_s317⟩, ⟨a_s318, c_s318⟩⟩ : W_qC)) fun w338 S337 => ya 2 1 z (yb (yq ?_)))))))))
 have hk342 : ok_qC I299 (⟨(w64 (p0.Version + 1)), s316, s317, s318⟩ : qC) (⟨⟨a_s316, c_s316⟩, ⟨a_s317, c_s317⟩, ⟨a_s318, c_s318⟩⟩ : W_qC) := ⟨h_s316, h_s317, h_s318⟩
 exact sj D ▸ yba _ (S337.rd m0) ⟨I299, (⟨⟨a_s316, c_s316⟩, ⟨a_s317, c_s317⟩, ⟨a_s318, c_s318⟩⟩ : W_qC), rfl, le, S337.d3, hk342⟩
noncomputable def law19_first  : Option qC := (r17_New).bind (fun r10 => (forE (fun (i32 : Nat) (s31 : qC) => ((idx ([(⟨#[97, 110, 110]⟩ : By8), (⟨#[98, 111, 98]⟩ : By8), (⟨#[99, 121]⟩ : By8)] : List By8) (i32 : Int)).bind (fun x46 => (r19_Make s31 ({ z_qS with Kind := 10, Name := x46 }) (⟨#[114, 111, 111, 116]⟩ : By8) 1000).bind (fun (r57, r58) => some (r57, r58)))).bind (fun ((s61, s62) : qC × Int) => ((bif (s62 == 0) then some s61 else some s31)).bind (fun (j101 : qC) => some j101))) 3 0 r10).bind (fun s31 => (r17_Make s31 ({ z_qS with Kind := 1, Table := (⟨#[116]⟩ : By8), Cols := ([{ z_qL with Name := (⟨#[97]⟩ : By8), Type_ := 1 }] : List qL) }) (⟨#[97, 110, 110]⟩ : By8) 1000).bind (fun (r134, r135) => ((bif (r135 == 0) then some r134 else some s31)).bind (fun (j142 : qC) => some j142))))
theorem law19_first_ok (hS : St E w I Os) {r : qC} (D : law19_first = some r) :
    Calls P 16 #[] w (fun e w' => ∃ I' w_rw0, e = .returned (vC r w_rw0) ∧ I.Le I' ∧ St E w' I' Os ∧ ok_qC I' r w_rw0) := by
 refine calls_W (fn := Tryz.f16) rfl rfl rfl ?_
 unfold law19_first at D
 refine ye [0] (yaa hS (cs_qC z_qC zw_qC) 44 z fun b1 w4 S3 => y8 nL3 (bsk D fun r10 Xr5 D => yaj (r17_New_ok  S3 Xr5) ?_))
 rintro _ w6 ⟨I7, w_r10, rfl, L8, S9, h_r10⟩
 refine cv (yaa S9 (cs_qC z_qC zw_qC) 44 z fun b11 w14 S13 => yad S13 0 (cs_qC r10 w_r10) fun w16 S15 => y8 nL2 (yag (rel := RStr) (xs := ([(⟨#[97, 110, 110]⟩ : By8), (⟨#[98, 111, 98]⟩ : By8), (⟨#[99, 121]⟩ : By8)] : List By8)) S15 z kr z 9 1 [[(.string (⟨#[97, 110, 110]⟩ : By8))], [(.string (⟨#[98, 111, 98]⟩ : By8))], [(.string (⟨#[99, 121]⟩ : By8))]] kr z ((Elr.cons z (Elr.cons z (Elr.cons z Elr.nil)))) tv ?_))
 intro a20 C18 w22 S21 ho19
 obtain ⟨I24, L25, S27, hp26⟩ := yah ho19 S21
 refine ya 1 1 z (yb (yi (ye [0] (ya 0 1 z (yb (yo (bsk D fun s31 hloop33 D => have hlt38 := (hp26).len_lt; W.wk (ya1 (m := 3) hloop33 (fun (i32 : Nat) (s31 : qC) fr w => ∃ I29 w_s31, fr = [(0, Pt b1 0), (1, Pt b11 0), (2, .slice a20 3 3), (3, Nv i32)] ∧ I24.Le I29 ∧ St E w I29 (bC b1 z_qC zw_qC :: (bC b11 s31 w_s31) :: Os) ∧ ok_qC I29 s31 w_s31) ⟨I24, w_r10, rfl, lr, S27.front1, (h_r10.mono L25)⟩ ?_ ?_))))))))
 rintro i32 s31 _ w35 hi39 ⟨I29, w_s31, rfl, L30, S36, h_s31⟩ x37 R1
 refine yi (ye nL4 (ya 0 4 z (yb (yax fun _ => yl (yc (yi (yo (yi (bsk R1 fun j40 R2 R1 => ya0 (J := (fun fr w => ∃ (s61 : qC) (s62 : Int), ∃ I42 w_s61 b_s61, (s61, s62) = j40 ∧ fr = [(0, Pt b1 0), (1, Pt b11 0), (2, .slice a20 3 3), (3, Nv i32), (4, Pt b_s61 0), (5, Iv s62)] ∧ I29.Le I42 ∧ St E w I42 (bC b1 z_qC zw_qC :: (bC b11 s31 w_s31) :: (bC b_s61 s61 w_s61) :: Os) ∧ ok_qC I42 s61 w_s61)) ?_ ?_)))))))))
 have S44 := S36.drew
 refine W.draws (.split 10 5 (.leaf [0, 1, 2, 3, 4, 10, 5, 6, 7, 8, 9, 11, 12]) (.split 10 6 (.leaf [0, 1, 2, 3, 4, 5, 10, 6, 7, 8, 9, 11, 12]) (.leaf nL13))) 11 (KR I29 [bC b11 s31 w_s31]) qR (.ords nL13 [0, 1, 2, 3, 4, 5, 6, 7, 8, 10, 11, 9, 12] kr kr kr kr kr) kr (yw (S44.rd m1) (yae S44.im)) ?_
 generalize World.drew _ = w45 at *
 refine ⟨?_, ?_⟩
 show WO _ _ _ _ _ _ _ [0, 1, 2, 3, 4, 10, 5, 6, 7, 8, 9, 11, 12] _ _
 refine y4 ((cs_qC s31 w_s31)) (rd_c m0 (S44.rd m1)) z (ya 1 2 z (yz 18 z (show Value.slice a20 3 3 = Value.slice a20 ([(⟨#[97, 110, 110]⟩ : By8), (⟨#[98, 111, 98]⟩ : By8), (⟨#[99, 121]⟩ : By8)] : List By8).length 3 from z) ?_))
 obtain ⟨x46, R2, Hx46, _, rfl, Zx46⟩ := sx I29 hp26 R2
 refine yac 9 1 Hx46 z (yar Zx46 (rd_i S44.im) z (ybt S44 z kr z (.cells (cs_qC z_qC zw_qC).toArray 44 (0, 0)) (fun b => .pointer (some ⟨b, 0, none⟩)) kr (fun b47 w50 S49 => (yw (S49.rd m2) (yae S49.im))) ?_))
 intro b47 w50 S49
 refine yaf 5 22 (.agg (cs_qS ({ z_qS with Kind := 10, Name := x46 }) zw_qS).toArray) ?_
 have hk51 : ok_qS I29 ({ z_qS with Kind := 10, Name := x46 }) zw_qS := ⟨SlAt.nil, SlAt.nil, SlAt.nil, SlAt.nil, zok_qS.Where, SlAt.nil, SlAt.nil, SlAt.nil⟩
 obtain ⟨⟨r57, r58⟩, Xr52, R2⟩ := bsm R2
 refine yaj (r19_Make_ok h_s31 hk51 S49 Xr52) ?_
 rintro _ w53 ⟨I54, w_r57, rfl, L55, S56, h_r57⟩
 refine ⟨_, rfl, (yw (S56.rd m2) (yae (S56.im.of_le L55))), ?_⟩
 exact ya 7 3 z (WO.tail z (yad S56 0 (cs_qC r57 w_r57) fun w60 S59 => ya 12 1 z (yr (yx ⟨r57, r58, I54, w_r57, b47, sj R2, rfl, L55, S59.front2.front2, h_r57⟩))))
 refine ⟨?_, ?_⟩
 show WO _ _ _ _ _ _ _ [0, 1, 2, 3, 4, 5, 10, 6, 7, 8, 9, 11, 12] _ _
 refine y4 ((cs_qC s31 w_s31)) (rd_c m0 (S44.rd m1)) z (ya 1 2 z (yz 18 z (show Value.slice a20 3 3 = Value.slice a20 ([(⟨#[97, 110, 110]⟩ : By8), (⟨#[98, 111, 98]⟩ : By8), (⟨#[99, 121]⟩ : By8)] : List By8).length 3 from z) ?_))
 obtain ⟨x65, R2, Hx65, _, rfl, Zx65⟩ := sx I29 hp26 R2
 refine yac 9 1 Hx65 z (yar Zx65 (rd_i S44.im) z (yaf 5 22 (.agg (cs_qS ({ z_qS with Kind := 10, Name := x65 }) zw_qS).toArray) (ybt S44 z kr z (.cells (cs_qC z_qC zw_qC).toArray 44 (0, 0)) (fun b => .pointer (some ⟨b, 0, none⟩)) kr (fun b66 w69 S68 => (yw (S68.rd m2) (yae S68.im))) ?_)))
 intro b66 w69 S68
 have hk70 : ok_qS I29 ({ z_qS with Kind := 10, Name := x65 }) zw_qS := ⟨SlAt.nil, SlAt.nil, SlAt.nil, SlAt.nil, zok_qS.Where, SlAt.nil, SlAt.nil, SlAt.nil⟩
 obtain ⟨⟨r76, r77⟩, Xr71, R2⟩ := bsm R2
 refine yaj (r19_Make_ok h_s31 hk70 S68 Xr71) ?_
 rintro _ w72 ⟨I73, w_r76, rfl, L74, S75, h_r76⟩
 refine ⟨_, rfl, (yw (S75.rd m2) (yae (S75.im.of_le L74))), ?_⟩
 exact ya 7 3 z (WO.tail z (yad S75 0 (cs_qC r76 w_r76) fun w79 S78 => ya 12 1 z (yr (yx ⟨r76, r77, I73, w_r76, b66, sj R2, rfl, L74, S78.front2.front2, h_r76⟩))))
 show WO _ _ _ _ _ _ _ nL13 _ _
 refine y4 ((cs_qC s31 w_s31)) (rd_c m0 (S44.rd m1)) z (ya 1 2 z (yz 18 z (show Value.slice a20 3 3 = Value.slice a20 ([(⟨#[97, 110, 110]⟩ : By8), (⟨#[98, 111, 98]⟩ : By8), (⟨#[99, 121]⟩ : By8)] : List By8).length 3 from z) ?_))
 obtain ⟨x82, R2, Hx82, _, rfl, Zx82⟩ := sx I29 hp26 R2
 refine yac 9 1 Hx82 z (yar Zx82 (rd_i S44.im) z (yaf 5 22 (.agg (cs_qS ({ z_qS with Kind := 10, Name := x82 }) zw_qS).toArray) ?_))
 have hk83 : ok_qS I29 ({ z_qS with Kind := 10, Name := x82 }) zw_qS := ⟨SlAt.nil, SlAt.nil, SlAt.nil, SlAt.nil, zok_qS.Where, SlAt.nil, SlAt.nil, SlAt.nil⟩
 obtain ⟨⟨r89, r90⟩, Xr84, R2⟩ := bsm R2
 refine yaj (r19_Make_ok h_s31 hk83 S44 Xr84) ?_
 rintro _ w85 ⟨I86, w_r89, rfl, L87, S88, h_r89⟩
 refine ⟨_, rfl, (yw (S88.rd m1) (yae (S88.im.of_le L87))), ?_⟩
 refine ya 7 3 z (ybt S88 z kr z (.cells (cs_qC z_qC zw_qC).toArray 44 (0, 0)) (fun b => .pointer (some ⟨b, 0, none⟩)) kr (fun b91 w94 S93 => (yw (S93.rd m2) (yae (S93.im.of_le L87)))) ?_)
 intro b91 w94 S93
 exact WO.tail z (yad S93 0 (cs_qC r89 w_r89) fun w96 S95 => ya 12 1 z (yr (yx ⟨r89, r90, I86, w_r89, b91, sj R2, rfl, L87, S95.front2.front2, h_r89⟩)))
 rintro _ w99 ⟨s61, s62, I42, w_s61, b_s61, rfl, rfl, L43, S100, h_s61⟩
 refine yc (ye nL2 (ya 0 2 z (yb (bsk R1 fun j101 R2 R1 => ya0 (J := (fun fr w => ∃ I103 w_j101, fr = [(0, Pt b1 0), (1, Pt b11 0), (2, .slice a20 3 3), (3, Nv i32)] ∧ I42.Le I103 ∧ St E w I103 (bC b1 z_qC zw_qC :: (bC b11 j101 w_j101) :: Os) ∧ ok_qC I103 j101 w_j101)) ?_ ?_))))
 refine y3 R2 (fun G R2 => ?_) (fun G R2 => ?_)
 exact yai nL2 (y4 ((cs_qC s61 w_s61)) (S100.rf m2) z (yad S100.front1 0 (cs_qC s61 w_s61) fun w107 S106 => yr (sj R2 ▸ yx ⟨I42, w_s61, rfl, lr, S106.front2.drop.front1, h_s61⟩)))
 exact yl (sj R2 ▸ yx ⟨I42, w_s31, rfl, lr, S100.front2.drop, (h_s31.mono L43)⟩)
 rintro _ w113 ⟨I103, w_j101, rfl, L104, S114, h_j101⟩
 exact ym (yc (yai nL3 (ya 0 1 z (yap i32 z (ya 2 1 z (yr (sj R1 ▸ yx ⟨I103, w_j101, rfl, le, S114, h_j101⟩)))))))
 rintro _ w115 ⟨I29, w_s31, rfl, L30, S116, h_s31⟩
 refine yi (ye nL4 (ya 0 4 z (yb (yay fun _ => yab (yp (yt (yu (yc (ye nL11 (y4 ((cs_qC s31 w_s31)) (S116.rf m1) z (yaf 1 31 (.agg (cs_qL ({ z_qL with Name := (⟨#[97]⟩ : By8), Type_ := 1 })).toArray) (yag (rel := R_qL) (xs := ([{ z_qL with Name := (⟨#[97]⟩ : By8), Type_ := 1 }] : List qL)) S116 z kr z 54 3 [(cs_qL ({ z_qL with Name := (⟨#[97]⟩ : By8), Type_ := 1 }))] kr z ((Elr.cons z Elr.nil)) tv ?_))))))))))))
 intro a120 C118 w122 S121 ho119
 obtain ⟨I124, L125, S127, hp126⟩ := yah ho119 S121
 refine yaf 3 33 (.agg #[(Iv 1), (.string (⟨#[116]⟩ : By8)), (.string eB), (.string eB), (.slice a120 1 1), (.slice none 0 0), (.slice none 0 0), (.slice none 0 0), (Iv 0), (Iv 0), (Iv 0), (Iv 0), (.string eB), (.string eB), (.slice none 0 0), (.slice none 0 0), (.slice none 0 0), (Iv 0), (Iv 0), (.bool false), (.slice none 0 0)]) ?_
 have hk128 : ok_qS I124 ({ z_qS with Kind := 1, Table := (⟨#[116]⟩ : By8), Cols := ([{ z_qL with Name := (⟨#[97]⟩ : By8), Type_ := 1 }] : List qL) }) ({ zw_qS with Cols := ⟨a120, 1⟩ }) := ⟨hp126, SlAt.nil, SlAt.nil, SlAt.nil, zok_qS.Where, SlAt.nil, SlAt.nil, SlAt.nil⟩
 obtain ⟨⟨r134, r135⟩, Xr129, D⟩ := bsm D
 refine yaj (r17_Make_ok (h_s31.mono L125) hk128 S127 Xr129) ?_
 rintro _ w130 ⟨I131, w_r134, rfl, L132, S133, h_r134⟩
 refine cv (ya 5 3 z (yaa S133 (cs_qC z_qC zw_qC) 44 z fun b136 w139 S138 => yad S138 0 (cs_qC r134 w_r134) fun w141 S140 => ya 10 1 z (yb (yi (ye nL2 (ya 0 2 z (yb (bsk D fun j142 R1 D => ya0 (J := (fun fr w => ∃ I144 w_j142, fr = [(0, Pt b1 0), (1, Pt b11 0)] ∧ I131.Le I144 ∧ St E w I144 (bC b1 z_qC zw_qC :: (bC b11 j142 w_j142) :: Os) ∧ ok_qC I144 j142 w_j142)) ?_ ?_))))))))
 refine y3 R1 (fun G R1 => ?_) (fun G R1 => ?_)
 exact yai nL2 (y4 ((cs_qC r134 w_r134)) (S140.rf m0) z (yad S140.front2 0 (cs_qC r134 w_r134) fun w148 S147 => yr (sj R1 ▸ yx ⟨I131, w_r134, rfl, lr, S147.front1.drop.front1, h_r134⟩)))
 exact yl (sj R1 ▸ yx ⟨I131, w_s31, rfl, lr, S140.drop, (h_s31.mono le)⟩)
 rintro _ w153 ⟨I144, w_j142, rfl, L145, S154, h_j142⟩
 exact yc (ye nL2 (y4 ((cs_qC j142 w_j142)) (S154.rf m1) z (yad S154 0 (cs_qC j142 w_j142) fun w156 S155 => yb (yq (sj D ▸ En.c1 _ (S155.rd m0) ⟨I144, w_j142, rfl, le, S155.d2, h_j142⟩)))))
noncomputable def law19_Next (p0 : qC) (p1 : law19_Act) : Option (qC × Int) := (r19_Make p0 p1.S p1.By 1000).bind (fun (r18, r19) => ((bif (decide (p1.S.Kind < 10)) then (r17_Make p0 p1.S p1.By 1000).bind (fun (r35, r36) => some (r36, r35)) else some (r19, r18))).bind (fun ((s39, s40) : Int × qC) => (bif (s39 != 0) then some (p0, s39) else some (s40, s39))))
theorem law19_Next_ok {p0 : qC} {p1 : law19_Act} {w_p0 : W_qC} {w_p1 : W_law19_Act} (h_p0 : ok_qC I p0 w_p0) (h_p1 : ok_law19_Act I p1 w_p1) (hS : St E w I Os) {r : qC × Int} (D : law19_Next p0 p1 = some r) :
    Calls P 17 #[(vC p0 w_p0), (.agg (cs_law19_Act p1 w_p1).toArray)] w (fun e w' => ∃ I' w_rw0, e = .returned (.tuple #[(vC r.1 w_rw0), (Iv r.2)]) ∧ I.Le I' ∧ St E w' I' Os ∧ ok_qC I' r.1 w_rw0) := by
 refine calls_W (fn := Tryz.f17) rfl rfl rfl ?_
 unfold law19_Next at D
 refine ye nL4 (yaa hS (cs_qC p0 w_p0) 44 z fun b1 w4 S3 => yaa S3 (cs_law19_Act p1 w_p1) 56 z fun b5 w8 S7 => yaa S7 (cs_qC z_qC zw_qC) 44 z fun b9 w12 S11 => ya 3 1 z (y8 nL12 (y4 ((cs_qC p0 w_p0)) (S11.rf m2) z (yh 1 1 [0] z (y4 ((cs_qS p1.S w_p1.S)) (S11.rf m1) z (yh 3 1 [21] z (yj (S11.rf m1) z ?_)))))))
 obtain ⟨⟨r18, r19⟩, Xr13, D⟩ := bsm D
 refine yaj (r19_Make_ok h_p0 h_p1.S S11 Xr13) ?_
 rintro _ w14 ⟨I15, w_r18, rfl, L16, S17, h_r18⟩
 refine cv (ya 6 3 z (yaa S17 (cs_qC z_qC zw_qC) 44 z fun b20 w23 S22 => yad S22 0 (cs_qC r18 w_r18) fun w25 S24 => ya 11 1 z (yb (yi (ye nL4 (yh 0 2 [0, 0] z (yj (S24.rf m2) z (ya 3 1 z (yb (bsk D fun j26 R1 D => ya0 (J := (fun fr w => ∃ (s39 : Int) (s40 : qC), ∃ I28 w_s40, (s39, s40) = j26 ∧ fr = [(2, Pt b1 0), (4, Pt b9 0), (6, Pt b20 0), (7, Iv s39)] ∧ I15.Le I28 ∧ St E w I28 (bC b1 p0 w_p0 :: (bC b9 z_qC zw_qC) :: (bC b20 s40 w_s40) :: Os) ∧ ok_qC I28 s40 w_s40)) ?_ ?_))))))))))
 refine y3 R1 (fun G R1 => ?_) (fun G R1 => ?_)
 refine yai nL11 (y4 ((cs_qC p0 w_p0)) (S24.rf m3) z (yh 1 1 [0] z (y4 ((cs_qS p1.S w_p1.S)) (S24.rf m2) z (yh 3 1 [21] z (yj (S24.rf m2) z ?_)))))
 obtain ⟨⟨r35, r36⟩, Xr30, R1⟩ := bsm R1
 refine yaj (r17_Make_ok (h_p0.mono L16) (h_p1.S.mono L16) S24 Xr30) ?_
 rintro _ w31 ⟨I32, w_r35, rfl, L33, S34, h_r35⟩
 exact cv (ya 6 3 z (yad S34 0 (cs_qC r35 w_r35) fun w38 S37 => ya 10 1 z (yr (yx ⟨r36, r35, I32, w_r35, sj R1, rfl, L33, S37.front2.drop.front1.front2, h_r35⟩))))
 exact yl (yx ⟨r19, r18, I15, w_r18, sj R1, rfl, lr, S24.front2.drop.front1.front2, h_r18⟩)
 rintro _ w49 ⟨s39, s40, I28, w_s40, rfl, rfl, L29, S50, h_s40⟩
 refine yc (yi (ye nL2 (ya 0 2 z (yb (y3 D (fun G D => ?_) (fun G D => ?_))))))
 exact ye nL4 (y4 ((cs_qC p0 w_p0)) (S50.rf m0) z (ya 1 1 z (yad S50.front1 0 (cs_qC p0 w_p0) fun w53 S52 => ya 3 1 z (yb (yq (yf (sj D ▸ yba _ (S52.rd m0) ⟨I28, w_p0, rfl, le, S52.d3, (h_p0.mono le)⟩)))))))
 exact yl (yc (ye nL4 (y4 ((cs_qC s40 w_s40)) (S50.rf m2) z (ya 1 1 z (yad S50.front1 0 (cs_qC s40 w_s40) fun w59 S58 => ya 3 1 z (yb (yq (sj D ▸ yba _ (S58.rd m0) ⟨I28, w_s40, rfl, le, S58.d3, h_s40⟩))))))))
noncomputable def law19_Grown (p0 : List law19_Act) : Option qC := (law19_first).bind (fun r10 => (forE (fun (i21 : Nat) (s20 : qC) => (idx p0 (i21 : Int)).bind (fun x31 => (law19_Next s20 x31).bind (fun (r37, r38) => some r37))) p0.length 0 r10).bind (fun s20 => some s20))
theorem law19_Grown_ok {p0 : List law19_Act} {a_p0 : Option Addr} {c_p0 : Nat} (h_p0 : RSl 22 R_law19_Act I a_p0 c_p0 p0) (hS : St E w I Os) {r : qC} (D : law19_Grown p0 = some r) :
    Calls P 8 #[(Sl a_p0 p0 c_p0)] w (fun e w' => ∃ I' w_rw0, e = .returned (vC r w_rw0) ∧ I.Le I' ∧ St E w' I' Os ∧ ok_qC I' r w_rw0) := by
 refine calls_W (fn := Tryz.f8) rfl rfl rfl ?_
 unfold law19_Grown at D
 refine ye [0] (yaa hS (cs_qC z_qC zw_qC) 44 z fun b1 w4 S3 => y8 nL3 (bsk D fun r10 Xr5 D => yaj (law19_first_ok  S3 Xr5) ?_))
 rintro _ w6 ⟨I7, w_r10, rfl, L8, S9, h_r10⟩
 refine cv (yaa S9 (cs_qC z_qC zw_qC) 44 z fun b11 w14 S13 => yad S13 0 (cs_qC r10 w_r10) fun w16 S15 => yb (yi (ye [0] (ya 0 1 z (yb (yo (bsk D fun s20 hloop22 D => have hlt27 := ((RSl.mono h_p0 L8)).len_lt; W.wk (ya1 (m := p0.length) hloop22 (fun (i21 : Nat) (s20 : qC) fr w => ∃ I18 w_s20, fr = [(0, Sl a_p0 p0 c_p0), (2, Pt b1 0), (3, Pt b11 0), (4, Nv i21)] ∧ I7.Le I18 ∧ St E w I18 (bC b1 z_qC zw_qC :: (bC b11 s20 w_s20) :: Os) ∧ ok_qC I18 s20 w_s20) ⟨I7, w_r10, rfl, lr, S15.front1, h_r10⟩ ?_ ?_))))))))
 rintro i21 s20 _ w24 hi28 ⟨I18, w_s20, rfl, L19, S25, h_s20⟩ x26 R1
 refine yi (ye nL4 (ya 0 4 z (yb (yax fun _ => yl (yc (yi (yo (have S29 := S25.drew; ybm (l := nL10) kr 9 (KR I18 [bC b11 s20 w_s20]) qR (.ords nL10 [0, 1, 2, 3, 4, 5, 6, 7, 9, 8] kr kr kr kr kr) kr (yw (S29.rd m1) (yae S29.im)) ?_))))))))
 generalize World.drew _ = w30 at *
 refine y4 ((cs_qC s20 w_s20)) (rd_c m0 (S29.rd m1)) z (ya 1 2 z ?_)
 obtain ⟨x31, R1, Hx31, _, ⟨w_x31, rfl, h_x31⟩, Zx31⟩ := sx I18 h_p0 R1
 refine yac 56 22 Hx31 z (yat ((cs_law19_Act x31 w_x31)) Zx31 0 (rd_i S29.im) z ?_)
 obtain ⟨⟨r37, r38⟩, Xr32, R1⟩ := bsm R1
 refine yaj (law19_Next_ok h_s20 h_x31 S29 Xr32) ?_
 rintro _ w33 ⟨I34, w_r37, rfl, L35, S36, h_r37⟩
 refine ⟨_, rfl, (yw (S36.rd m1) (yae (S36.im.of_le L35))), ?_⟩
 exact ya 6 3 z (WO.tail z (yad S36.front1 0 (cs_qC r37 w_r37) fun w41 S40 => yr (ym (yc (yai nL3 (ya 0 1 z (yap i21 z (ya 2 1 z (yr (sj R1 ▸ yx ⟨I34, w_r37, rfl, le, S40.front1, h_r37⟩))))))))))
 rintro _ w43 ⟨I18, w_s20, rfl, L19, S44, h_s20⟩
 exact yi (ye nL4 (ya 0 4 z (yb (yay fun _ => yab (yp (yt (yu (yc (ye nL2 (y4 ((cs_qC s20 w_s20)) (S44.rf m1) z (yad S44 0 (cs_qC s20 w_s20) fun w46 S45 => yb (yq (sj D ▸ En.c1 _ (S45.rd m0) ⟨I18, w_s20, rfl, le, S45.d2, h_s20⟩)))))))))))))
def slices_IndexFunc_qJ (p0 : List qJ) (p1 : qJ → Option Bool) : Option Int := (forN (fun (i4 : Nat) (_s : Unit) => (idx p0 (i4 : Int)).bind (fun x11 => (p1 x11).bind (fun (r17 : Bool) => (bif r17 then some (.inr (i4 : Int)) else some (.inl ()))))) p0.length 0 ()).bind (fun (t : Unit ⊕ (Int)) => match t with | .inl _ => some (-1) | .inr s19 => some s19)
theorem slices_IndexFunc_qJ_ok {p0 : List qJ} {p1 : qJ → Option Bool} {a_p0 : Option Addr} {c_p0 : Nat} {g_p1 : FuncId} {k_p1 : List Value} (h_p0 : RSl 2 R_qJ I a_p0 c_p0 p0) (h_p1 : ∀ {F : List Mem} {I' : Mem} {w : World} {u0 : qJ} {w_u0 : W_qJ}, I.Le I' → St E w I' (F ++ Os) → ok_qJ I' u0 w_u0 → ∀ {r : Bool}, p1 u0 = some r → Calls P g_p1 (([(vJ u0 w_u0)] : List Value) ++ k_p1).toArray w (fun e w' => ∃ (I'' : Mem), e = .returned (.bool r) ∧ I'.Le I'' ∧ St E w' I'' (F ++ Os))) (hcall_p1 : Callable P g_p1) (hS : St E w I Os) {r : Int} (D : slices_IndexFunc_qJ p0 p1 = some r) :
    Calls P 79 #[(Sl a_p0 p0 c_p0), (.func (.func g_p1) #[] k_p1.toArray)] w (RT E I Os (Iv r)) := by
 refine calls_W (fn := Tryz.f79) rfl rfl rfl ?_
 unfold slices_IndexFunc_qJ at D
 refine ye [0] (ya 0 1 z (yb (yi (ye nL3 (ya 0 3 z (yb (yo (bsk D fun t1 hloop5 D => have hlt9 := (h_p0).len_lt; W.wk (yau (m := p0.length) hloop5 (fun (i4 : Nat) (_s : Unit) => JI E I [(0, Sl a_p0 p0 c_p0), (1, .func (.func g_p1) #[] k_p1.toArray), (7, Nv p0.length), (8, Nv i4)] Os) ⟨I, rfl, lr, hS⟩ ?_ ?_)))))))))
 rintro i4 _ _ w6 hi10 ⟨I2, rfl, L3, S7⟩ x8 R1 hext1
 refine ye [0] (ya 0 1 z (yb (yi (yax fun _ => yl (yc (yi (yo (ye nL2 (ya 0 2 z (y8 nL6 (yaf 0 11 (.func (.func g_p1) #[] k_p1.toArray) (ya 1 2 z ?_))))))))))))
 obtain ⟨x11, R1, Hx11, _, ⟨w_x11, rfl, h_x11⟩, Zx11⟩ := sx I2 h_p0 R1
 refine yac 73 2 Hx11 z (yat ((cs_qJ x11 w_x11)) Zx11 0 S7.rm z (bsk R1 fun r17 Xr12 R1 => ybg z kr z (g := g_p1) (kk := k_p1) (args := [(vJ x11 w_x11)]) z kr hcall_p1 (h_p1 (F := []) L3 S7 h_x11 Xr12) ?_))
 rintro _ w13 ⟨I14, rfl, L15, S16⟩
 refine cv (yb (y3 R1 (fun G R1 => ?_) (fun G R1 => ?_)))
 refine ye nL2 (ya 0 2 z (yb (yq (yn (yf (yv ?_))))))
 obtain rfl := hext1 _ (sj R1).symm
 exact yn (yf (sj D ▸ yy ⟨I14, rfl, le, S16⟩))
 exact yl (ym (yc (yai nL2 (yap i4 z (ya 1 1 z (yr (yx ⟨(), (sj R1).symm, I14, rfl, le, S16⟩)))))))
 rintro _ _ w20 ⟨I2, rfl, L3, S21⟩ he
 cases he
 exact ye [0] (ya 0 1 z (yb (yi (yay fun _ => yab (yp (yt (yu (yc (ye [0] (ya 0 1 z (yb (yq (sj D ▸ yy ⟨I2, rfl, L3, S21⟩)))))))))))))
def member_at_1 (p0 : qJ) (q1 : By8) : Option Bool := some (sEq p0.Name q1)
theorem member_at_1_ok {p0 : qJ} {q1 : By8} {w_p0 : W_qJ} {kb1 : Nat} (h_p0 : ok_qJ I p0 w_p0) (hm1 : (Bx kb1 [(.string q1)] 9) ∈ Os) (hS : St E w I Os) {r : Bool} (D : member_at_1 p0 q1 = some r) :
    Calls P 80 #[(vJ p0 w_p0), (Pt kb1 0)] w (RT E I Os (.bool r)) := by
 refine calls_W (fn := Tryz.f80) rfl rfl rfl ?_
 unfold member_at_1 at D
 exact ye nL2 (yaa hS (cs_qJ p0 w_p0) 73 z fun b1 w4 S3 => ya 1 1 z (y8 nL5 (yh 0 1 [0] z (yj (S3.rf m0) z (yj (rd_f (S3.rd (List.Mem.tail _ hm1))) z (ya 3 2 z (yb (yq (sj D ▸ yy ⟨I, rfl, lr, S3.drop⟩)))))))))
def member_at (p0 : List qJ) (p1 : By8) : Option Int := (slices_IndexFunc_qJ p0 (fun (u0 : qJ) => member_at_1 u0 p1)).bind (fun r10 => some r10)
theorem member_at_ok {p0 : List qJ} {p1 : By8} {a_p0 : Option Addr} {c_p0 : Nat} (h_p0 : RSl 2 R_qJ I a_p0 c_p0 p0) (hS : St E w I Os) {r : Int} (D : member_at p0 p1 = some r) :
    Calls P 50 #[(Sl a_p0 p0 c_p0), (.string p1)] w (RT E I Os (Iv r)) := by
 refine calls_W (fn := Tryz.f50) rfl rfl rfl ?_
 unfold member_at at D
 exact ye nL2 (yaa hS [(.string p1)] 9 z fun b1 w4 S3 => ya 1 1 z (y8 nL4 (ya 0 1 z (yaf 1 6 (.func (.func 80) #[] #[(Pt b1 0)]) (bsk D fun r10 Xr5 D => WO.c1 (slices_IndexFunc_qJ_ok h_p0 (fun {F Ic wc} {_} {_} hlc hSc h_u0 {rc} hrc => member_at_1_ok h_u0 (List.mem_append_right _ m0) hSc hrc) (fun _ _ => by kernel_rfl) S3 Xr5) z fun I7 w6 L8 S9 => ya 3 1 z (yb (yq (sj D ▸ yy ⟨I7, rfl, L8, S9.drop⟩))))))))
def slices_Clone_string (p0 : List By8) : Option (List By8) := (app 16 ([] : List By8) p0).bind (fun x10 => some x10)
theorem slices_Clone_string_ok {p0 : List By8} {a_p0 : Option Addr} {c_p0 : Nat} (h_p0 : RSl 1 RStr I a_p0 c_p0 p0) (hS : St E w I Os) {r : (List By8)} (D : slices_Clone_string p0 = some r) :
    Calls P 51 #[(Sl a_p0 p0 c_p0)] w (fun e w' => ∃ (I' : Mem) (ra0 : Option Addr) (rc0 : Nat) (rC0 : Mem), e = .returned (Sl ra0 r rc0) ∧ I.Le I' ∧ St E w' I' (rC0 :: Os) ∧ OwnSl 9 1 RStr I' rC0 ra0 rc0 r) := by
 refine calls_W (fn := Tryz.f51) rfl rfl rfl ?_
 unfold slices_Clone_string at D
 refine ye [0] (yaf 0 2 (.slice none 0 0) (yb (yi (ye nL2 (ya 0 1 z (ybn (e := 9) z kr kr z z ?_))))))
 refine yb (W.cd (fun G => ?_) (fun G => ?_))
 have ha0 := Option.isNone_iff_eq_none.1 G
 subst ha0
 have hx0 := (h_p0).none_nil
 subst hx0
 replace D : some ([] : List By8) = some r := by simpa [app] using D
 exact ye [0] (yaf 0 2 (.slice none 0 0) (yb (yq (yf (sj D ▸ yy ⟨I, none, 0, Mem.no, rfl, lr, hS.no, OwnSl.nil⟩)))))
 clear G
 refine yl (yc (ye nL4 (yag (rel := RStr) (xs := ([] : List By8)) hS z kr z 9 1 [] kr z (Elr.nil) tv ?_)))
 intro a6 C4 w8 S7 ho5
 exact ya 1 1 z (apk D fun x10 h0_x10 he_x10 D => ya2 9 16 [(.string eB)] S7 ho5 h_p0 S7.im h0_x10 he_x10 z fun a11 c12 w13 C14 S15 ho16 => ya 3 1 z (yb (yq (sj D ▸ yy ⟨I, a11, c12, C14, rfl, lr, S15, ho16⟩))))
def member_Find (p0 : List qJ) (p1 : By8) : Option (qJ × Bool) := (member_at p0 p1).bind (fun r10 => (bif (decide (r10 < 0)) then some (z_qJ, false) else (idx p0 r10).bind (fun x16 => (idx p0 r10).bind (fun x17 => (slices_Clone_string x17.In).bind (fun r23 => some ({ x16 with In := r23 }, true))))))
theorem member_Find_ok {p0 : List qJ} {p1 : By8} {a_p0 : Option Addr} {c_p0 : Nat} (h_p0 : RSl 2 R_qJ I a_p0 c_p0 p0) (hS : St E w I Os) {r : qJ × Bool} (D : member_Find p0 p1 = some r) :
    Calls P 18 #[(Sl a_p0 p0 c_p0), (.string p1)] w (fun e w' => ∃ I' w_rw0, e = .returned (.tuple #[(vJ r.1 w_rw0), (.bool r.2)]) ∧ I.Le I' ∧ St E w' I' Os ∧ ok_qJ I' r.1 w_rw0) := by
 refine calls_W (fn := Tryz.f18) rfl rfl rfl ?_
 unfold member_Find at D
 refine ye nL2 (yaa hS (cs_qJ z_qJ zw_qJ) 73 z fun b1 w4 S3 => ya 1 1 z (y8 nL4 (ya 0 2 z (bsk D fun r10 Xr5 D => WO.c1 (member_at_ok h_p0 S3 Xr5) z fun I7 w6 L8 S9 => ya 3 1 z (yb (yi (ye nL2 (ya 0 2 z (yb (y3 D (fun G D => ?_) (fun G D => ?_)))))))))))
 exact ye nL3 (yaf 0 12 (vJ z_qJ zw_qJ) (yad S9 0 (cs_qJ z_qJ zw_qJ) fun w12 S11 => ya 2 1 z (yb (yq (yf (sj D ▸ yba _ (S11.rd m0) ⟨I7, zw_qJ, rfl, L8, S11.drop, zok_qJ⟩))))))
 refine yl (yc (yi (have S14 := S9.drew; ybc nL14 11 (yae S14.im) ?_)))
 generalize World.drew _ = w15 at *
 refine ya 0 2 z ?_
 obtain ⟨x16, D, Hx16, _, ⟨w_x16, rfl, h_x16⟩, Zx16⟩ := sx I7 h_p0 D
 refine yac 73 2 Hx16 z (yh 3 1 [0] z (yar Zx16 (rd_i S14.im) z (ya 5 2 z ?_)))
 obtain ⟨x17, D, Hx17, _, ⟨w_x17, rfl, h_x17⟩, Zx17⟩ := sx I7 h_p0 D
 refine yac 73 2 Hx17 z (yh 8 1 [1] z (ya6 Zx17 1 (rd_i S14.im) z (bsk D fun r23 Xr18 D => yaj (slices_Clone_string_ok h_x17.In S14 Xr18) ?_)))
 rintro _ w19 ⟨I20, a_r23, c_r23, C_r23, rfl, L21, S22, h_r23⟩
 refine ⟨_, rfl, (yae (S22.im.of_le L21)), ?_⟩
 refine WO.tail z ?_
 obtain ⟨I24, L25, S27, hp26⟩ := yah h_r23 S22
 refine yaf 11 24 (.agg (cs_qJ ({ x16 with In := r23 }) (⟨⟨a_r23, c_r23⟩⟩ : W_qJ)).toArray) (yad S27 0 (cs_qJ ({ x16 with In := r23 }) (⟨⟨a_r23, c_r23⟩⟩ : W_qJ)) fun w29 S28 => ya 13 1 z (yb (yq ?_)))
 have hk31 : ok_qJ I24 ({ x16 with In := r23 }) (⟨⟨a_r23, c_r23⟩⟩ : W_qJ) := ⟨hp26⟩
 exact sj D ▸ yba _ (S28.rd m0) ⟨I24, (⟨⟨a_r23, c_r23⟩⟩ : W_qJ), rfl, le, S28.drop, hk31⟩
def slices_IndexFunc_qT (p0 : List qT) (p1 : qT → Option Bool) : Option Int := (forN (fun (i4 : Nat) (_s : Unit) => (idx p0 (i4 : Int)).bind (fun x11 => (p1 x11).bind (fun (r17 : Bool) => (bif r17 then some (.inr (i4 : Int)) else some (.inl ()))))) p0.length 0 ()).bind (fun (t : Unit ⊕ (Int)) => match t with | .inl _ => some (-1) | .inr s19 => some s19)
theorem slices_IndexFunc_qT_ok {p0 : List qT} {p1 : qT → Option Bool} {a_p0 : Option Addr} {c_p0 : Nat} {g_p1 : FuncId} {k_p1 : List Value} (h_p0 : RSl 6 R_qT I a_p0 c_p0 p0) (h_p1 : ∀ {F : List Mem} {I' : Mem} {w : World} {u0 : qT} {w_u0 : W_qT}, I.Le I' → St E w I' (F ++ Os) → ok_qT I' u0 w_u0 → ∀ {r : Bool}, p1 u0 = some r → Calls P g_p1 (([(vT u0 w_u0)] : List Value) ++ k_p1).toArray w (fun e w' => ∃ (I'' : Mem), e = .returned (.bool r) ∧ I'.Le I'' ∧ St E w' I'' (F ++ Os))) (hcall_p1 : Callable P g_p1) (hS : St E w I Os) {r : Int} (D : slices_IndexFunc_qT p0 p1 = some r) :
    Calls P 53 #[(Sl a_p0 p0 c_p0), (.func (.func g_p1) #[] k_p1.toArray)] w (RT E I Os (Iv r)) := by
 refine calls_W (fn := Tryz.f53) rfl rfl rfl ?_
 unfold slices_IndexFunc_qT at D
 refine ye [0] (ya 0 1 z (yb (yi (ye nL3 (ya 0 3 z (yb (yo (bsk D fun t1 hloop5 D => have hlt9 := (h_p0).len_lt; W.wk (yau (m := p0.length) hloop5 (fun (i4 : Nat) (_s : Unit) => JI E I [(0, Sl a_p0 p0 c_p0), (1, .func (.func g_p1) #[] k_p1.toArray), (7, Nv p0.length), (8, Nv i4)] Os) ⟨I, rfl, lr, hS⟩ ?_ ?_)))))))))
 rintro i4 _ _ w6 hi10 ⟨I2, rfl, L3, S7⟩ x8 R1 hext1
 refine ye [0] (ya 0 1 z (yb (yi (yax fun _ => yl (yc (yi (yo (ye nL2 (ya 0 2 z (y8 nL6 (yaf 0 11 (.func (.func g_p1) #[] k_p1.toArray) (ya 1 2 z ?_))))))))))))
 obtain ⟨x11, R1, Hx11, _, ⟨w_x11, rfl, h_x11⟩, Zx11⟩ := sx I2 h_p0 R1
 refine yac 52 6 Hx11 z (yat ((cs_qT x11 w_x11)) Zx11 0 S7.rm z (bsk R1 fun r17 Xr12 R1 => ybg z kr z (g := g_p1) (kk := k_p1) (args := [(vT x11 w_x11)]) z kr hcall_p1 (h_p1 (F := []) L3 S7 h_x11 Xr12) ?_))
 rintro _ w13 ⟨I14, rfl, L15, S16⟩
 refine cv (yb (y3 R1 (fun G R1 => ?_) (fun G R1 => ?_)))
 refine ye nL2 (ya 0 2 z (yb (yq (yn (yf (yv ?_))))))
 obtain rfl := hext1 _ (sj R1).symm
 exact yn (yf (sj D ▸ yy ⟨I14, rfl, le, S16⟩))
 exact yl (ym (yc (yai nL2 (yap i4 z (ya 1 1 z (yr (yx ⟨(), (sj R1).symm, I14, rfl, le, S16⟩)))))))
 rintro _ _ w20 ⟨I2, rfl, L3, S21⟩ he
 cases he
 exact ye [0] (ya 0 1 z (yb (yi (yay fun _ => yab (yp (yt (yu (yc (ye [0] (ya 0 1 z (yb (yq (sj D ▸ yy ⟨I2, rfl, L3, S21⟩)))))))))))))
def slices_Clone_qL (p0 : List qL) : Option (List qL) := (app 32 ([] : List qL) p0).bind (fun x10 => some x10)
theorem slices_Clone_qL_ok {p0 : List qL} {a_p0 : Option Addr} {c_p0 : Nat} (h_p0 : RSl 3 R_qL I a_p0 c_p0 p0) (hS : St E w I Os) {r : (List qL)} (D : slices_Clone_qL p0 = some r) :
    Calls P 83 #[(Sl a_p0 p0 c_p0)] w (fun e w' => ∃ (I' : Mem) (ra0 : Option Addr) (rc0 : Nat) (rC0 : Mem), e = .returned (Sl ra0 r rc0) ∧ I.Le I' ∧ St E w' I' (rC0 :: Os) ∧ OwnSl 54 3 R_qL I' rC0 ra0 rc0 r) := by
 refine calls_W (fn := Tryz.f83) rfl rfl rfl ?_
 unfold slices_Clone_qL at D
 refine ye [0] (yaf 0 2 (.slice none 0 0) (yb (yi (ye nL2 (ya 0 1 z (ybn (e := 54) z kr kr z z ?_))))))
 refine yb (W.cd (fun G => ?_) (fun G => ?_))
 have ha0 := Option.isNone_iff_eq_none.1 G
 subst ha0
 have hx0 := (h_p0).none_nil
 subst hx0
 replace D : some ([] : List qL) = some r := by simpa [app] using D
 exact ye [0] (yaf 0 2 (.slice none 0 0) (yb (yq (yf (sj D ▸ yy ⟨I, none, 0, Mem.no, rfl, lr, hS.no, OwnSl.nil⟩)))))
 clear G
 refine yl (yc (ye nL4 (yag (rel := R_qL) (xs := ([] : List qL)) hS z kr z 54 3 [] kr z (Elr.nil) tv ?_)))
 intro a6 C4 w8 S7 ho5
 exact ya 1 1 z (apk D fun x10 h0_x10 he_x10 D => ya2 54 32 (cs_qL z_qL) S7 ho5 h_p0 S7.im h0_x10 he_x10 z fun a11 c12 w13 C14 S15 ho16 => ya 3 1 z (yb (yq (sj D ▸ yy ⟨I, a11, c12, C14, rfl, lr, S15, ho16⟩))))
def slices_Clone_qK (p0 : List qK) : Option (List qK) := (app 176 ([] : List qK) p0).bind (fun x10 => some x10)
theorem slices_Clone_qK_ok {p0 : List qK} {a_p0 : Option Addr} {c_p0 : Nat} (h_p0 : RSl 12 R_qK I a_p0 c_p0 p0) (hS : St E w I Os) {r : (List qK)} (D : slices_Clone_qK p0 = some r) :
    Calls P 84 #[(Sl a_p0 p0 c_p0)] w (fun e w' => ∃ (I' : Mem) (ra0 : Option Addr) (rc0 : Nat) (rC0 : Mem), e = .returned (Sl ra0 r rc0) ∧ I.Le I' ∧ St E w' I' (rC0 :: Os) ∧ OwnSl 59 12 R_qK I' rC0 ra0 rc0 r) := by
 refine calls_W (fn := Tryz.f84) rfl rfl rfl ?_
 unfold slices_Clone_qK at D
 refine ye [0] (yaf 0 2 (.slice none 0 0) (yb (yi (ye nL2 (ya 0 1 z (ybn (e := 59) z kr kr z z ?_))))))
 refine yb (W.cd (fun G => ?_) (fun G => ?_))
 have ha0 := Option.isNone_iff_eq_none.1 G
 subst ha0
 have hx0 := (h_p0).none_nil
 subst hx0
 replace D : some ([] : List qK) = some r := by simpa [app] using D
 exact ye [0] (yaf 0 2 (.slice none 0 0) (yb (yq (yf (sj D ▸ yy ⟨I, none, 0, Mem.no, rfl, lr, hS.no, OwnSl.nil⟩)))))
 clear G
 refine yl (yc (ye nL4 (yag (rel := R_qK) (xs := ([] : List qK)) hS z kr z 59 12 [] kr z (Elr.nil) tv ?_)))
 intro a6 C4 w8 S7 ho5
 exact ya 1 1 z (apk D fun x10 h0_x10 he_x10 D => ya2 59 176 (cs_qK z_qK zw_qK) S7 ho5 h_p0 S7.im h0_x10 he_x10 z fun a11 c12 w13 C14 S15 ho16 => ya 3 1 z (yb (yq (sj D ▸ yy ⟨I, a11, c12, C14, rfl, lr, S15, ho16⟩))))
def expr_Clone_fu : Nat → qE → Option qE
  | 0, _ => none
  | fu + 1, p0 => (forE (fun (i13 : Nat) (s12 : List qE) => (idx p0.Kids (i13 : Int)).bind (fun x24 => (expr_Clone_fu fu x24).bind (fun r36 => (app 88 s12 ([r36] : List qE)).bind (fun x45 => some x45)))) p0.Kids.length 0 ([] : List qE)).bind (fun s12 => some { p0 with Kids := s12 })
noncomputable def expr_Clone (p0 : qE) : Option qE := anyFuel (fun fu => expr_Clone_fu fu p0)
theorem expr_Clone_fu_ok : ∀ (fu : Nat) {E w : World} {I : Mem} {Os : List Mem} {p0 : qE} {w_p0 : W_qE} (h_p0 : ok_qE I p0 w_p0) (hS : St E w I Os) {r : qE} (D : expr_Clone_fu fu p0 = some r),
    Calls P 85 #[(vE p0 w_p0)] w (fun e w' => ∃ I' w_rw0, e = .returned (vE r w_rw0) ∧ I.Le I' ∧ St E w' I' Os ∧ ok_qE I' r w_rw0) := by
 intro fu
 induction fu with
 | zero => intro E w I Os p0 w_p0 h_p0 hS r D; cases D
 | succ fu ih =>
 intro E w I Os p0 w_p0 h_p0 hS r D
 refine calls_W (fn := Tryz.f85) rfl rfl rfl ?_
 unfold expr_Clone_fu at D
 refine ye nL2 (yaa hS (cs_qE p0 w_p0) 31 z fun b1 w4 S3 => yaa S3 (cs_qE z_qE zw_qE) 31 z fun b5 w8 S7 => y8 [0] (yaf 0 3 (.slice none 0 0) (yb (yi (ye nL4 (yh 0 1 [6] z (yj (S7.rf m1) z (ya 2 2 z (yb (yo (bsk D fun s12 hloop14 D => have hlt22 := (h_p0.Kids).len_lt; W.wk (ya1 (m := p0.Kids.length) hloop14 (fun (i13 : Nat) (s12 : List qE) fr w => ∃ I10 a_s12 c_s12 C_s12, fr = [(1, Pt b1 0), (2, Pt b5 0), (3, Sl a_s12 s12 c_s12), (7, Sl w_p0.Kids.a p0.Kids w_p0.Kids.c), (8, Nv p0.Kids.length), (9, Nv i13)] ∧ I.Le I10 ∧ St E w I10 (bE b1 p0 w_p0 :: (bE b5 z_qE zw_qE) :: (C_s12) :: Os) ∧ OwnSl 31 7 Q_qE I10 C_s12 a_s12 c_s12 s12) ⟨I, none, 0, Mem.no, rfl, lr, S7.no.front1.front2, OwnSl.nil⟩ ?_ ?_))))))))))))
 rintro i13 s12 _ w19 hi23 ⟨I10, a_s12, c_s12, C_s12, rfl, L11, S20, h_s12⟩ x21 R1
 refine ye [0] (ya 0 1 z (yb (yi (yax fun _ => yl (yc (yi (yo (ye nL4 ?_))))))))
 obtain ⟨x24, Xx24, R1⟩ := bsm R1
 obtain ⟨h0_x24, h1_x24, Xx24⟩ := idx_some Xx24
 obtain ⟨ha_x24, cs_x24, hn_x24, hr_x24, Zx24⟩ := ((RSl.mono h_p0.Kids L11)).el _ _ Xx24
 obtain ⟨w_x24, rfl, h_x24⟩ := Q_qE_iff.1 hr_x24
 refine ya5 31 7 ha_x24 h0_x24 h1_x24 ?_
 refine yat ((cs_qE x24 w_x24)) Zx24 0 S20.rm z (yaa S20 (cs_qE z_qE zw_qE) 31 z fun b25 w28 S27 => yad S27 0 (cs_qE x24 w_x24) fun w30 S29 => yb (yai nL6 (ya 0 1 z (y4 ((cs_qE x24 w_x24)) (S29.rf m0) z (bsk R1 fun r36 Xr31 R1 => yaj (ih h_x24 S29 Xr31) ?_)))))
 rintro _ w32 ⟨I33, w_r36, rfl, L34, S35, h_r36⟩
 refine cv (yag (rel := Q_qE) (xs := ([r36] : List qE)) S35 z kr z 31 7 [(cs_qE r36 w_r36)] kr z ((Elr.cons (Q_qE_iff.2 ⟨w_r36, rfl, h_r36⟩) Elr.nil)) tv ?_)
 intro a40 C38 w42 S41 ho39
 have S44 := S41.front4
 exact apk R1 fun x45 h0_x45 he_x45 R1 => ya2 31 88 (cs_qE z_qE zw_qE) S44 (OwnSl.mono h_s12 L34) ho39.sl (S44.rd m1) h0_x45 he_x45 z fun a46 c47 w48 C49 S50 ho51 => ya 5 1 z (yr (ym (yc (yai nL2 (yap i13 z (ya 1 1 z (yr (sj R1 ▸ yx ⟨I33, a46, c47, C49, rfl, le, S50.front1.drop.front1.drop.front2.front2, ho51⟩))))))))
 rintro _ w58 ⟨I10, a_s12, c_s12, C_s12, rfl, L11, S59, h_s12⟩
 refine ye [0] (ya 0 1 z (yb (yi (yay fun _ => yab (yp (yt (yu (yc (ye nL3 (yh 0 2 [6] z ?_))))))))))
 obtain ⟨I61, L62, S64, hp63⟩ := yah h_s12 S59.front2
 refine yad S64 6 (cs_qE ({ p0 with Kids := s12 }) (⟨⟨a_s12, c_s12⟩⟩ : W_qE)) fun w66 S65 => y8 nL2 (y4 ((cs_qE ({ p0 with Kids := s12 }) (⟨⟨a_s12, c_s12⟩⟩ : W_qE))) (S65.rf m0) z (yad S65.front1 0 (cs_qE ({ p0 with Kids := s12 }) (⟨⟨a_s12, c_s12⟩⟩ : W_qE)) fun w69 S68 => yb (yq ?_)))
 have hk72 : ok_qE I61 ({ p0 with Kids := s12 }) (⟨⟨a_s12, c_s12⟩⟩ : W_qE) := ⟨hp63⟩
 exact sj D ▸ En.c1 _ (S68.rd m0) ⟨I61, (⟨⟨a_s12, c_s12⟩⟩ : W_qE), rfl, le, S68.d2, hk72⟩
theorem expr_Clone_ok {p0 : qE} {w_p0 : W_qE} (h_p0 : ok_qE I p0 w_p0) (hS : St E w I Os) {r : qE} (D : expr_Clone p0 = some r) :
    Calls P 85 #[(vE p0 w_p0)] w (fun e w' => ∃ I' w_rw0, e = .returned (vE r w_rw0) ∧ I.Le I' ∧ St E w' I' Os ∧ ok_qE I' r w_rw0) := by
 obtain ⟨fu, hf⟩ := anyFuel_some D
 exact expr_Clone_fu_ok fu h_p0 hS hf
def slices_Clone_qI (p0 : List qI) : Option (List qI) := (app 40 ([] : List qI) p0).bind (fun x10 => some x10)
theorem slices_Clone_qI_ok {p0 : List qI} {a_p0 : Option Addr} {c_p0 : Nat} (h_p0 : RSl 2 R_qI I a_p0 c_p0 p0) (hS : St E w I Os) {r : (List qI)} (D : slices_Clone_qI p0 = some r) :
    Calls P 86 #[(Sl a_p0 p0 c_p0)] w (fun e w' => ∃ (I' : Mem) (ra0 : Option Addr) (rc0 : Nat) (rC0 : Mem), e = .returned (Sl ra0 r rc0) ∧ I.Le I' ∧ St E w' I' (rC0 :: Os) ∧ OwnSl 136 2 R_qI I' rC0 ra0 rc0 r) := by
 refine calls_W (fn := Tryz.f86) rfl rfl rfl ?_
 unfold slices_Clone_qI at D
 refine ye [0] (yaf 0 2 (.slice none 0 0) (yb (yi (ye nL2 (ya 0 1 z (ybn (e := 136) z kr kr z z ?_))))))
 refine yb (W.cd (fun G => ?_) (fun G => ?_))
 have ha0 := Option.isNone_iff_eq_none.1 G
 subst ha0
 have hx0 := (h_p0).none_nil
 subst hx0
 replace D : some ([] : List qI) = some r := by simpa [app] using D
 exact ye [0] (yaf 0 2 (.slice none 0 0) (yb (yq (yf (sj D ▸ yy ⟨I, none, 0, Mem.no, rfl, lr, hS.no, OwnSl.nil⟩)))))
 clear G
 refine yl (yc (ye nL4 (yag (rel := R_qI) (xs := ([] : List qI)) hS z kr z 136 2 [] kr z (Elr.nil) tv ?_)))
 intro a6 C4 w8 S7 ho5
 exact ya 1 1 z (apk D fun x10 h0_x10 he_x10 D => ya2 136 40 (cs_qI z_qI zw_qI) S7 ho5 h_p0 S7.im h0_x10 he_x10 z fun a11 c12 w13 C14 S15 ho16 => ya 3 1 z (yb (yq (sj D ▸ yy ⟨I, a11, c12, C14, rfl, lr, S15, ho16⟩))))
noncomputable def table_Clone (p0 : qT) : Option qT := (slices_Clone_qL p0.Cols).bind (fun r14 => (slices_Clone_qK p0.Cons).bind (fun r27 => (forE (fun (i35 : Nat) (s34 : List qK) => (idx s34 (i35 : Int)).bind (fun x45 => (slices_Clone_string x45.Cols).bind (fun r59 => (slices_Clone_string x45.Refs).bind (fun r65 => (expr_Clone x45.Check).bind (fun r71 => (idx s34 (i35 : Int)).bind (fun x72 => (idx (s34.set ((i35 : Int)).toNat ({ x72 with Cols := r59 })) (i35 : Int)).bind (fun x85 => (idx ((s34.set ((i35 : Int)).toNat ({ x72 with Cols := r59 })).set ((i35 : Int)).toNat ({ x85 with Refs := r65 })) (i35 : Int)).bind (fun x97 => some (((s34.set ((i35 : Int)).toNat ({ x72 with Cols := r59 })).set ((i35 : Int)).toNat ({ x85 with Refs := r65 })).set ((i35 : Int)).toNat ({ x97 with Check := r71 })))))))))) r27.length 0 r27).bind (fun s34 => (slices_Clone_qI p0.Idx).bind (fun r115 => (forE (fun (i123 : Nat) (s122 : List qI) => (idx s122 (i123 : Int)).bind (fun x134 => (slices_Clone_string x134.Cols).bind (fun r148 => (idx s122 (i123 : Int)).bind (fun x149 => some (s122.set ((i123 : Int)).toNat ({ x149 with Cols := r148 })))))) r115.length 0 r115).bind (fun s122 => some { p0 with Cols := r14, Cons := s34, Idx := s122 })))))
theorem table_Clone_ok {p0 : qT} {w_p0 : W_qT} (h_p0 : ok_qT I p0 w_p0) (hS : St E w I Os) {r : qT} (D : table_Clone p0 = some r) :
    Calls P 55 #[(vT p0 w_p0)] w (fun e w' => ∃ I' w_rw0, e = .returned (vT r w_rw0) ∧ I.Le I' ∧ St E w' I' Os ∧ ok_qT I' r w_rw0) := by
 refine calls_W (fn := Tryz.f55) rfl rfl rfl ?_
 unfold table_Clone at D
 refine ye nL2 (yaa hS (cs_qT p0 w_p0) 52 z fun b1 w4 S3 => yaa S3 (cs_qT z_qT zw_qT) 52 z fun b5 w8 S7 => y8 nL5 (yh 0 1 [3] z (yj (S7.rf m1) z (bsk D fun r14 Xr9 D => yaj (slices_Clone_qL_ok h_p0.Cols S7 Xr9) ?_))))
 rintro _ w10 ⟨I11, a_r14, c_r14, C_r14, rfl, L12, S13, h_r14⟩
 refine cv (yh 3 1 [3] z ?_)
 obtain ⟨I15, L16, S18, hp17⟩ := yah h_r14 S13
 refine yad S18.front1 3 (cs_qT ({ p0 with Cols := r14 }) ({ w_p0 with Cols := ⟨a_r14, c_r14⟩ })) fun w21 S20 => y8 nL5 (yh 0 1 [4] z (yj (S20.rf m0) z (bsk D fun r27 Xr22 D => yaj (slices_Clone_qK_ok (up h_p0.Cons) S20 Xr22) ?_)))
 rintro _ w23 ⟨I24, a_r27, c_r27, C_r27, rfl, L25, S26, h_r27⟩
 refine cv (yh 3 1 [4] z (yad S26.front1 4 (cs_qT ({ p0 with Cols := r14, Cons := r27 }) ({ w_p0 with Cols := ⟨a_r14, c_r14⟩, Cons := ⟨a_r27, c_r27⟩ })) fun w30 S29 => yb (yi (ye nL4 (yh 0 1 [4] z (yj (S29.rf m0) z (ya 2 2 z (yb (yo (bsk D fun s34 hloop36 D => have hlt43 := (h_r27.sl).len_lt; W.wk (ya1 (m := r27.length) hloop36 (fun (i35 : Nat) (s34 : List qK) fr w => ∃ I32 C_s34, fr = [(1, Pt b1 0), (2, Pt b5 0), (16, Sl a_r27 s34 c_r27), (17, Nv r27.length), (18, Nv i35)] ∧ I24.Le I32 ∧ St E w I32 ((Bx b1 (cs_qT ({ p0 with Cols := r14, Cons := s34 }) ({ w_p0 with Cols := ⟨a_r14, c_r14⟩, Cons := ⟨a_r27, c_r27⟩ })) 52) :: (bT b5 z_qT zw_qT) :: (C_s34) :: Os) ∧ OwnSl 59 12 R_qK I32 C_s34 a_r27 c_r27 s34) ⟨I24, C_r27, rfl, lr, S29.front1.front2.front2, h_r27⟩ ?_ ?_)))))))))))
 rintro i35 s34 _ w40 hi44 ⟨I32, C_s34, rfl, L33, S41, h_s34⟩ x42 R1
 refine ye [0] (ya 0 1 z (yb (yi (yax fun _ => yl (yc (yi (yo (ye nL6 (ya 0 1 z ?_)))))))))
 obtain ⟨x45, R1, Hx45, _, ⟨w_x45, rfl, h_x45⟩, Zx45⟩ := sl_ix (h_s34.sl) R1
 refine yac 59 12 Hx45 z (yat ((cs_qK x45 w_x45)) Zx45 0 (S41.rf m2) z (yaa S41 (cs_qK z_qK zw_qK) 59 z fun b46 w49 S48 => ya 4 1 z (yad S48 0 (cs_qK x45 w_x45) fun w51 S50 => yb (have S52 := S50.drew; ybm (l := nL27) kr 24 (KR I32 [bK b46 x45 w_x45, Bx b1 (cs_qT ({ p0 with Cols := r14, Cons := s34 }) ({ w_p0 with Cols := ⟨a_r14, c_r14⟩, Cons := ⟨a_r27, c_r27⟩ })) 52]) qR (.ords nL27 [0, 1, 2, 9, 10, 11, 12, 13, 14, 15, 16, 17, 18, 19, 20, 3, 4, 5, 21, 22, 23, 6, 7, 8, 24, 25, 26] kr kr kr kr kr) kr (yw (S52.rd m0) (yw (S52.rd m1) (yae S52.im))) ?_))))
 generalize World.drew _ = w53 at *
 refine yh 0 1 [4] z (yj (rd_c m1 (S52.rd m1)) z (yh 2 2 [4] z (yj (rd_c m1 (S52.rd m1)) z (yh 5 2 [4] z (yj (rd_c m1 (S52.rd m1)) z (yh 8 2 [2] z (yj (rd_c m0 (S52.rd m0)) z (bsk R1 fun r59 Xr54 R1 => yaj (slices_Clone_string_ok h_x45.Cols S52 Xr54) ?_))))))))
 rintro _ w55 ⟨I56, a_r59, c_r59, C_r59, rfl, L57, S58, h_r59⟩
 refine ⟨_, rfl, (yw (S58.rd m1) (yw (S58.rd m2) (yae (S58.im.of_le L57)))), ?_⟩
 refine yh 12 1 [11] z (yj (rd_c m0 (S58.rd m1)) z (bsk R1 fun r65 Xr60 R1 => yaj (slices_Clone_string_ok (RSl.mono h_x45.Refs L57) S58 Xr60) ?_))
 rintro _ w61 ⟨I62, a_r65, c_r65, C_r65, rfl, L63, S64, h_r65⟩
 refine ⟨_, rfl, (yw (S64.rd m2) (yw (S64.rd m3) (yae (S64.im.of_le le)))), ?_⟩
 refine yh 15 1 [3] z (y4 ((cs_qE x45.Check w_x45.Check)) (rd_c m0 (S64.rd m2)) z (bsk R1 fun r71 Xr66 R1 => yaj (expr_Clone_ok (h_x45.Check.mono le) S64 Xr66) ?_))
 rintro _ w67 ⟨I68, w_r71, rfl, L69, S70, h_r71⟩
 refine ⟨_, rfl, (yw (S70.rd m2) (yw (S70.rd m3) (yae (S70.im.of_le le)))), ?_⟩
 obtain ⟨x72, R1, h0_x72, h1_x72, Xx72, ha_x72, _, _, ⟨w_x72, rfl, h_x72⟩, Zx72⟩ := sl_at (h_s34.sl) R1
 refine ya5 59 12 ha_x72 h0_x72 h1_x72 ?_
 refine yh 19 1 [2] z ?_
 obtain ⟨I74, L75, S77, hp76⟩ := yah (h_r59.mono (L63.trans L69)) S70.front1
 have hk83 : ok_qK I74 ({ x72 with Cols := r59 }) ({ w_x72 with Cols := ⟨a_r59, c_r59⟩ }) := ⟨hp76, (h_x72.Check.mono (((L57.trans L63).trans L69).trans L75)), (RSl.mono h_x72.Refs (((L57.trans L63).trans L69).trans L75))⟩
 refine yaw S77.front4 (OwnSl.mono h_s34 le) z kr z Xx72 (u' := { x72 with Cols := r59 }) 2 z z kr z z (fun cs hrel => (by obtain ⟨w_zz, rfl, h_zz⟩ := hrel; exact ⟨{ w_zz with Cols := ⟨a_r59, c_r59⟩ }, rfl, { h_zz with Cols := hp76 }⟩)) (fun w80 C81 S79 => (yw (S79.rd m2) (yw (S79.rd m3) (yae (S79.im.of_le le))))) ?_
 intro w80 C81 S79 ho82
 refine yz 16 z (show Value.slice a_r27 s34.length c_r27 = Value.slice a_r27 (s34.set ((i35 : Int)).toNat ({ x72 with Cols := r59 })).length c_r27 by simp only [List.length_set]) ?_
 refine yz 24 z (show Value.slice a_r27 s34.length c_r27 = Value.slice a_r27 (s34.set ((i35 : Int)).toNat ({ x72 with Cols := r59 })).length c_r27 by simp only [List.length_set]) ?_
 refine yz 27 z (show Value.slice a_r27 s34.length c_r27 = Value.slice a_r27 (s34.set ((i35 : Int)).toNat ({ x72 with Cols := r59 })).length c_r27 by simp only [List.length_set]) ?_
 refine yz 30 z (show Value.slice a_r27 s34.length c_r27 = Value.slice a_r27 (s34.set ((i35 : Int)).toNat ({ x72 with Cols := r59 })).length c_r27 by simp only [List.length_set]) ?_
 have S84 : St E w80 I74 ((C81) :: (C_r65) :: (bK b46 x45 w_x45) :: (Bx b1 (cs_qT ({ p0 with Cols := r14, Cons := (s34.set ((i35 : Int)).toNat ({ x72 with Cols := r59 })) }) ({ w_p0 with Cols := ⟨a_r14, c_r14⟩, Cons := ⟨a_r27, c_r27⟩ })) 52) :: (bT b5 z_qT zw_qT) :: Os) := by have hq := S79; simp only [cs_qT, List.length_set] at hq ⊢; exact hq
 obtain ⟨x85, R1, h0_x85, h1_x85, Xx85, ha_x85, _, _, ⟨w_x85, rfl, h_x85⟩, Zx85⟩ := sl_at (ho82.sl) R1
 refine ya5 59 12 ha_x85 h0_x85 h1_x85 ?_
 refine yh 22 1 [11] z ?_
 obtain ⟨I87, L88, S90, hp89⟩ := yah (h_r65.mono (L69.trans L75)) S84.front1
 have hk95 : ok_qK I87 ({ x85 with Refs := r65 }) ({ w_x85 with Refs := ⟨a_r65, c_r65⟩ }) := ⟨(RSl.mono h_x85.Cols L88), (h_x85.Check.mono L88), hp89⟩
 refine yaw S90 (OwnSl.mono ho82 L88) z kr z Xx85 (u' := { x85 with Refs := r65 }) 11 z z kr z z (fun cs hrel => (by obtain ⟨w_zz, rfl, h_zz⟩ := hrel; exact ⟨{ w_zz with Refs := ⟨a_r65, c_r65⟩ }, rfl, { h_zz with Refs := hp89 }⟩)) (fun w92 C93 S91 => (yw (S91.rd m1) (yw (Rdb.eq (by simp only [cs_qT, List.length_set]) (S91.rd m2)) (yae (S91.im.of_le le))))) ?_
 intro w92 C93 S91 ho94
 refine yz 16 z (show Value.slice a_r27 (s34.set ((i35 : Int)).toNat ({ x72 with Cols := r59 })).length c_r27 = Value.slice a_r27 ((s34.set ((i35 : Int)).toNat ({ x72 with Cols := r59 })).set ((i35 : Int)).toNat ({ x85 with Refs := r65 })).length c_r27 by simp only [List.length_set]) ?_
 refine yz 24 z (show Value.slice a_r27 (s34.set ((i35 : Int)).toNat ({ x72 with Cols := r59 })).length c_r27 = Value.slice a_r27 ((s34.set ((i35 : Int)).toNat ({ x72 with Cols := r59 })).set ((i35 : Int)).toNat ({ x85 with Refs := r65 })).length c_r27 by simp only [List.length_set]) ?_
 refine yz 27 z (show Value.slice a_r27 (s34.set ((i35 : Int)).toNat ({ x72 with Cols := r59 })).length c_r27 = Value.slice a_r27 ((s34.set ((i35 : Int)).toNat ({ x72 with Cols := r59 })).set ((i35 : Int)).toNat ({ x85 with Refs := r65 })).length c_r27 by simp only [List.length_set]) ?_
 refine yz 30 z (show Value.slice a_r27 (s34.set ((i35 : Int)).toNat ({ x72 with Cols := r59 })).length c_r27 = Value.slice a_r27 ((s34.set ((i35 : Int)).toNat ({ x72 with Cols := r59 })).set ((i35 : Int)).toNat ({ x85 with Refs := r65 })).length c_r27 by simp only [List.length_set]) ?_
 have S96 : St E w92 I87 ((C93) :: (bK b46 x45 w_x45) :: (Bx b1 (cs_qT ({ p0 with Cols := r14, Cons := ((s34.set ((i35 : Int)).toNat ({ x72 with Cols := r59 })).set ((i35 : Int)).toNat ({ x85 with Refs := r65 })) }) ({ w_p0 with Cols := ⟨a_r14, c_r14⟩, Cons := ⟨a_r27, c_r27⟩ })) 52) :: (bT b5 z_qT zw_qT) :: Os) := by have hq := S91; simp only [cs_qT, List.length_set] at hq ⊢; exact hq
 refine WO.tail z ?_
 obtain ⟨x97, R1, h0_x97, h1_x97, Xx97, ha_x97, _, _, ⟨w_x97, rfl, h_x97⟩, Zx97⟩ := sl_at (ho94.sl) R1
 refine ya5 59 12 ha_x97 h0_x97 h1_x97 ?_
 refine yh 25 1 [3] z ?_
 have hk102 : ok_qK I87 ({ x97 with Check := r71 }) ({ w_x97 with Check := w_r71 }) := ⟨h_x97.Cols, (h_r71.mono (L75.trans L88)), h_x97.Refs⟩
 refine yaw S96 ho94 z kr z Xx97 (u' := { x97 with Check := r71 }) 3 z z kr z z (fun cs hrel => (by obtain ⟨w_zz, rfl, h_zz⟩ := hrel; exact ⟨{ w_zz with Check := w_r71 }, rfl, { h_zz with Check := (h_r71.mono le) }⟩)) tv ?_
 intro w99 C100 S98 ho101
 refine yz 16 z (show Value.slice a_r27 ((s34.set ((i35 : Int)).toNat ({ x72 with Cols := r59 })).set ((i35 : Int)).toNat ({ x85 with Refs := r65 })).length c_r27 = Value.slice a_r27 (((s34.set ((i35 : Int)).toNat ({ x72 with Cols := r59 })).set ((i35 : Int)).toNat ({ x85 with Refs := r65 })).set ((i35 : Int)).toNat ({ x97 with Check := r71 })).length c_r27 by simp only [List.length_set]) ?_
 refine yz 24 z (show Value.slice a_r27 ((s34.set ((i35 : Int)).toNat ({ x72 with Cols := r59 })).set ((i35 : Int)).toNat ({ x85 with Refs := r65 })).length c_r27 = Value.slice a_r27 (((s34.set ((i35 : Int)).toNat ({ x72 with Cols := r59 })).set ((i35 : Int)).toNat ({ x85 with Refs := r65 })).set ((i35 : Int)).toNat ({ x97 with Check := r71 })).length c_r27 by simp only [List.length_set]) ?_
 refine yz 27 z (show Value.slice a_r27 ((s34.set ((i35 : Int)).toNat ({ x72 with Cols := r59 })).set ((i35 : Int)).toNat ({ x85 with Refs := r65 })).length c_r27 = Value.slice a_r27 (((s34.set ((i35 : Int)).toNat ({ x72 with Cols := r59 })).set ((i35 : Int)).toNat ({ x85 with Refs := r65 })).set ((i35 : Int)).toNat ({ x97 with Check := r71 })).length c_r27 by simp only [List.length_set]) ?_
 refine yz 30 z (show Value.slice a_r27 ((s34.set ((i35 : Int)).toNat ({ x72 with Cols := r59 })).set ((i35 : Int)).toNat ({ x85 with Refs := r65 })).length c_r27 = Value.slice a_r27 (((s34.set ((i35 : Int)).toNat ({ x72 with Cols := r59 })).set ((i35 : Int)).toNat ({ x85 with Refs := r65 })).set ((i35 : Int)).toNat ({ x97 with Check := r71 })).length c_r27 by simp only [List.length_set]) ?_
 have S103 : St E w99 I87 ((C100) :: (bK b46 x45 w_x45) :: (Bx b1 (cs_qT ({ p0 with Cols := r14, Cons := (((s34.set ((i35 : Int)).toNat ({ x72 with Cols := r59 })).set ((i35 : Int)).toNat ({ x85 with Refs := r65 })).set ((i35 : Int)).toNat ({ x97 with Check := r71 })) }) ({ w_p0 with Cols := ⟨a_r14, c_r14⟩, Cons := ⟨a_r27, c_r27⟩ })) 52) :: (bT b5 z_qT zw_qT) :: Os) := by have hq := S98; simp only [cs_qT, List.length_set] at hq ⊢; exact hq
 exact yr (ym (yc (yai nL2 (yap i35 z (ya 1 1 z (yr (sj R1 ▸ yx ⟨I87, C100, rfl, le, S103.front1.drop.front2.front2, ho101⟩)))))))
 rintro _ w108 ⟨I32, C_s34, rfl, L33, S109, h_s34⟩
 refine ye [0] (ya 0 1 z (yb (yi (yay fun _ => yab (yp (yt (yu (yc (ye nL5 (yh 0 1 [5] z (yj (S109.rf m0) z (bsk D fun r115 Xr110 D => yaj (slices_Clone_qI_ok (up h_p0.Idx) S109 Xr110) ?_))))))))))))
 rintro _ w111 ⟨I112, a_r115, c_r115, C_r115, rfl, L113, S114, h_r115⟩
 refine cv (yh 3 1 [5] z (yad S114.front1 5 (cs_qT ({ p0 with Cols := r14, Cons := s34, Idx := r115 }) (⟨⟨a_r14, c_r14⟩, ⟨a_r27, c_r27⟩, ⟨a_r115, c_r115⟩⟩ : W_qT)) fun w118 S117 => yb (yi (ye nL4 (yh 0 1 [5] z (yj (S117.rf m0) z (ya 2 2 z (yb (yo (bsk D fun s122 hloop124 D => have hlt132 := (h_r115.sl).len_lt; W.wk (ya1 (m := r115.length) hloop124 (fun (i123 : Nat) (s122 : List qI) fr w => ∃ I120 C_s122, fr = [(1, Pt b1 0), (2, Pt b5 0), (53, Sl a_r115 s122 c_r115), (54, Nv r115.length), (55, Nv i123)] ∧ I112.Le I120 ∧ St E w I120 ((Bx b1 (cs_qT ({ p0 with Cols := r14, Cons := s34, Idx := s122 }) (⟨⟨a_r14, c_r14⟩, ⟨a_r27, c_r27⟩, ⟨a_r115, c_r115⟩⟩ : W_qT)) 52) :: (bT b5 z_qT zw_qT) :: (C_s122) :: (C_s34) :: Os) ∧ OwnSl 136 2 R_qI I120 C_s122 a_r115 c_r115 s122) ⟨I112, C_r115, rfl, lr, S117.front3.front2.front3.front3, h_r115⟩ ?_ ?_)))))))))))
 rintro i123 s122 _ w129 hi133 ⟨I120, C_s122, rfl, L121, S130, h_s122⟩ x131 R1
 refine ye [0] (ya 0 1 z (yb (yi (yax fun _ => yl (yc (yi (yo (ye nL6 (ya 0 1 z ?_)))))))))
 obtain ⟨x134, R1, Hx134, _, ⟨w_x134, rfl, h_x134⟩, Zx134⟩ := sl_ix (h_s122.sl) R1
 refine yac 136 2 Hx134 z (yat ((cs_qI x134 w_x134)) Zx134 0 (S130.rf m2) z (yaa S130 (cs_qI z_qI zw_qI) 136 z fun b135 w138 S137 => ya 4 1 z (yad S137 0 (cs_qI x134 w_x134) fun w140 S139 => yb (have S141 := S139.drew; ybc nL9 6 (yw (S141.rd m0) (yw (S141.rd m1) (yae S141.im))) ?_))))
 generalize World.drew _ = w142 at *
 refine yh 0 1 [5] z (yj (rd_c m1 (S141.rd m1)) z (yh 2 2 [1] z (yj (rd_c m0 (S141.rd m0)) z (bsk R1 fun r148 Xr143 R1 => yaj (slices_Clone_string_ok h_x134.Cols S141 Xr143) ?_))))
 rintro _ w144 ⟨I145, a_r148, c_r148, C_r148, rfl, L146, S147, h_r148⟩
 refine ⟨_, rfl, (yw (S147.rd m1) (yw (S147.rd m2) (yae (S147.im.of_le L146)))), ?_⟩
 refine WO.tail z ?_
 obtain ⟨x149, R1, h0_x149, h1_x149, Xx149, ha_x149, _, _, ⟨w_x149, rfl, h_x149⟩, Zx149⟩ := sl_at ((h_s122.mono L146).sl) R1
 refine ya5 136 2 ha_x149 h0_x149 h1_x149 ?_
 refine yh 7 1 [1] z ?_
 obtain ⟨I150, L151, S153, hp152⟩ := yah h_r148 S147
 have hk159 : ok_qI I150 ({ x149 with Cols := r148 }) (⟨⟨a_r148, c_r148⟩⟩ : W_qI) := ⟨hp152⟩
 refine yaw S153.front3 (OwnSl.mono h_s122 le) z kr z Xx149 (u' := { x149 with Cols := r148 }) 1 z z kr z z (fun cs hrel => (by obtain ⟨w_zz, rfl, h_zz⟩ := hrel; exact ⟨{ w_zz with Cols := ⟨a_r148, c_r148⟩ }, rfl, { h_zz with Cols := hp152 }⟩)) tv ?_
 intro w156 C157 S155 ho158
 refine yz 53 z (show Value.slice a_r115 s122.length c_r115 = Value.slice a_r115 (s122.set ((i123 : Int)).toNat ({ x149 with Cols := r148 })).length c_r115 by simp only [List.length_set]) ?_
 refine yz 61 z (show Value.slice a_r115 s122.length c_r115 = Value.slice a_r115 (s122.set ((i123 : Int)).toNat ({ x149 with Cols := r148 })).length c_r115 by simp only [List.length_set]) ?_
 have S160 : St E w156 I150 ((C157) :: (bI b135 x134 w_x134) :: (Bx b1 (cs_qT ({ p0 with Cols := r14, Cons := s34, Idx := (s122.set ((i123 : Int)).toNat ({ x149 with Cols := r148 })) }) (⟨⟨a_r14, c_r14⟩, ⟨a_r27, c_r27⟩, ⟨a_r115, c_r115⟩⟩ : W_qT)) 52) :: (bT b5 z_qT zw_qT) :: (C_s34) :: Os) := by have hq := S155; simp only [cs_qT, List.length_set] at hq ⊢; exact hq
 exact yr (ym (yc (yai nL2 (yap i123 z (ya 1 1 z (yr (sj R1 ▸ yx ⟨I150, C157, rfl, le, S160.front1.drop.front3.front1.front3.front3, ho158⟩)))))))
 rintro _ w167 ⟨I120, C_s122, rfl, L121, S168, h_s122⟩
 refine ye [0] (ya 0 1 z (yb (yi (yay fun _ => yab (yp (yt (yu (yc (ye nL2 (y4 ((cs_qT ({ p0 with Cols := r14, Cons := s34, Idx := s122 }) (⟨⟨a_r14, c_r14⟩, ⟨a_r27, c_r27⟩, ⟨a_r115, c_r115⟩⟩ : W_qT))) (S168.rf m0) z ?_))))))))))
 obtain ⟨I170, L171, S173, hp172⟩ := yah (h_s34.mono (L113.trans L121)) S168.front3
 obtain ⟨I175, L176, S178, hp177⟩ := yah (h_s122.mono L171) S173.front2
 refine yad S178.front1 0 (cs_qT ({ p0 with Cols := r14, Cons := s34, Idx := s122 }) (⟨⟨a_r14, c_r14⟩, ⟨a_r27, c_r27⟩, ⟨a_r115, c_r115⟩⟩ : W_qT)) fun w181 S180 => yb (yq ?_)
 have hk184 : ok_qT I175 ({ p0 with Cols := r14, Cons := s34, Idx := s122 }) (⟨⟨a_r14, c_r14⟩, ⟨a_r27, c_r27⟩, ⟨a_r115, c_r115⟩⟩ : W_qT) := ⟨(RSl.mono hp17 (((((L25.trans L33).trans L113).trans L121).trans L171).trans L176)), (RSl.mono hp172 L176), hp177⟩
 exact sj D ▸ En.c1 _ (S180.rd m0) ⟨I175, (⟨⟨a_r14, c_r14⟩, ⟨a_r27, c_r27⟩, ⟨a_r115, c_r115⟩⟩ : W_qT), rfl, le, S180.d2, hk184⟩
def catalog_Find_1 (p0 : qT) (q1 : By8) : Option Bool := some (sEq p0.Name q1)
theorem catalog_Find_1_ok {p0 : qT} {q1 : By8} {w_p0 : W_qT} {kb1 : Nat} (h_p0 : ok_qT I p0 w_p0) (hm1 : (Bx kb1 [(.string q1)] 9) ∈ Os) (hS : St E w I Os) {r : Bool} (D : catalog_Find_1 p0 q1 = some r) :
    Calls P 54 #[(vT p0 w_p0), (Pt kb1 0)] w (RT E I Os (.bool r)) := by
 refine calls_W (fn := Tryz.f54) rfl rfl rfl ?_
 unfold catalog_Find_1 at D
 exact ye nL2 (yaa hS (cs_qT p0 w_p0) 52 z fun b1 w4 S3 => ya 1 1 z (y8 nL5 (yh 0 1 [0] z (yj (S3.rf m0) z (yj (rd_f (S3.rd (List.Mem.tail _ hm1))) z (ya 3 2 z (yb (yq (sj D ▸ yy ⟨I, rfl, lr, S3.drop⟩)))))))))
noncomputable def catalog_Find (p0 : qC) (p1 : By8) : Option (qT × Bool) := (slices_IndexFunc_qT p0.Tables (fun (u0 : qT) => catalog_Find_1 u0 p1)).bind (fun r18 => (bif (decide (r18 ≥ 0)) then (idx p0.Tables r18).bind (fun x19 => (table_Clone x19).bind (fun r25 => some (r25, true))) else some (z_qT, false)))
theorem catalog_Find_ok {p0 : qC} {p1 : By8} {w_p0 : W_qC} (h_p0 : ok_qC I p0 w_p0) (hS : St E w I Os) {r : qT × Bool} (D : catalog_Find p0 p1 = some r) :
    Calls P 20 #[(vC p0 w_p0), (.string p1)] w (fun e w' => ∃ I' w_rw0, e = .returned (.tuple #[(vT r.1 w_rw0), (.bool r.2)]) ∧ I.Le I' ∧ St E w' I' Os ∧ ok_qT I' r.1 w_rw0) := by
 refine calls_W (fn := Tryz.f20) rfl rfl rfl ?_
 unfold catalog_Find at D
 refine ye nL4 (yaa hS (cs_qC p0 w_p0) 44 z fun b1 w4 S3 => yaa S3 [(.string p1)] 9 z fun b5 w8 S7 => yaa S7 (cs_qT z_qT zw_qT) 52 z fun b9 w12 S11 => ya 3 1 z (yb (yi (ye nL5 (yh 0 1 [1] z (yj (S11.rf m2) z (yaf 2 9 (.func (.func 54) #[] #[(Pt b5 0)]) (bsk D fun r18 Xr13 D => WO.c1 (slices_IndexFunc_qT_ok h_p0.Tables (fun {F Ic wc} {_} {_} hlc hSc h_u0 {rc} hrc => catalog_Find_1_ok h_u0 (List.mem_append_right _ m1) hSc hrc) (fun _ _ => by kernel_rfl) S11 Xr13) z fun I15 w14 L16 S17 => ya 4 1 z (y8 nL2 (ya 0 2 z (yb (y3 D (fun G D => ?_) (fun G D => ?_)))))))))))))
 refine ye nL8 (yh 0 1 [1] z (yj (S17.rf m2) z (ya 2 1 z ?_)))
 obtain ⟨x19, D, Hx19, _, ⟨w_x19, rfl, h_x19⟩, Zx19⟩ := sx I15 h_p0.Tables D
 refine yac 52 6 Hx19 z (yat ((cs_qT x19 w_x19)) Zx19 0 S17.rm z (bsk D fun r25 Xr20 D => yaj (table_Clone_ok h_x19 S17 Xr20) ?_))
 rintro _ w21 ⟨I22, w_r25, rfl, L23, S24, h_r25⟩
 exact cv (yad S24 0 (cs_qT r25 w_r25) fun w27 S26 => ya 7 1 z (yb (yq (yf (sj D ▸ yba _ (S26.rd m0) ⟨I22, w_r25, rfl, le, S26.d3, h_r25⟩)))))
 exact yl (yc (ye nL3 (yaf 0 19 (vT z_qT zw_qT) (yad S17 0 (cs_qT z_qT zw_qT) fun w32 S31 => ya 2 1 z (yb (yq (sj D ▸ yba _ (S31.rd m0) ⟨I15, zw_qT, rfl, L16, S31.d3, zok_qT⟩)))))))
theorem sorted118_119_ok {ν : Type} {val : Mem → Value → ν → Prop} {E w : World} {I C : Mem} {Os : List Mem} {m b : Nat} {l : List (By8 × ν)} (h : OwnMap Value.string val I C m l) (hS : St E w I (Gv.one b (.cells #[.map (some m)] 164 (0, 0)) :: C :: Os)) {r : List By8} (D : keysO l = some r) :
    Calls P 118 #[.func (.func 139) #[] #[.pointer (some ⟨b, 0, none⟩)]] w (fun e w' => ∃ (I' : Mem) (a : Option Addr) (c : Nat), e = .returned (.slice a r.length c) ∧ I.Le I' ∧ St E w' I' (Gv.one b (.cells #[.map (some m)] 164 (0, 0)) :: C :: Os) ∧ RSl 1 RStr I' a c r) :=
  keys_own h hS (kt := 9) kr (fun b' nn D0 R w h1 h2 h3 h4 h5 => Tryz.sortedAt118_119 b b' nn D0 R w h1 h2 h3 h4 h5) D
theorem keys119_ok {m : Nat} (hS : St E w I Os) : Calls P 119 #[.map (some m)] w (fun e w' => ∃ b, e = .returned (.func (.func 139) #[] #[.pointer (some ⟨b, 0, none⟩)]) ∧ St E w' I (Gv.one b (.cells #[.map (some m)] 164 (0, 0)) :: Os)) := by
  refine (Tryz.maps_Keys_119 (some m) w).mono ?_
  rintro e w' ⟨rfl, rfl⟩
  exact ⟨_, rfl, hS.alloc _⟩
noncomputable def member_AllM (p0 : List qJ) (p1 : By8) : M (List By8) := bindM (optM (member_at p0 p1)) (fun (r6 : Int) => (bif (decide (r6 < 0)) then retM ([] : List By8) else bindM (loopM (fun (s : Bool × (List (By8 × Bool))) => match s with | (s18, s19) => (bif s18 then bindM (rangeM (fun (k71 : By8) (x72 : Bool) (s33 : List By8) => (member_Find p0 k71).bind (fun ((r91, r92) : qJ × Bool) => (forE (fun (i103 : Nat) (s102 : List By8) => (idx r91.In (i103 : Int)).bind (fun (x114 : By8) => (some ((mget sEq s19 x114).getD false)).bind (fun (x115 : Bool) => ((bif (!x115) then (member_at p0 x114).bind (fun (r125 : Int) => some (decide (r125 ≥ 0))) else some false)).bind (fun (j116 : Bool) => ((bif j116 then (app 16 s102 ([x114] : List By8)).bind (fun (x140 : List By8) => some x140) else some s102)).bind (fun (j128 : List By8) => some j128))))) r91.In.length 0 s33).bind (fun (s102 : (List By8)) => some (.inl s102)))) s19 ([] : List By8)) (fun (t : (List By8) ⊕ Unit) => Sum.elim (fun (s33 : List By8) => bindM (optM (forE (fun (i53 : Nat) (s52 : List (By8 × Bool)) => (idx s33 (i53 : Int)).bind (fun (x61 : By8) => some (mset sEq s52 x61 true))) s33.length 0 s19)) (fun (s52 : List (By8 × Bool)) => retM (.inl ((decide ((s33.length : Int) > 0)), s52)))) (fun _ _ => False) t) else retM (.inr s19))) (true, (mset sEq ([] : List (By8 × Bool)) p1 true))) (fun (s156 : List (By8 × Bool)) => bindM (optM (keysO s156)) (fun (r163 : List By8) => retM r163))))
noncomputable def member_All (p0 : List qJ) (p1 : By8) : Option (List By8) := ofM (member_AllM p0 p1)
theorem member_All_ok {p0 : List qJ} {p1 : By8} {a_p0 : Option Addr} {c_p0 : Nat} (h_p0 : RSl 2 R_qJ I a_p0 c_p0 p0) (hS : St E w I Os) {r : (List By8)} (D : member_All p0 p1 = some r) :
    Calls P 88 #[(.slice a_p0 p0.length c_p0), (.string p1)] w (fun e w' => ∃ (I' : Mem) (ra0 : Option Addr) (rc0 : Nat), e = .returned (.slice ra0 r.length rc0) ∧ I.Le I' ∧ St E w' I' Os ∧ RSl 1 RStr I' ra0 rc0 r) := by
  refine calls_W (args := [(.slice a_p0 p0.length c_p0), (.string p1)]) (fn := Tryz.f88) rfl rfl rfl ?_
  replace D := ofM_some (m := member_AllM p0 p1) D
  unfold member_AllM at D
  refine yi ?_
  refine yav (l := [0]) kr ?_
  refine yas [(0, 4, (.slice none 0 0))] kr (fun _ => by kernel_rfl) ?_
  refine yr ?_
  refine yc ?_
  refine yi ?_
  refine yi ?_
  refine yav (l := [0, 1, 2, 3]) kr ?_
  refine yas [(0, 15, (.slice a_p0 p0.length c_p0)), (1, 16, (.string p1))] kr (fun _ => by kernel_rfl) ?_
  obtain ⟨r6, Xr1, D⟩ := optM_some D
  refine ybo z kr z (f := 50) (args := #[(.slice a_p0 p0.length c_p0), (.string p1)]) kr (member_at_ok h_p0 hS Xr1) ?_
  rintro _ w2 ⟨I3, rfl, L4, S5⟩
  refine ⟨_, rfl, trivial, ?_⟩
  refine yas [(3, 18, (.bool (decide (r6 < 0))))] kr (fun _ => by kernel_rfl) ?_
  refine yr ?_
  refine yc ?_
  refine W.cond (b := (decide (r6 < 0))) z z (fun G => ?_) (fun G => ?_)
  · replace D := condM_t G D
    refine yi ?_
    refine yav (l := [0]) kr ?_
    refine yas [(0, 4, (.slice none 0 0))] kr (fun _ => by kernel_rfl) ?_
    refine yr ?_
    refine yc ?_
    refine yq ?_
    refine yf ?_
    have he : ([] : List By8) = r := D
    subst r
    exact En.ret1 z (.slice none 0 0) z ⟨I3, none, 0, rfl, L4, S5, SlAt.nil⟩
  · replace D := condM_f G D
    refine yl ?_
    refine yc ?_
    refine yi ?_
    refine yav (l := [0, 1, 2, 3, 4]) kr ?_
    refine ybt S5 z kr z (.map #[] 0) (fun b => .map (some b)) kr tv ?_
    intro b7 w10 S9
    refine yas [(1, 20, (.string p1))] kr (fun _ => by kernel_rfl) ?_
    refine WO.update (OwnMap.nil (enc := Value.string) (val := (val1 RBool)) (I := I3) (m := b7)) S9 (t := 164) (kt := 9) (et := 4) kr (keyLaw_str (kt := 9) kr) z kr z (.inr z) z p1 z z (xv := true) z tv ?_
    intro w13 C11 S12 hm14
    refine yas [(3, 21, (.map (some b7))), (4, 5, (.map (some b7)))] kr (fun _ => by kernel_rfl) ?_
    refine yr ?_
    refine yc ?_
    refine yi ?_
    refine yi ?_
    refine yav (l := [0]) kr ?_
    refine yas [(0, 6, (.bool true))] kr (fun _ => by kernel_rfl) ?_
    refine yr ?_
    refine yc ?_
    refine yo ?_
    have hloop20 : Gv.loopM _ _ _ := D
    refine W.weaken (fr' := [(0, (.slice a_p0 p0.length c_p0)), (5, (.map (some b7))), (6, (.bool true))]) (W.loopM hloop20 (fun (s : Bool × (List (By8 × Bool))) fr w => match s with | (s18, s19) => ∃ (I16 : Mem), ∃ (C_s19 : Mem), fr = [(0, (.slice a_p0 p0.length c_p0)), (5, (.map (some b7))), (6, (.bool s18))] ∧ I3.Le I16 ∧ St E w I16 ((C_s19) :: Os) ∧ OwnMap Value.string (val1 RBool) I16 C_s19 b7 s19) ⟨I3, C11, rfl, Mem.Le.refl _, S12, hm14⟩ ?_) (Sub.cons z (Sub.cons z (Sub.cons z Sub.nil)))
    rintro ⟨s18, s19⟩ _ w21 ⟨I16, C_s19, rfl, L17, S22, h_s19⟩ Kx23 R1
    refine yi ?_
    refine yi ?_
    refine yav (l := [0]) kr ?_
    refine yas [(0, 22, (.bool s18))] kr (fun _ => by kernel_rfl) ?_
    refine yr ?_
    refine yc ?_
    refine W.cond (b := s18) z z (fun G => ?_) (fun G => ?_)
    · replace R1 := condM_t G R1
      refine yl ?_
      refine yc ?_
      refine yo ?_
      refine yi ?_
      refine yav (l := [0]) kr ?_
      refine yas [(0, 7, (.slice none 0 0))] kr (fun _ => by kernel_rfl) ?_
      refine yr ?_
      refine yc ?_
      refine yi ?_
      refine yi ?_
      refine yav (l := [0, 1]) kr ?_
      refine yas [(0, 23, (.map (some b7)))] kr (fun _ => by kernel_rfl) ?_
      refine WO.rangeMap h_s19 S22 (t := 164) (kt := 9) (et := 4) kr z kr z z tv ?_
      intro b24 w25 D26 S27 hit28
      refine yr ?_
      refine yc ?_
      refine yo ?_
      have hloop38 : Gv.rangeM _ _ _ _ := R1
      have S40 := S27.no
      have S41 := S40.front1
      have S42 := S41.front2
      refine W.weaken (fr' := [(0, (.slice a_p0 p0.length c_p0)), (5, (.map (some b7))), (7, (.slice none ([] : List By8).length 0)), (24, (.pointer (some ⟨b24, 0, none⟩)))]) (W.rangeM hloop38 (fun (rm34 : List (By8 × Bool)) (s33 : List By8) fr w => ∃ (I31 : Mem), ∃ (a_s33 : Option Addr), ∃ (c_s33 : Nat), ∃ (C_s33 : Mem), ∃ (D35 : Mem), ∃ (lst37 : Option (Value × Value)), fr = [(0, (.slice a_p0 p0.length c_p0)), (5, (.map (some b7))), (7, (.slice a_s33 s33.length c_s33)), (24, (.pointer (some ⟨b24, 0, none⟩)))] ∧ I16.Le I31 ∧ St E w I31 ((C_s19) :: (D35) :: (C_s33) :: Os) ∧ OwnSl 9 1 RStr I31 C_s33 a_s33 c_s33 s33 ∧ IterSt Value.string (val1 RBool) I31 C_s19 b7 s19 D35 b24 rm34 lst37) ⟨I16, none, 0, Mem.no, D26, _, rfl, Mem.Le.refl _, S42, OwnSl.nil, hit28⟩ ?_) (Sub.cons z (Sub.cons z (Sub.cons z (Sub.cons z Sub.nil))))
      rintro rm34 s33 _ w43 ⟨I31, a_s33, c_s33, C_s33, D35, lst37, rfl, L32, S44, h_s33, hit36⟩ hst45 hend46
      refine yi ?_
      refine yav (l := [0, 1]) kr ?_
      have S47 := S44.front1
      refine WO.next hit36 S47 z kr z z tv (fun he48 => ?_) ?_
      · skip
        replace R1 := hend46 he48
        refine yas [(1, 26, (.bool false))] kr (fun _ => by kernel_rfl) ?_
        refine yr ?_
        refine yc ?_
        refine yi ?_
        refine W.cond (b := false) z z (fun G => ?_) (fun G => ?_)
        · cases G
        clear G
        refine yab ?_
        refine yp ?_
        refine yt ?_
        refine yu ?_
        refine yc ?_
        refine yi ?_
        refine yav (l := [0, 1, 2, 3]) kr ?_
        refine yas [(0, 57, (.slice a_s33 s33.length c_s33)), (1, 58, (.int .i64 (s33.length : Int))), (2, 59, (.bool (decide ((s33.length : Int) > 0)))), (3, 6, (.bool (decide ((s33.length : Int) > 0))))] kr (fun _ => by kernel_rfl) ?_
        refine yr ?_
        refine yc ?_
        refine yi ?_
        refine yav (l := [0, 1, 2]) kr ?_
        refine yas [(0, 60, (.slice a_s33 s33.length c_s33)), (1, 61, (.int .i64 (s33.length : Int))), (2, 62, (.int .i64 0))] kr (fun _ => by kernel_rfl) ?_
        refine yr ?_
        refine yc ?_
        refine yo ?_
        obtain ⟨s52, hloop54, R1⟩ := optM_some R1
        have S55 := S47.drop
        have hlt59 := (h_s33.sl).len_lt
        refine W.weaken (fr' := [(0, (.slice a_p0 p0.length c_p0)), (5, (.map (some b7))), (6, (.bool (decide ((s33.length : Int) > 0)))), (60, (.slice a_s33 s33.length c_s33)), (61, (.int .i64 (s33.length : Int))), (62, (.int .i64 ((0 : Nat) : Int)))]) (ya1 (m := s33.length) hloop54 (fun (i53 : Nat) (s52 : List (By8 × Bool)) fr w => ∃ (I50 : Mem), ∃ (C_s52 : Mem), fr = [(0, (.slice a_p0 p0.length c_p0)), (5, (.map (some b7))), (6, (.bool (decide ((s33.length : Int) > 0)))), (60, (.slice a_s33 s33.length c_s33)), (61, (.int .i64 (s33.length : Int))), (62, (.int .i64 (i53 : Int)))] ∧ I31.Le I50 ∧ St E w I50 ((C_s52) :: (C_s33) :: Os) ∧ OwnMap Value.string (val1 RBool) I50 C_s52 b7 s52) ⟨I31, C_s19, rfl, Mem.Le.refl _, S55, (OwnMap.mono h_s19 L32)⟩ ?roundt49 ?lastt49) (Sub.cons z (Sub.cons z (Sub.cons z (Sub.cons z (Sub.cons z (Sub.cons z Sub.nil))))))
        case roundt49 =>
          rintro i53 s52 _ w56 hi60 ⟨I50, C_s52, rfl, L51, S57, h_s52⟩ x58 R2
          refine yi ?_
          refine yav (l := [0]) kr ?_
          refine yas [(0, 63, (.bool (decide ((i53 : Int) < (s33.length : Int)))))] kr (fun _ => by kernel_rfl) ?_
          refine yr ?_
          refine yc ?_
          refine yi ?_
          refine W.cond (b := (decide ((i53 : Int) < (s33.length : Int)))) z z (fun G => ?_) (fun G => ?_)
          rotate_left
          · exact absurd G (by first | (simp; done) | (simp; omega))
          clear G
          refine yl ?_
          refine yc ?_
          refine yi ?_
          refine yo ?_
          refine yi ?_
          refine yav (l := [0, 1, 2]) kr ?_
          obtain ⟨x61, Xx61, R2⟩ := bind_some R2
          obtain ⟨h0_x61, h1_x61, Xx61⟩ := idx_some Xx61
          obtain ⟨ha_x61, cs_x61, hn_x61, hr_x61, Zx61⟩ := ((h_s33.mono L51).sl).el _ _ Xx61
          obtain rfl := hr_x61
          refine ybk (e := 9) (sz := 1) z kr kr kr z ha_x61 z h0_x61 h1_x61 ?_
          refine ybp z kr kr z (v := (.string x61)) (fun w' hw' => Zx61.cell0 kr ((rd_f (S57.rd (List.Mem.tail _ (List.Mem.head _)))) w' hw')) ?_
          refine yas [(2, 14, (.string x61))] kr (fun _ => by kernel_rfl) ?_
          refine yr ?_
          refine yc ?_
          refine yav (l := [0, 1, 2]) kr ?_
          refine yas [(0, 66, (.map (some b7))), (1, 67, (.string x61))] kr (fun _ => by kernel_rfl) ?_
          refine WO.update h_s52 S57 (t := 164) (kt := 9) (et := 4) kr (keyLaw_str (kt := 9) kr) z kr z (.inl z) z x61 z z (xv := true) z tv ?_
          intro w65 C62 S63 hm66
          refine yr ?_
          refine ym ?_
          refine yc ?_
          refine yav (l := [0, 1]) kr ?_
          refine WO.incr (j := i53) z kr z (by first | omega | (dsimp only at *; omega)) ?_
          refine yas [(1, 62, (.int .i64 ((i53 + 1 : Nat) : Int)))] kr (fun _ => by kernel_rfl) ?_
          refine yr ?_
          have he := Option.some.inj R2
          subst x58
          refine En.weaken (fr' := [(0, (.slice a_p0 p0.length c_p0)), (5, (.map (some b7))), (6, (.bool (decide ((s33.length : Int) > 0)))), (60, (.slice a_s33 s33.length c_s33)), (61, (.int .i64 (s33.length : Int))), (62, (.int .i64 ((i53 + 1 : Nat) : Int)))]) (ybl ⟨I50, C62, rfl, L51, S63, hm66⟩) (Sub.cons z (Sub.cons z (Sub.cons z (Sub.cons z (Sub.cons z (Sub.cons z Sub.nil))))))
        case lastt49 =>
          rintro _ w67 ⟨I50, C_s52, rfl, L51, S68, h_s52⟩
          refine yi ?_
          refine yav (l := [0]) kr ?_
          refine yas [(0, 63, (.bool (decide ((s33.length : Int) < (s33.length : Int)))))] kr (fun _ => by kernel_rfl) ?_
          refine yr ?_
          refine yc ?_
          refine yi ?_
          refine W.cond (b := (decide ((s33.length : Int) < (s33.length : Int)))) z z (fun G => ?_) (fun G => ?_)
          · exact absurd G (by first | (simp; done) | (simp; omega))
          clear G
          refine yab ?_
          refine yp ?_
          refine yt ?_
          refine yu ?_
          refine ym ?_
          have S69 := S68.front1
          have S70 := S69.drop
          refine En.weaken (fr' := [(0, (.slice a_p0 p0.length c_p0)), (5, (.map (some b7))), (6, (.bool (decide ((s33.length : Int) > 0))))]) (ybl ⟨((decide ((s33.length : Int) > 0)), s52), R1, I50, C_s52, rfl, ((L17.trans L32).trans L51), S70, h_s52⟩) (Sub.cons z (Sub.cons z (Sub.cons z Sub.nil)))
      · skip
        intro k71 x72 rm73 v74 w75 D76 hp77 hv78 S79 hit80
        obtain ⟨y81, hy82, hex83⟩ := hst45 k71 x72 rm73 hp77
        have R2 := hy82
        obtain rfl := (List.cons.inj hv78).1
        refine yas [(1, 26, (.bool true))] kr (fun _ => by kernel_rfl) ?_
        refine yr ?_
        refine yc ?_
        refine yi ?_
        refine W.cond (b := true) z z (fun G => ?_) (fun G => ?_)
        rotate_left
        · cases G
        clear G
        refine yl ?_
        refine yc ?_
        refine yo ?_
        refine yi ?_
        refine yav (l := [0, 1, 2]) kr ?_
        have S84 := S79.front1
        have S85 := S84.front1
        refine WO.entry hit80 S85 z kr z z trivial ?_
        refine yas [(1, 28, (.string k71)), (2, 8, (.string k71))] kr (fun _ => by kernel_rfl) ?_
        refine yr ?_
        refine yc ?_
        refine yi ?_
        refine yav (l := [0, 1, 2, 3, 4, 5, 6, 7, 8]) kr ?_
        refine yas [(0, 30, (.slice a_p0 p0.length c_p0)), (1, 31, (.string k71))] kr (fun _ => by kernel_rfl) ?_
        obtain ⟨⟨r91, r92⟩, Xr86, R2⟩ := bind_some R2
        refine ybo z kr z (f := 18) (args := #[(.slice a_p0 p0.length c_p0), (.string k71)]) kr (member_Find_ok (RSl.mono h_p0 ((L4.trans L17).trans L32)) S85 Xr86) ?_
        rintro _ w87 ⟨I88, w_r91, rfl, L89, S90, h_r91⟩
        refine ⟨_, rfl, trivial, ?_⟩
        refine yas [(3, 29, (.tuple #[(vJ r91 w_r91), (.bool r92)])), (4, 33, (vJ r91 w_r91)), (5, 34, (.bool r92))] kr (fun _ => by kernel_rfl) ?_
        refine ybt S90 z kr z (.cells (cs_qJ z_qJ zw_qJ).toArray 73 (0, 0)) (fun b => .pointer (some ⟨b, 0, none⟩)) kr tv ?_
        intro b93 w96 S95
        refine ybu S95 z kr z 0 z z kr kr kr ((cs_qJ r91 w_r91).toArray) kr tv ?_
        intro w98 S97
        refine yas [(8, 10, (.bool r92))] kr (fun _ => by kernel_rfl) ?_
        refine yr ?_
        refine yc ?_
        refine yi ?_
        refine yav (l := [0, 1, 2, 3]) kr ?_
        refine yas [(0, 35, (.pointer (some ⟨b93, 1, none⟩)))] kr (fun _ => by kernel_rfl) ?_
        refine ybp z kr kr z (v := (.slice w_r91.In.a r91.In.length w_r91.In.c)) (fun w' hw' => cell_one ((rd_f (S97.rd (List.Mem.head _))) w' hw') kr) ?_
        refine yas [(2, 37, (.int .i64 (r91.In.length : Int))), (3, 38, (.int .i64 0))] kr (fun _ => by kernel_rfl) ?_
        refine yr ?_
        refine yc ?_
        refine yo ?_
        obtain ⟨s102, hloop104, R2⟩ := bind_some R2
        have S105 := S97.drop
        have S106 := S105.front2
        have S107 := S106.front1
        have S108 := S107.front2
        have hlt112 := (h_r91.In).len_lt
        refine W.weaken (fr' := [(0, (.slice a_p0 p0.length c_p0)), (5, (.map (some b7))), (7, (.slice a_s33 s33.length c_s33)), (24, (.pointer (some ⟨b24, 0, none⟩))), (36, (.slice w_r91.In.a r91.In.length w_r91.In.c)), (37, (.int .i64 (r91.In.length : Int))), (38, (.int .i64 ((0 : Nat) : Int)))]) (ya1 (m := r91.In.length) hloop104 (fun (i103 : Nat) (s102 : List By8) fr w => ∃ (I100 : Mem), ∃ (a_s102 : Option Addr), ∃ (c_s102 : Nat), ∃ (C_s102 : Mem), fr = [(0, (.slice a_p0 p0.length c_p0)), (5, (.map (some b7))), (7, (.slice a_s102 s102.length c_s102)), (24, (.pointer (some ⟨b24, 0, none⟩))), (36, (.slice w_r91.In.a r91.In.length w_r91.In.c)), (37, (.int .i64 (r91.In.length : Int))), (38, (.int .i64 (i103 : Int)))] ∧ I88.Le I100 ∧ St E w I100 ((C_s19) :: (D76) :: (C_s102) :: Os) ∧ OwnSl 9 1 RStr I100 C_s102 a_s102 c_s102 s102) ⟨I88, a_s33, c_s33, C_s33, rfl, Mem.Le.refl _, S108, (OwnSl.mono h_s33 L89)⟩ ?roundt99 ?lastt99) (Sub.cons z (Sub.cons z (Sub.cons z (Sub.cons z (Sub.cons z (Sub.cons z (Sub.cons z Sub.nil)))))))
        case roundt99 =>
          rintro i103 s102 _ w109 hi113 ⟨I100, a_s102, c_s102, C_s102, rfl, L101, S110, h_s102⟩ x111 R3
          refine yi ?_
          refine yav (l := [0]) kr ?_
          refine yas [(0, 39, (.bool (decide ((i103 : Int) < (r91.In.length : Int)))))] kr (fun _ => by kernel_rfl) ?_
          refine yr ?_
          refine yc ?_
          refine yi ?_
          refine W.cond (b := (decide ((i103 : Int) < (r91.In.length : Int)))) z z (fun G => ?_) (fun G => ?_)
          rotate_left
          · exact absurd G (by first | (simp; done) | (simp; omega))
          clear G
          refine yl ?_
          refine yc ?_
          refine yi ?_
          refine yo ?_
          refine yi ?_
          refine yav (l := [0, 1, 2]) kr ?_
          obtain ⟨x114, Xx114, R3⟩ := bind_some R3
          obtain ⟨h0_x114, h1_x114, Xx114⟩ := idx_some Xx114
          obtain ⟨ha_x114, cs_x114, hn_x114, hr_x114, Zx114⟩ := ((RSl.mono h_r91.In L101)).el _ _ Xx114
          obtain rfl := hr_x114
          refine ybk (e := 9) (sz := 1) z kr kr kr z ha_x114 z h0_x114 h1_x114 ?_
          refine ybp z kr kr z (v := (.string x114)) (fun w' hw' => Zx114.cell0 kr ((rd_f S110.im) w' hw')) ?_
          refine yas [(2, 12, (.string x114))] kr (fun _ => by kernel_rfl) ?_
          refine yr ?_
          refine yc ?_
          refine yi ?_
          refine yav (l := [0, 1, 2, 3, 4, 5, 6, 7, 8, 9]) kr ?_
          refine yas [(0, 42, (.map (some b7))), (1, 43, (.string x114))] kr (fun _ => by kernel_rfl) ?_
          obtain ⟨x115, Xx115, R3⟩ := bind_some R3
          obtain ⟨v_x115, hv_x115, hq_x115⟩ := OwnMap.lookup (OwnMap.mono h_s19 ((L32.trans L89).trans L101)) (t := 164) (kt := 9) (et := 4) kr (keyLaw_str (kt := 9) kr) x114 (zv := (.bool false)) (z0 := false) kr rfl
          rw [Option.some.inj Xx115] at hv_x115
          obtain rfl := (List.cons.inj hv_x115).1
          refine WO.lookup z kr z z hq_x115 ((rd_f (S110.rd (List.Mem.head _)))) (.bool x115) z ?_
          refine yas [(3, 45, (.bool (!x115))), (4, 46, (.bool (!x115)))] kr (fun _ => by kernel_rfl) ?_
          obtain ⟨j116, R4, R3⟩ := bind_some R3
          refine WO.join (l1 := [5, 6, 7, 8, 9]) (l2 := []) (J := (fun fr w => ∃ (I118 : Mem), fr = [(0, (.slice a_p0 p0.length c_p0)), (5, (.map (some b7))), (7, (.slice a_s102 s102.length c_s102)), (12, (.string x114)), (24, (.pointer (some ⟨b24, 0, none⟩))), (36, (.slice w_r91.In.a r91.In.length w_r91.In.c)), (37, (.int .i64 (r91.In.length : Int))), (38, (.int .i64 (i103 : Int))), (51, (.bool j116))] ∧ I100.Le I118 ∧ St E w I118 ((C_s19) :: (D76) :: (C_s102) :: Os))) ?restj116 ?waysj116
          case waysj116 =>
            refine WO.caseb (!x115) (fun G => ?_) (fun G => ?_)
            · replace R4 := cond_t G R4
              refine yz 46 z (show Value.bool (!x115) = Value.bool true by rw [G]) ?_
              refine yas [(5, 47, (.slice a_p0 p0.length c_p0)), (6, 48, (.string x114))] kr (fun _ => by kernel_rfl) ?_
              obtain ⟨r125, Xr120, R4⟩ := bind_some R4
              refine ybo z kr z (f := 50) (args := #[(.slice a_p0 p0.length c_p0), (.string x114)]) kr (member_at_ok (RSl.mono h_p0 ((((L4.trans L17).trans L32).trans L89).trans L101)) S110 Xr120) ?_
              rintro _ w121 ⟨I122, rfl, L123, S124⟩
              refine ⟨_, rfl, trivial, ?_⟩
              refine yas [(8, 50, (.bool (decide (r125 ≥ 0)))), (9, 51, (.bool (decide (r125 ≥ 0))))] kr (fun _ => by kernel_rfl) ?_
              have he := Option.some.inj R4
              subst j116
              refine WO.weaken (fr' := [(0, (.slice a_p0 p0.length c_p0)), (5, (.map (some b7))), (7, (.slice a_s102 s102.length c_s102)), (12, (.string x114)), (24, (.pointer (some ⟨b24, 0, none⟩))), (36, (.slice w_r91.In.a r91.In.length w_r91.In.c)), (37, (.int .i64 (r91.In.length : Int))), (38, (.int .i64 (i103 : Int))), (51, (.bool (decide (r125 ≥ 0))))]) (WO.meet ⟨I122, rfl, L123, S124⟩) (Sub.cons z (Sub.cons z (Sub.cons z (Sub.cons z (Sub.cons z (Sub.cons z (Sub.cons z (Sub.cons z (Sub.cons z Sub.nil)))))))))
            · replace R4 := cond_f G R4
              refine yz 46 z (show Value.bool (!x115) = Value.bool false by rw [G]) ?_
              refine ybx z kr z ?_
              refine ybx z kr z ?_
              refine ybx z kr z ?_
              refine ybx z kr z ?_
              refine yas [(9, 51, (.bool false))] kr (fun _ => by kernel_rfl) ?_
              have he := Option.some.inj R4
              subst j116
              refine WO.weaken (fr' := [(0, (.slice a_p0 p0.length c_p0)), (5, (.map (some b7))), (7, (.slice a_s102 s102.length c_s102)), (12, (.string x114)), (24, (.pointer (some ⟨b24, 0, none⟩))), (36, (.slice w_r91.In.a r91.In.length w_r91.In.c)), (37, (.int .i64 (r91.In.length : Int))), (38, (.int .i64 (i103 : Int))), (51, (.bool false))]) (WO.meet ⟨I100, rfl, Mem.Le.refl _, S110⟩) (Sub.cons z (Sub.cons z (Sub.cons z (Sub.cons z (Sub.cons z (Sub.cons z (Sub.cons z (Sub.cons z (Sub.cons z Sub.nil)))))))))
          case restj116 =>
            rintro _ w126 ⟨I118, rfl, L119, S127⟩
            refine yr ?_
            refine yc ?_
            obtain ⟨j128, R4, R3⟩ := bind_some R3
            refine W.join (J := (fun fr w => ∃ (I130 : Mem), ∃ (a_j128 : Option Addr), ∃ (c_j128 : Nat), ∃ (C_j128 : Mem), fr = [(0, (.slice a_p0 p0.length c_p0)), (5, (.map (some b7))), (7, (.slice a_j128 j128.length c_j128)), (24, (.pointer (some ⟨b24, 0, none⟩))), (36, (.slice w_r91.In.a r91.In.length w_r91.In.c)), (37, (.int .i64 (r91.In.length : Int))), (38, (.int .i64 (i103 : Int)))] ∧ I118.Le I130 ∧ St E w I130 ((C_s19) :: (D76) :: (C_j128) :: Os) ∧ OwnSl 9 1 RStr I130 C_j128 a_j128 c_j128 j128)) ?restj128 ?waysj128
            case waysj128 =>
              refine W.cond (b := j116) z z (fun G => ?_) (fun G => ?_)
              · replace R4 := cond_t G R4
                refine yav (l := [0, 1, 2, 3, 4]) kr ?_
                refine yas [(0, 52, (.slice a_s102 s102.length c_s102)), (1, 53, (.string x114))] kr (fun _ => by kernel_rfl) ?_
                refine yag (rel := RStr) (xs := ([x114] : List By8)) S127 z kr z 9 1 [[(.string x114)]] kr z ((Elr.cons z Elr.nil)) tv ?_
                intro a135 C133 w137 S136 ho134
                have S139 := S136.front3
                obtain ⟨x140, Xx140, R4⟩ := bind_some R4
                obtain ⟨h0_x140, he_x140⟩ := app_some Xx140
                refine ybd (e' := 9) (b := 16) (zs := #[(.string eB)]) S139 (OwnSl.mono h_s102 L119) z kr z kr kr kr z z z z ho134.sl (S139.rd (List.Mem.tail _ (List.Mem.head _))) h0_x140 he_x140 tv ?_
                intro a141 c142 w143 C144 S145 ho146
                have S147 := S145.front1
                have S148 := S147.drop
                refine yas [(4, 7, (.slice a141 x140.length c142))] kr (fun _ => by kernel_rfl) ?_
                refine yr ?_
                have S149 := S148.front2
                have S150 := S149.front2
                have he := Option.some.inj R4
                subst j128
                refine En.weaken (fr' := [(0, (.slice a_p0 p0.length c_p0)), (5, (.map (some b7))), (7, (.slice a141 x140.length c142)), (24, (.pointer (some ⟨b24, 0, none⟩))), (36, (.slice w_r91.In.a r91.In.length w_r91.In.c)), (37, (.int .i64 (r91.In.length : Int))), (38, (.int .i64 (i103 : Int)))]) (ybl ⟨I118, a141, c142, C144, rfl, Mem.Le.refl _, S150, ho146⟩) (Sub.cons z (Sub.cons z (Sub.cons z (Sub.cons z (Sub.cons z (Sub.cons z (Sub.cons z Sub.nil)))))))
              · replace R4 := cond_f G R4
                refine yl ?_
                have he := Option.some.inj R4
                subst j128
                refine En.weaken (fr' := [(0, (.slice a_p0 p0.length c_p0)), (5, (.map (some b7))), (7, (.slice a_s102 s102.length c_s102)), (24, (.pointer (some ⟨b24, 0, none⟩))), (36, (.slice w_r91.In.a r91.In.length w_r91.In.c)), (37, (.int .i64 (r91.In.length : Int))), (38, (.int .i64 (i103 : Int)))]) (ybl ⟨I118, a_s102, c_s102, C_s102, rfl, Mem.Le.refl _, S127, (OwnSl.mono h_s102 L119)⟩) (Sub.cons z (Sub.cons z (Sub.cons z (Sub.cons z (Sub.cons z (Sub.cons z (Sub.cons z Sub.nil)))))))
            case restj128 =>
              rintro _ w151 ⟨I130, a_j128, c_j128, C_j128, rfl, L131, S152, h_j128⟩
              refine ym ?_
              refine yc ?_
              refine yav (l := [0, 1]) kr ?_
              refine WO.incr (j := i103) z kr z (by first | omega | (dsimp only at *; omega)) ?_
              refine yas [(1, 38, (.int .i64 ((i103 + 1 : Nat) : Int)))] kr (fun _ => by kernel_rfl) ?_
              refine yr ?_
              have he := Option.some.inj R3
              subst x111
              refine En.weaken (fr' := [(0, (.slice a_p0 p0.length c_p0)), (5, (.map (some b7))), (7, (.slice a_j128 j128.length c_j128)), (24, (.pointer (some ⟨b24, 0, none⟩))), (36, (.slice w_r91.In.a r91.In.length w_r91.In.c)), (37, (.int .i64 (r91.In.length : Int))), (38, (.int .i64 ((i103 + 1 : Nat) : Int)))]) (ybl ⟨I130, a_j128, c_j128, C_j128, rfl, ((L101.trans L119).trans L131), S152, h_j128⟩) (Sub.cons z (Sub.cons z (Sub.cons z (Sub.cons z (Sub.cons z (Sub.cons z (Sub.cons z Sub.nil)))))))
        case lastt99 =>
          rintro _ w153 ⟨I100, a_s102, c_s102, C_s102, rfl, L101, S154, h_s102⟩
          refine yi ?_
          refine yav (l := [0]) kr ?_
          refine yas [(0, 39, (.bool (decide ((r91.In.length : Int) < (r91.In.length : Int)))))] kr (fun _ => by kernel_rfl) ?_
          refine yr ?_
          refine yc ?_
          refine yi ?_
          refine W.cond (b := (decide ((r91.In.length : Int) < (r91.In.length : Int)))) z z (fun G => ?_) (fun G => ?_)
          · exact absurd G (by first | (simp; done) | (simp; omega))
          clear G
          refine yab ?_
          refine yp ?_
          refine yt ?_
          refine yu ?_
          refine ym ?_
          refine En.weaken (fr' := [(0, (.slice a_p0 p0.length c_p0)), (5, (.map (some b7))), (7, (.slice a_s102 s102.length c_s102)), (24, (.pointer (some ⟨b24, 0, none⟩)))]) (ybl ⟨k71, x72, rm73, s102, hp77, hy82.trans (congrArg some (Option.some.inj R2).symm), I100, a_s102, c_s102, C_s102, D76, _, rfl, ((L32.trans L89).trans L101), S154, h_s102, (IterSt.mono hit80 (L89.trans L101))⟩) (Sub.cons z (Sub.cons z (Sub.cons z (Sub.cons z Sub.nil))))
    · replace R1 := condM_f G R1
      refine yab ?_
      refine yp ?_
      refine yt ?_
      replace D := R1
      refine yu ?_
      refine yc ?_
      refine yi ?_
      refine yav (l := [0, 1, 2, 3]) kr ?_
      refine yas [(0, 69, (.map (some b7)))] kr (fun _ => by kernel_rfl) ?_
      refine ybo z kr z (f := 119) (args := #[(.map (some b7))]) kr (keys119_ok S22) ?_
      rintro _ w176 ⟨b174, rfl, S175⟩
      refine ⟨_, rfl, trivial, ?_⟩
      have S178 := S175.front1
      have S179 := S178.front1
      obtain ⟨r180, hx181, D⟩ := optM_some D
      refine ybo z kr z (f := 118) (args := #[(.func (.func 139) #[] #[(.pointer (some ⟨b174, 0, none⟩))])]) kr (sorted118_119_ok h_s19 S179 hx181) ?_
      rintro _ w188 ⟨I182, a183, c184, rfl, L185, S186, hp187⟩
      refine ⟨_, rfl, trivial, ?_⟩
      refine yas [(3, 4, (.slice a183 r180.length c184))] kr (fun _ => by kernel_rfl) ?_
      refine yr ?_
      refine yc ?_
      refine yq ?_
      have S189 := S186.drop
      have S190 := S189.drop
      have he : r180 = r := D
      subst r
      exact En.ret1 z (.slice a183 r180.length c184) z ⟨I182, a183, c184, rfl, ((L4.trans L17).trans L185), S190, hp187⟩
def slices_Index_string (p0 : List By8) (p1 : By8) : Option Int := (forN (fun (i4 : Nat) (_s : Unit) => (idx p0 (i4 : Int)).bind (fun x11 => (bif (sEq p1 x11) then some (.inr (i4 : Int)) else some (.inl ())))) p0.length 0 ()).bind (fun (t : Unit ⊕ (Int)) => match t with | .inl _ => some (-1) | .inr s13 => some s13)
theorem slices_Index_string_ok {p0 : List By8} {p1 : By8} {a_p0 : Option Addr} {c_p0 : Nat} (h_p0 : RSl 1 RStr I a_p0 c_p0 p0) (hS : St E w I Os) {r : Int} (D : slices_Index_string p0 p1 = some r) :
    Calls P 117 #[(Sl a_p0 p0 c_p0), (.string p1)] w (RT E I Os (Iv r)) := by
 refine calls_W (fn := Tryz.f117) rfl rfl rfl ?_
 unfold slices_Index_string at D
 refine ye [0] (ya 0 1 z (yb (yi (ye nL3 (ya 0 3 z (yb (yo (bsk D fun t1 hloop5 D => have hlt9 := (h_p0).len_lt; W.wk (yau (m := p0.length) hloop5 (fun (i4 : Nat) (_s : Unit) => JI E I [(0, Sl a_p0 p0 c_p0), (1, .string p1), (7, Nv p0.length), (8, Nv i4)] Os) ⟨I, rfl, lr, hS⟩ ?_ ?_)))))))))
 rintro i4 _ _ w6 hi10 ⟨I2, rfl, L3, S7⟩ x8 R1 hext1
 refine ye [0] (ya 0 1 z (yb (yi (yax fun _ => yl (yc (yi (yo (ye nL2 (ya 0 2 z (y8 nL6 (ya 0 3 z ?_)))))))))))
 obtain ⟨x11, R1, Hx11, _, rfl, Zx11⟩ := sx I2 h_p0 R1
 refine yac 9 1 Hx11 z (yar Zx11 S7.rm z (ya 5 1 z (yb (y3 R1 (fun G R1 => ?_) (fun G R1 => ?_)))))
 refine ye nL2 (ya 0 2 z (yb (yq (yn (yf (yv ?_))))))
 obtain rfl := hext1 _ (sj R1).symm
 exact yn (yf (sj D ▸ yy ⟨I2, rfl, L3, S7⟩))
 exact yl (ym (yc (yai nL2 (yap i4 z (ya 1 1 z (yr (yx ⟨(), (sj R1).symm, I2, rfl, L3, S7⟩)))))))
 rintro _ _ w14 ⟨I2, rfl, L3, S15⟩ he
 cases he
 exact ye [0] (ya 0 1 z (yb (yi (yay fun _ => yab (yp (yt (yu (yc (ye [0] (ya 0 1 z (yb (yq (sj D ▸ yy ⟨I2, rfl, L3, S15⟩)))))))))))))
def slices_Contains_string (p0 : List By8) (p1 : By8) : Option Bool := (slices_Index_string p0 p1).bind (fun r6 => some (decide (r6 ≥ 0)))
theorem slices_Contains_string_ok {p0 : List By8} {p1 : By8} {a_p0 : Option Addr} {c_p0 : Nat} (h_p0 : RSl 1 RStr I a_p0 c_p0 p0) (hS : St E w I Os) {r : Bool} (D : slices_Contains_string p0 p1 = some r) :
    Calls P 87 #[(Sl a_p0 p0 c_p0), (.string p1)] w (RT E I Os (.bool r)) := by
 refine calls_W (fn := Tryz.f87) rfl rfl rfl ?_
 unfold slices_Contains_string at D
 exact ye [0] (ya 0 1 z (y8 nL5 (ya 0 2 z (bsk D fun r6 Xr1 D => WO.c1 (slices_Index_string_ok h_p0 hS Xr1) z fun I3 w2 L4 S5 => ya 3 2 z (yb (yq (sj D ▸ yy ⟨I3, rfl, L4, S5⟩)))))))
noncomputable def member_Is (p0 : List qJ) (p1 : By8) (p2 : By8) : Option Bool := (member_All p0 p1).bind (fun r6 => (slices_Contains_string r6 p2).bind (fun r12 => some r12))
theorem member_Is_ok {p0 : List qJ} {p1 : By8} {p2 : By8} {a_p0 : Option Addr} {c_p0 : Nat} (h_p0 : RSl 2 R_qJ I a_p0 c_p0 p0) (hS : St E w I Os) {r : Bool} (D : member_Is p0 p1 p2 = some r) :
    Calls P 56 #[(Sl a_p0 p0 c_p0), (.string p1), (.string p2)] w (RT E I Os (.bool r)) := by
 refine calls_W (fn := Tryz.f56) rfl rfl rfl ?_
 unfold member_Is at D
 refine ye [0] (ya 0 1 z (y8 nL6 (ya 0 2 z (bsk D fun r6 Xr1 D => yaj (member_All_ok h_p0 hS Xr1) ?_))))
 rintro _ w2 ⟨I3, a_r6, c_r6, rfl, L4, S5, h_r6⟩
 exact cv (ya 3 1 z (bsk D fun r12 Xr7 D => WO.c1 (slices_Contains_string_ok h_r6 S5 Xr7) z fun I9 w8 L10 S11 => ya 5 1 z (yb (yq (sj D ▸ yy ⟨I9, rfl, le, S11⟩)))))
noncomputable def grants_Owns (p0 : qC) (p1 : By8) (p2 : By8) : Option Bool := (catalog_Find p0 p2).bind (fun (r10, r11) => ((bif r11 then (member_Is p0.Roles p1 r10.Owner).bind (fun r27 => some r27) else some false)).bind (fun (j18 : Bool) => some j18))
theorem grants_Owns_ok {p0 : qC} {p1 : By8} {p2 : By8} {w_p0 : W_qC} (h_p0 : ok_qC I p0 w_p0) (hS : St E w I Os) {r : Bool} (D : grants_Owns p0 p1 p2 = some r) :
    Calls P 21 #[(vC p0 w_p0), (.string p1), (.string p2)] w (RT E I Os (.bool r)) := by
 refine calls_W (fn := Tryz.f21) rfl rfl rfl ?_
 unfold grants_Owns at D
 refine ye nL2 (yaa hS (cs_qC p0 w_p0) 44 z fun b1 w4 S3 => ya 1 1 z (y8 nL9 (y4 ((cs_qC p0 w_p0)) (S3.rf m0) z (ya 1 1 z ?_))))
 obtain ⟨⟨r10, r11⟩, Xr5, D⟩ := bsm D
 refine yaj (catalog_Find_ok h_p0 S3 Xr5) ?_
 rintro _ w6 ⟨I7, w_r10, rfl, L8, S9, h_r10⟩
 refine cv (ya 3 3 z (yaa S9 (cs_qT z_qT zw_qT) 52 z fun b12 w15 S14 => yad S14 0 (cs_qT r10 w_r10) fun w17 S16 => ya 8 1 z (y8 nL10 (ya 0 2 z (bsk D fun j18 R1 D => yao (l1 := [2, 3, 4, 5, 6, 7, 8]) (J := JI E I7 [(23, .bool j18)] Os) ?_ ?_)))))
 refine yan R1 (fun G R1 => ?_) (fun G R1 => ?_)
 exact y7 16 G (yh 2 1 [2] z (yj (S16.rf m1) z (yh 4 2 [1] z (yj (S16.rf m0) z (bsk R1 fun r27 Xr22 R1 => WO.c1 (member_Is_ok (RSl.mono h_p0.Roles L8) S16 Xr22) z fun I24 w23 L25 S26 => ya 8 1 z (sj R1 ▸ y6 ⟨I24, rfl, L25, S26.d2⟩))))))
 refine y7 16 G ?_
 iterate 6 refine yam ?_
 exact ya 8 1 z (sj R1 ▸ y6 ⟨I7, rfl, lr, S16.d2⟩)
 rintro _ w32 ⟨I20, rfl, L21, S33⟩
 exact ya 9 1 z (yb (yq (sj D ▸ yy ⟨I20, rfl, le, S33⟩)))
def slices_IndexFunc_qG (p0 : List qG) (p1 : qG → Option Bool) : Option Int := (forN (fun (i4 : Nat) (_s : Unit) => (idx p0 (i4 : Int)).bind (fun x11 => (p1 x11).bind (fun (r17 : Bool) => (bif r17 then some (.inr (i4 : Int)) else some (.inl ()))))) p0.length 0 ()).bind (fun (t : Unit ⊕ (Int)) => match t with | .inl _ => some (-1) | .inr s19 => some s19)
theorem slices_IndexFunc_qG_ok {p0 : List qG} {p1 : qG → Option Bool} {a_p0 : Option Addr} {c_p0 : Nat} {g_p1 : FuncId} {k_p1 : List Value} (h_p0 : RSl 5 R_qG I a_p0 c_p0 p0) (h_p1 : ∀ {F : List Mem} {I' : Mem} {w : World} {u0 : qG}, I.Le I' → St E w I' (F ++ Os) → ∀ {r : Bool}, p1 u0 = some r → Calls P g_p1 (([(vG u0)] : List Value) ++ k_p1).toArray w (fun e w' => ∃ (I'' : Mem), e = .returned (.bool r) ∧ I'.Le I'' ∧ St E w' I'' (F ++ Os))) (hcall_p1 : Callable P g_p1) (hS : St E w I Os) {r : Int} (D : slices_IndexFunc_qG p0 p1 = some r) :
    Calls P 136 #[(Sl a_p0 p0 c_p0), (.func (.func g_p1) #[] k_p1.toArray)] w (RT E I Os (Iv r)) := by
 refine calls_W (fn := Tryz.f136) rfl rfl rfl ?_
 unfold slices_IndexFunc_qG at D
 refine ye [0] (ya 0 1 z (yb (yi (ye nL3 (ya 0 3 z (yb (yo (bsk D fun t1 hloop5 D => have hlt9 := (h_p0).len_lt; W.wk (yau (m := p0.length) hloop5 (fun (i4 : Nat) (_s : Unit) => JI E I [(0, Sl a_p0 p0 c_p0), (1, .func (.func g_p1) #[] k_p1.toArray), (7, Nv p0.length), (8, Nv i4)] Os) ⟨I, rfl, lr, hS⟩ ?_ ?_)))))))))
 rintro i4 _ _ w6 hi10 ⟨I2, rfl, L3, S7⟩ x8 R1 hext1
 refine ye [0] (ya 0 1 z (yb (yi (yax fun _ => yl (yc (yi (yo (ye nL2 (ya 0 2 z (y8 nL6 (yaf 0 11 (.func (.func g_p1) #[] k_p1.toArray) (ya 1 2 z ?_))))))))))))
 obtain ⟨x11, R1, Hx11, _, rfl, Zx11⟩ := sx I2 h_p0 R1
 refine yac 122 5 Hx11 z (yat ((cs_qG x11)) Zx11 0 S7.rm z (bsk R1 fun r17 Xr12 R1 => ybg z kr z (g := g_p1) (kk := k_p1) (args := [(vG x11)]) z kr hcall_p1 (h_p1 (F := []) L3 S7  Xr12) ?_))
 rintro _ w13 ⟨I14, rfl, L15, S16⟩
 refine cv (yb (y3 R1 (fun G R1 => ?_) (fun G R1 => ?_)))
 refine ye nL2 (ya 0 2 z (yb (yq (yn (yf (yv ?_))))))
 obtain rfl := hext1 _ (sj R1).symm
 exact yn (yf (sj D ▸ yy ⟨I14, rfl, le, S16⟩))
 exact yl (ym (yc (yai nL2 (yap i4 z (ya 1 1 z (yr (yx ⟨(), (sj R1).symm, I14, rfl, le, S16⟩)))))))
 rintro _ _ w20 ⟨I2, rfl, L3, S21⟩ he
 cases he
 exact ye [0] (ya 0 1 z (yb (yi (yay fun _ => yab (yp (yt (yu (yc (ye [0] (ya 0 1 z (yb (yq (sj D ▸ yy ⟨I2, rfl, L3, S21⟩)))))))))))))
def slices_ContainsFunc_qG (p0 : List qG) (p1 : qG → Option Bool) : Option Bool := (slices_IndexFunc_qG p0 p1).bind (fun r6 => some (decide (r6 ≥ 0)))
theorem slices_ContainsFunc_qG_ok {p0 : List qG} {p1 : qG → Option Bool} {a_p0 : Option Addr} {c_p0 : Nat} {g_p1 : FuncId} {k_p1 : List Value} (h_p0 : RSl 5 R_qG I a_p0 c_p0 p0) (h_p1 : ∀ {F : List Mem} {I' : Mem} {w : World} {u0 : qG}, I.Le I' → St E w I' (F ++ Os) → ∀ {r : Bool}, p1 u0 = some r → Calls P g_p1 (([(vG u0)] : List Value) ++ k_p1).toArray w (fun e w' => ∃ (I'' : Mem), e = .returned (.bool r) ∧ I'.Le I'' ∧ St E w' I'' (F ++ Os))) (hcall_p1 : Callable P g_p1) (hS : St E w I Os) {r : Bool} (D : slices_ContainsFunc_qG p0 p1 = some r) :
    Calls P 114 #[(Sl a_p0 p0 c_p0), (.func (.func g_p1) #[] k_p1.toArray)] w (RT E I Os (.bool r)) := by
 refine calls_W (fn := Tryz.f114) rfl rfl rfl ?_
 unfold slices_ContainsFunc_qG at D
 exact ye [0] (ya 0 1 z (y8 nL5 (ya 0 1 z (yaf 1 6 (.func (.func g_p1) #[] k_p1.toArray) (bsk D fun r6 Xr1 D => WO.c1 (slices_IndexFunc_qG_ok h_p0 (fun {F Ic wc} {_} hlc hSc  {rc} hrc => h_p1 hlc hSc  hrc) hcall_p1 hS Xr1) z fun I3 w2 L4 S5 => ya 3 2 z (yb (yq (sj D ▸ yy ⟨I3, rfl, L4, S5⟩))))))))
noncomputable def grants_has_1 (p0 : qG) (q1 : Int) (q2 : By8) (q3 : Bool) (q4 : qC) (q5 : By8) : Option Bool := (some (((p0.Priv == q1) && (sEq p0.Table q2)) && (p0.Option || (!q3)))).bind (fun (q9 : Bool) => ((bif q9 then (member_Is q4.Roles q5 p0.To).bind (fun r23 => some r23) else some false)).bind (fun (j14 : Bool) => some j14))
theorem grants_has_1_ok {p0 : qG} {q1 : Int} {q2 : By8} {q3 : Bool} {q4 : qC} {q5 : By8} {kb1 : Nat} {kb2 : Nat} {kb3 : Nat} {kb4 : Nat} {w_q4 : W_qC} {kb5 : Nat} (h_q4 : ok_qC I q4 w_q4) (hm1 : (Bx kb1 [(Iv q1)] 3) ∈ Os) (hm2 : (Bx kb2 [(.string q2)] 9) ∈ Os) (hm3 : (Bx kb3 [(.bool q3)] 4) ∈ Os) (hm4 : (bC kb4 q4 w_q4) ∈ Os) (hm5 : (Bx kb5 [(.string q5)] 9) ∈ Os) (hS : St E w I Os) {r : Bool} (D : grants_has_1 p0 q1 q2 q3 q4 q5 = some r) :
    Calls P 115 #[(vG p0), (Pt kb1 0), (Pt kb2 0), (Pt kb3 0), (Pt kb4 0), (Pt kb5 0)] w (RT E I Os (.bool r)) := by
 refine calls_W (fn := Tryz.f115) rfl rfl rfl ?_
 unfold grants_has_1 at D
 refine ye nL2 (yaa hS (cs_qG p0) 122 z fun b1 w4 S3 => ya 1 1 z (y8 nL27 (yh 0 1 [3] z (yj (S3.rf m0) z (yj (rd_f (S3.rd (List.Mem.tail _ hm1))) z (ya 3 2 z (yaz [5, 6, 7, 8] 9 12 17 (.refl ((p0.Priv == q1) && (sEq p0.Table q2))) (fun _ => yh 5 1 [2] z (yj (S3.rf m0) z (yj (rd_f (S3.rd (List.Mem.tail _ hm2))) z (ya 8 2 z yal)))) (ya 10 1 z (bsq D fun q9 Xq9 D => yaz [11, 12, 13, 14, 15, 16] 17 18 25 Xq9 (fun _ => yh 11 1 [4] z (yj (S3.rf m0) z (ya 13 1 z (ya7 [14, 15] 16 21 24 (.refl (p0.Option || (!q3))) (fun _ => yj (rd_f (S3.rd (List.Mem.tail _ hm3))) z (ya 15 2 z yal)) (ya 17 1 z yal))))) (ya 18 1 z (bsk D fun j14 R1 D => yao (l1 := [19, 20, 21, 22, 23, 24, 25]) (J := JI E I [(33, .bool j14)] Os) ?_ ?_)))))))))))
 refine yan R1 (fun G R1 => ?_) (fun G R1 => ?_)
 exact y7 26 G (yh 19 1 [2] z (yj (rd_f (S3.rd (List.Mem.tail _ hm4))) z (yj (rd_f (S3.rd (List.Mem.tail _ hm5))) z (yh 22 1 [0] z (yj (S3.rf m0) z (bsk R1 fun r23 Xr18 R1 => WO.c1 (member_Is_ok h_q4.Roles S3 Xr18) z fun I20 w19 L21 S22 => ya 25 1 z (sj R1 ▸ y6 ⟨I20, rfl, L21, S22.drop⟩)))))))
 refine y7 26 G ?_
 iterate 6 refine yam ?_
 exact ya 25 1 z (sj R1 ▸ y6 ⟨I, rfl, lr, S3.drop⟩)
 rintro _ w26 ⟨I16, rfl, L17, S27⟩
 exact ya 26 1 z (yb (yq (sj D ▸ yy ⟨I16, rfl, L17, S27⟩)))
noncomputable def grants_has (p0 : qC) (p1 : List qG) (p2 : By8) (p3 : Int) (p4 : By8) (p5 : Bool) : Option Bool := (slices_ContainsFunc_qG p1 (fun (u0 : qG) => grants_has_1 u0 p3 p4 p5 p0 p2)).bind (fun r26 => some r26)
theorem grants_has_ok {p0 : qC} {p1 : List qG} {p2 : By8} {p3 : Int} {p4 : By8} {p5 : Bool} {w_p0 : W_qC} {a_p1 : Option Addr} {c_p1 : Nat} (h_p0 : ok_qC I p0 w_p0) (h_p1 : RSl 5 R_qG I a_p1 c_p1 p1) (hS : St E w I Os) {r : Bool} (D : grants_has p0 p1 p2 p3 p4 p5 = some r) :
    Calls P 81 #[(vC p0 w_p0), (Sl a_p1 p1 c_p1), (.string p2), (Iv p3), (.string p4), (.bool p5)] w (RT E I Os (.bool r)) := by
 refine calls_W (fn := Tryz.f81) rfl rfl rfl ?_
 unfold grants_has at D
 exact ye nL6 (yaa hS (cs_qC p0 w_p0) 44 z fun b1 w4 S3 => yaa S3 [(.string p2)] 9 z fun b5 w8 S7 => yaa S7 [(Iv p3)] 3 z fun b9 w12 S11 => yaa S11 [(.string p4)] 9 z fun b13 w16 S15 => yaa S15 [(.bool p5)] 4 z fun b17 w20 S19 => ya 5 1 z (y8 nL4 (ya 0 1 z (yaf 1 14 (.func (.func 115) #[] #[(Pt b9 0), (Pt b13 0), (Pt b17 0), (Pt b1 0), (Pt b5 0)]) (bsk D fun r26 Xr21 D => WO.c1 (slices_ContainsFunc_qG_ok h_p1 (fun {F Ic wc} {_} hlc hSc  {rc} hrc => grants_has_1_ok (h_p0.mono hlc) (List.mem_append_right _ m2) (List.mem_append_right _ m1) (List.mem_append_right _ m0) (List.mem_append_right _ m4) (List.mem_append_right _ m3) hSc hrc) (fun _ _ => by kernel_rfl) S19 Xr21) z fun I23 w22 L24 S25 => ya 3 1 z (yb (yq (sj D ▸ yy ⟨I23, rfl, L24, S25.d5⟩))))))))
def grants_Held_1 (q0 : qC) (q1 : List Bool) : Option (List qG) := (forE (fun (i5 : Nat) (s4 : List qG) => (idx q0.Grants (i5 : Int)).bind (fun x14 => (idx q1 (i5 : Int)).bind (fun x21 => ((bif x21 then (app 64 s4 ([x14] : List qG)).bind (fun x34 => some x34) else some s4)).bind (fun (j22 : List qG) => some j22)))) q0.Grants.length 0 ([] : List qG)).bind (fun s4 => some s4)
theorem grants_Held_1_ok {q0 : qC} {q1 : List Bool} {kb0 : Nat} {w_q0 : W_qC} {kb1 : Nat} {a_q1 : Option Addr} {c_q1 : Nat} (h_q0 : ok_qC I q0 w_q0) (h_q1 : RSl 1 RBool I a_q1 c_q1 q1) (hm0 : (bC kb0 q0 w_q0) ∈ Os) (hm1 : (Bx kb1 [(Sl a_q1 q1 c_q1)] 161) ∈ Os) (hS : St E w I Os) {r : (List qG)} (D : grants_Held_1 q0 q1 = some r) :
    Calls P 116 #[(Pt kb0 0), (Pt kb1 0)] w (fun e w' => ∃ (I' : Mem) (ra0 : Option Addr) (rc0 : Nat) (rC0 : Mem), e = .returned (Sl ra0 r rc0) ∧ I.Le I' ∧ St E w' I' (rC0 :: Os) ∧ OwnSl 122 5 R_qG I' rC0 ra0 rc0 r) := by
 refine calls_W (fn := Tryz.f116) rfl rfl rfl ?_
 unfold grants_Held_1 at D
 refine ye [0] (yaf 0 2 (.slice none 0 0) (y8 [0] (yaf 0 3 (.slice none 0 0) (yb (yi (ye nL4 (yh 0 1 [3] z (yj (rd_f (hS.rd hm0)) z (ya 2 2 z (yb (yo (bsk D fun s4 hloop6 D => have hlt12 := (h_q0.Grants).len_lt; W.wk (ya1 (m := q0.Grants.length) hloop6 (fun (i5 : Nat) (s4 : List qG) fr w => ∃ I2 a_s4 c_s4 C_s4, fr = [(1, Pt kb1 0), (3, Sl a_s4 s4 c_s4), (7, Sl w_q0.Grants.a q0.Grants w_q0.Grants.c), (8, Nv q0.Grants.length), (9, Nv i5)] ∧ I.Le I2 ∧ St E w I2 ((C_s4) :: Os) ∧ OwnSl 122 5 R_qG I2 C_s4 a_s4 c_s4 s4) ⟨I, none, 0, Mem.no, rfl, lr, hS.no, OwnSl.nil⟩ ?_ ?_)))))))))))))
 rintro i5 s4 _ w9 hi13 ⟨I2, a_s4, c_s4, C_s4, rfl, L3, S10, h_s4⟩ x11 R1
 refine ye [0] (ya 0 1 z (yb (yi (yax fun _ => yl (yc (yi (yo (ye nL6 (ya 0 1 z ?_)))))))))
 obtain ⟨x14, R1, Hx14, _, rfl, Zx14⟩ := sx I2 h_q0.Grants R1
 refine yac 122 5 Hx14 z (yat ((cs_qG x14)) Zx14 0 S10.rm z (yaa S10 (cs_qG z_qG) 122 z fun b15 w18 S17 => ya 4 1 z (yad S17 0 (cs_qG x14) fun w20 S19 => y8 nL4 (yj (rd_f (S19.rd (List.Mem.tail _ (List.Mem.tail _ hm1)))) z (ya 1 1 z ?_)))))
 obtain ⟨x21, R1, Hx21, _, rfl, Zx21⟩ := sx I2 h_q1 R1
 refine yac 4 1 Hx21 z (yar Zx21 S19.rm z (yb (bsk R1 fun j22 R2 R1 => ya0 (J := (fun fr w => ∃ I24 a_j22 c_j22 C_j22, fr = [(1, Pt kb1 0), (3, Sl a_j22 j22 c_j22), (7, Sl w_q0.Grants.a q0.Grants w_q0.Grants.c), (8, Nv q0.Grants.length), (9, Nv i5)] ∧ I2.Le I24 ∧ St E w I24 ((C_j22) :: Os) ∧ OwnSl 122 5 R_qG I24 C_j22 a_j22 c_j22 j22)) ?_ ?_)))
 refine y3 R2 (fun G R2 => ?_) (fun G R2 => ?_)
 refine yai nL5 (ya 0 1 z (y4 ((cs_qG x14)) (S19.rf m0) z (yag (rel := R_qG) (xs := ([x14] : List qG)) S19 z kr z 122 5 [(cs_qG x14)] kr z ((Elr.cons z Elr.nil)) tv ?_)))
 intro a29 C27 w31 S30 ho28
 have S33 := S30.front2
 exact apk R2 fun x34 h0_x34 he_x34 R2 => ya2 122 64 (cs_qG z_qG) S33 h_s4 ho28.sl (S33.rd m1) h0_x34 he_x34 z fun a35 c36 w37 C38 S39 ho40 => ya 4 1 z (yr (sj R2 ▸ yx ⟨I2, a35, c36, C38, rfl, lr, S39.front1.drop.front1.drop, ho40⟩))
 exact yl (sj R2 ▸ yx ⟨I2, a_s4, c_s4, C_s4, rfl, lr, S19.drop, h_s4⟩)
 rintro _ w46 ⟨I24, a_j22, c_j22, C_j22, rfl, L25, S47, h_j22⟩
 exact ym (yc (yai nL2 (yap i5 z (ya 1 1 z (yr (sj R1 ▸ yx ⟨I24, a_j22, c_j22, C_j22, rfl, le, S47, h_j22⟩))))))
 rintro _ w48 ⟨I2, a_s4, c_s4, C_s4, rfl, L3, S49, h_s4⟩
 exact ye [0] (ya 0 1 z (yb (yi (yay fun _ => yab (yp (yt (yu (yc (ye nL2 (ya 0 2 z (yb (yq (sj D ▸ yy ⟨I2, a_s4, c_s4, C_s4, rfl, L3, S49, h_s4⟩)))))))))))))
noncomputable def grants_Held (p0 : qC) : Option (List qG) := (mk 1 (p0.Grants.length : Int)).bind (fun n5 => (loopO (fun (s : Bool × (List Bool)) => match s with | (s21, s22) => (bif s21 then (grants_Held_1 p0 s22).bind (fun r38 => (forE (fun (i50 : Nat) (s : Bool × (List Bool)) => match s with | (s48, s49) => (idx p0.Grants (i50 : Int)).bind (fun x59 => (catalog_Find p0 x59.Table).bind (fun (r71, r72) => (member_Find p0.Roles x59.To).bind (fun (r84, r85) => (idx s49 (i50 : Int)).bind (fun x92 => ((bif (((!x92) && r72) && r85) then (grants_Owns p0 x59.By x59.Table).bind (fun r106 => ((bif r106 then some true else (grants_has p0 r38 x59.By x59.Priv x59.Table true).bind (fun r119 => some r119))).bind (fun (j107 : Bool) => some j107)) else some false)).bind (fun (j97 : Bool) => ((bif j97 then (idx s49 (i50 : Int)).bind (fun x134 => some (true, (s49.set ((i50 : Int)).toNat true))) else some (s48, s49))).bind (fun ((s141, s142) : Bool × (List Bool)) => some (s141, s142)))))))) p0.Grants.length 0 (false, s22)).bind (fun (s48, s49) => some (.inl (s48, s49)))) else some (.inr s22))) (true, (List.replicate n5 false))).bind (fun (s150 : List Bool) => (grants_Held_1 p0 s150).bind (fun r159 => some r159)))
theorem grants_Held_ok {p0 : qC} {w_p0 : W_qC} (h_p0 : ok_qC I p0 w_p0) (hS : St E w I Os) {r : (List qG)} (D : grants_Held p0 = some r) :
    Calls P 82 #[(vC p0 w_p0)] w (fun e w' => ∃ (I' : Mem) (ra0 : Option Addr) (rc0 : Nat), e = .returned (Sl ra0 r rc0) ∧ I.Le I' ∧ St E w' I' Os ∧ RSl 5 R_qG I' ra0 rc0 r) := by
 refine calls_W (fn := Tryz.f82) rfl rfl rfl ?_
 unfold grants_Held at D
 refine ye nL2 (yaa hS (cs_qC p0 w_p0) 44 z fun b1 w4 S3 => yaf 1 2 (.slice none 0 0) (y8 nL6 (yh 0 1 [3] z (yj (S3.rf m0) z (ya 2 1 z ?_)))))
 obtain ⟨n5, Xn5, D⟩ := bsm D
 obtain ⟨h0_n5, he_n5⟩ := mk_some Xn5
 refine WO.make (rel := RBool) S3 z kr z kr (T := 4) (sz := 1) (b := 1) (zs := #[(.bool false)]) kr z z n5 (congrArg (Value.int .i64) he_n5) (congrArg (Value.int .i64) he_n5) h0_n5 z (z0 := false) z tv ?_
 intro a6 w10 C7 S9 ho8
 refine yz 16 z (show Value.slice a6 n5 n5 = Value.slice a6 (List.replicate n5 false).length n5 by simp only [List.length_replicate]) ?_
 refine yaa S9 [(.slice none 0 0)] 161 z fun b12 w15 S14 => yad S14 0 [(.slice a6 (List.replicate n5 false).length n5)] fun w17 S16 => y8 nL2 (WO.vs 0 [(17, .func (.func 116) #[] #[(Pt b1 0), (Pt b12 0)]), (4, .func (.func 116) #[] #[(Pt b1 0), (Pt b12 0)])] (yb (yi (ye [0] (ya 0 1 z (yb (yo (bsk D fun t18 hloop23 D => W.wk (ya4 hloop23 (fun (s : Bool × (List Bool)) fr w => match s with | (s21, s22) => ∃ I19 C_s22, fr = [(1, Pt b1 0), (3, Pt b12 0), (4, .func (.func 116) #[] #[(Pt b1 0), (Pt b12 0)]), (5, .bool s21)] ∧ I.Le I19 ∧ St E w I19 (bC b1 p0 w_p0 :: (Bx b12 [(Sl a6 s22 n5)] 161) :: (C_s22) :: Os) ∧ OwnSl 4 1 RBool I19 C_s22 a6 n5 s22) ⟨I, C7, rfl, lr, S16.front1.front1.front2, ho8⟩ ?_)))))))))
 rintro ⟨s21, s22⟩ _ w27 ⟨I19, C_s22, rfl, L20, S28, h_s22⟩ x29 R1 hext18
 refine yi (ye [0] (ya 0 1 z (yb (y3 R1 (fun G R1 => ?_) (fun G R1 => ?_)))))
 refine yl (yc (yo (ye [0] (ya 0 1 z (y8 nL3 (yaf 0 19 (.func (.func 116) #[] #[(Pt b1 0), (Pt b12 0)]) (have S30 := S28.front2; have hp32 := (h_s22).publish S30; bsk R1 fun r38 Xr33 R1 => yaj (grants_Held_1_ok (h_p0.mono (L20.trans (ybf I19 C_s22))) hp32 m0 m1 S30.publish Xr33) ?_)))))))
 rintro _ w34 ⟨I35, a_r38, c_r38, C_r38, rfl, L36, S37, h_r38⟩
 have S39 := yb0 S30 L36 S37
 have ho40 := yb2 h_r38 I19 (fun hq => hq)
 refine cv ?_
 obtain ⟨I41, L42, S44, hp43⟩ := yah ho40 S39
 refine ya 2 1 z (y8 nL4 (yh 0 1 [3] z (yj (S44.rf m1) z (ya 2 2 z (yb (yo ?_))))))
 obtain ⟨⟨s48, s49⟩, hloop51, R1⟩ := bsm R1
 have hlt57 := ((RSl.mono h_p0.Grants (L20.trans L42))).len_lt
 refine W.wk (ya1 (m := p0.Grants.length) hloop51 (fun (i50 : Nat) (s : Bool × (List Bool)) fr w => match s with | (s48, s49) => ∃ I46 C_s49, fr = [(1, Pt b1 0), (3, Pt b12 0), (4, .func (.func 116) #[] #[(Pt b1 0), (Pt b12 0)]), (5, .bool s48), (6, Sl a_r38 r38 c_r38), (22, Sl w_p0.Grants.a p0.Grants w_p0.Grants.c), (23, Nv p0.Grants.length), (24, Nv i50)] ∧ I41.Le I46 ∧ St E w I46 (bC b1 p0 w_p0 :: (Bx b12 [(Sl a6 s49 n5)] 161) :: (C_s49) :: Os) ∧ OwnSl 4 1 RBool I46 C_s49 a6 n5 s49) ⟨I41, C_s22, rfl, lr, S44.front2.front2, (OwnSl.mono h_s22 L42)⟩ ?_ ?_)
 rintro i50 ⟨s48, s49⟩ _ w54 hi58 ⟨I46, C_s49, rfl, L47, S55, h_s49⟩ x56 R2
 refine ye [0] (ya 0 1 z (yb (yi (yax fun _ => yl (yc (yi (yo (ye nL6 (ya 0 1 z ?_)))))))))
 obtain ⟨x59, R2, Hx59, _, rfl, Zx59⟩ := sx I46 h_p0.Grants R2
 refine yac 122 5 Hx59 z (yat ((cs_qG x59)) Zx59 0 S55.rm z (yaa S55 (cs_qG z_qG) 122 z fun b60 w63 S62 => ya 4 1 z (yad S62 0 (cs_qG x59) fun w65 S64 => y8 nL10 (y4 ((cs_qC p0 w_p0)) (S64.rf m1) z (yh 1 1 [2] z (yj (S64.rf m0) z ?_))))))
 obtain ⟨⟨r71, r72⟩, Xr66, R2⟩ := bsm R2
 refine yaj (catalog_Find_ok (h_p0.mono le) S64 Xr66) ?_
 rintro _ w67 ⟨I68, w_r71, rfl, L69, S70, h_r71⟩
 refine cv (ya 4 3 z (yaa S70 (cs_qT z_qT zw_qT) 52 z fun b73 w76 S75 => yad S75 0 (cs_qT r71 w_r71) fun w78 S77 => ya 9 1 z (y8 nL11 (yh 0 1 [2] z (yj (S77.rf m2) z (yh 2 1 [0] z (yj (S77.rf m1) z ?_)))))))
 obtain ⟨⟨r84, r85⟩, Xr79, R2⟩ := bsm R2
 refine yaj (member_Find_ok (up h_p0.Roles) S77 Xr79) ?_
 rintro _ w80 ⟨I81, w_r84, rfl, L82, S83, h_r84⟩
 refine cv (ya 5 3 z (yaa S83 (cs_qJ z_qJ zw_qJ) 73 z fun b86 w89 S88 => yad S88 0 (cs_qJ r84 w_r84) fun w91 S90 => ya 10 1 z (y8 nL30 (yj (S90.rf m4) z (ya 1 1 z ?_)))))
 obtain ⟨x92, R2, Hx92, _, rfl, Zx92⟩ := sl_ix ((h_s49.mono (L69.trans L82)).sl) R2
 refine yac 4 1 Hx92 z (yar Zx92 (S90.rf m5) z (ya 4 2 z (yaz [6] 7 49 51 (.refl ((!x92) && r72)) (fun _ => ya 6 2 z yal) (ya 8 1 z (yaz [9] 10 52 54 (.refl (((!x92) && r72) && r85)) (fun _ => ya 9 2 z yal) (ya 11 1 z (bsk R2 fun j97 R3 R2 => yao (l1 := [12, 13, 14, 15, 16, 17, 18, 19, 20, 21, 22, 23, 24, 25, 26, 27, 28, 29]) (J := JI E I81 [(1, Pt b1 0), (3, Pt b12 0), (4, .func (.func 116) #[] #[(Pt b1 0), (Pt b12 0)]), (5, .bool s48), (6, Sl a_r38 r38 c_r38), (7, Nv i50), (22, Sl w_p0.Grants.a p0.Grants w_p0.Grants.c), (23, Nv p0.Grants.length), (24, Nv i50), (73, .bool j97)] (bC b1 p0 w_p0 :: (Bx b12 [(Sl a6 s49 n5)] 161) :: (C_s49) :: Os)) ?_ ?_)))))))
 refine yan R3 (fun G R3 => ?_) (fun G R3 => ?_)
 refine y7 55 G (y4 ((cs_qC p0 w_p0)) (S90.rf m3) z (yh 13 1 [1] z (yj (S90.rf m2) z (yh 15 1 [2] z (yj (S90.rf m2) z (bsk R3 fun r106 Xr101 R3 => WO.c1 (grants_Owns_ok (h_p0.mono le) S90 Xr101) z fun I103 w102 L104 S105 => ya 18 1 z (bsk R3 fun j107 R4 R3 => yao (l1 := [19, 20, 21, 22, 23, 24, 25, 26, 27, 28]) (J := JI E I103 [(1, Pt b1 0), (3, Pt b12 0), (4, .func (.func 116) #[] #[(Pt b1 0), (Pt b12 0)]), (5, .bool s48), (6, Sl a_r38 r38 c_r38), (7, Nv i50), (22, Sl w_p0.Grants.a p0.Grants w_p0.Grants.c), (23, Nv p0.Grants.length), (24, Nv i50), (55, .bool true), (72, .bool j107)] (bC b1 p0 w_p0 :: (Bx b12 [(Sl a6 s49 n5)] 161) :: (C_s49) :: Os)) ?_ ?_)))))))
 refine yan R4 (fun G R4 => ?_) (fun G R4 => ?_)
 refine y7 62 G ?_
 iterate 9 refine yam ?_
 exact ya 28 1 z (sj R4 ▸ y6 ⟨I103, rfl, lr, S105.d3⟩)
 exact y7 62 G (y4 ((cs_qC p0 w_p0)) (S105.rf m3) z (yh 20 2 [1] z (yj (S105.rf m2) z (yh 23 1 [3] z (yj (S105.rf m2) z (yh 25 1 [2] z (yj (S105.rf m2) z (bsk R4 fun r119 Xr114 R4 => WO.c1 (grants_has_ok (h_p0.mono le) (up hp43) S105 Xr114) z fun I116 w115 L117 S118 => ya 28 1 z (sj R4 ▸ y6 ⟨I116, rfl, L117, S118.d3⟩)))))))))
 rintro _ w123 ⟨I109, rfl, L110, S124⟩
 exact ya 29 1 z (sj R3 ▸ y6 ⟨I109, rfl, le, S124⟩)
 refine y7 55 G ?_
 iterate 17 refine yam ?_
 exact ya 29 1 z (sj R3 ▸ y6 ⟨I81, rfl, lr, S90.d3⟩)
 rintro _ w128 ⟨I99, rfl, L100, S129⟩
 refine yb (bsk R2 fun j130 R3 R2 => ya0 (J := (fun fr w => ∃ (s141 : Bool) (s142 : List Bool), ∃ I132 C_s142, (s141, s142) = j130 ∧ fr = [(1, Pt b1 0), (3, Pt b12 0), (4, .func (.func 116) #[] #[(Pt b1 0), (Pt b12 0)]), (5, .bool s141), (6, Sl a_r38 r38 c_r38), (22, Sl w_p0.Grants.a p0.Grants w_p0.Grants.c), (23, Nv p0.Grants.length), (24, Nv i50)] ∧ I99.Le I132 ∧ St E w I132 (bC b1 p0 w_p0 :: (Bx b12 [(Sl a6 s142 n5)] 161) :: (C_s142) :: Os) ∧ OwnSl 4 1 RBool I132 C_s142 a6 n5 s142)) ?_ ?_)
 refine y3 R3 (fun G R3 => ?_) (fun G R3 => ?_)
 refine ye nL4 (yj (S129.rf m1) z (ya 1 1 z ?_))
 obtain ⟨x134, R3, h0_x134, h1_x134, Xx134, ha_x134, _, _, rfl, Zx134⟩ := sl_at ((h_s49.mono ((L69.trans L82).trans L100)).sl) R3
 refine ya5 4 1 ha_x134 h0_x134 h1_x134 ?_
 refine yaw S129.front2 (OwnSl.mono h_s49 le) z kr z Xx134 (u' := true) 0 z z kr z z (fun cs hrel => (by obtain rfl := hrel; exact z)) tv ?_
 intro w137 C138 S136 ho139
 refine yz 74 z (show Value.slice a6 s49.length n5 = Value.slice a6 (s49.set ((i50 : Int)).toNat true).length n5 by simp only [List.length_set]) ?_
 have S140 : St E w137 I99 ((C138) :: (bC b1 p0 w_p0) :: (Bx b12 [(.slice a6 (s49.set ((i50 : Int)).toNat true).length n5)] 161) :: Os) := by have hq := S136; simp only [List.length_set] at hq ⊢; exact hq
 exact yb (yai [0] (ya 0 1 z (yr (yx ⟨true, (s49.set ((i50 : Int)).toNat true), I99, C138, sj R3, rfl, lr, S140.front2.front2, ho139⟩))))
 exact yl (yx ⟨s48, s49, I99, C_s49, sj R3, rfl, lr, S129, (OwnSl.mono h_s49 le)⟩)
 rintro _ w145 ⟨s141, s142, I132, C_s142, rfl, rfl, L133, S146, h_s142⟩
 exact ym (yc (yai nL2 (yap i50 z (ya 1 1 z (yr (sj R2 ▸ yx ⟨I132, C_s142, rfl, le, S146, h_s142⟩))))))
 rintro _ w147 ⟨I46, C_s49, rfl, L47, S148, h_s49⟩
 exact ye [0] (ya 0 1 z (yb (yi (yay fun _ => yab (yp (yt (yu (ym (yx ⟨(s48, s49), (sj R1).symm, I46, C_s49, rfl, le, S148, h_s49⟩)))))))))
 refine yab (yp (yt ?_))
 obtain rfl := hext18 _ (sj R1).symm
 refine yu (yc (ye nL3 (yaf 0 78 (.func (.func 116) #[] #[(Pt b1 0), (Pt b12 0)]) (have S169 := S28.front2; have hp171 := (h_s22).publish S169; bsk D fun r177 Xr172 D => yaj (grants_Held_1_ok (h_p0.mono (L20.trans (ybf I19 C_s22))) hp171 m0 m1 S169.publish Xr172) ?_))))
 rintro _ w173 ⟨I174, a_r177, c_r177, C_r177, rfl, L175, S176, h_r177⟩
 have S178 := yb0 S169 L175 S176
 have ho179 := yb2 h_r177 I19 (fun hq => hq)
 refine cv ?_
 obtain ⟨I180, L181, S183, hp182⟩ := yah ho179 S178
 exact ya 2 1 z (yb (yq (sj D ▸ yy ⟨I180, a_r177, c_r177, rfl, le, S183.d3, hp182⟩)))
noncomputable def grants_May (p0 : qC) (p1 : By8) (p2 : Int) (p3 : By8) : Option Bool := (grants_Owns p0 p1 p3).bind (fun r12 => ((bif r12 then some true else (grants_Held p0).bind (fun r22 => (grants_has p0 r22 p1 p2 p3 false).bind (fun r28 => some r28)))).bind (fun (j13 : Bool) => some j13))
theorem grants_May_ok {p0 : qC} {p1 : By8} {p2 : Int} {p3 : By8} {w_p0 : W_qC} (h_p0 : ok_qC I p0 w_p0) (hS : St E w I Os) {r : Bool} (D : grants_May p0 p1 p2 p3 = some r) :
    Calls P 52 #[(vC p0 w_p0), (.string p1), (Iv p2), (.string p3)] w (RT E I Os (.bool r)) := by
 refine calls_W (fn := Tryz.f52) rfl rfl rfl ?_
 unfold grants_May at D
 refine ye nL2 (yaa hS (cs_qC p0 w_p0) 44 z fun b1 w4 S3 => ya 1 1 z (yb (yi (have S5 := S3.drew; ybc nL14 13 (yw (S5.rd m0) (yae S5.im)) ?_))))
 generalize World.drew _ = w6 at *
 refine y4 ((cs_qC p0 w_p0)) (rd_c m0 (S5.rd m0)) z (ya 1 2 z (bsk D fun r12 Xr7 D => yaj (grants_Owns_ok h_p0 S5 Xr7) ?_))
 rintro _ w8 ⟨I9, rfl, L10, S11⟩
 refine ⟨_, rfl, (yw (S11.rd m0) (yae (S11.im.of_le L10))), ?_⟩
 refine ya 4 1 z (bsk D fun j13 R1 D => yao (l1 := [5, 6, 7, 8, 9, 10, 11, 12]) (J := JI E I9 [(21, .bool j13)] (bC b1 p0 w_p0 :: Os)) ?_ ?_)
 refine yan R1 (fun G R1 => ?_) (fun G R1 => ?_)
 refine y7 13 G ?_
 iterate 7 refine yam ?_
 exact ya 12 1 z (sj R1 ▸ y6 ⟨I9, rfl, lr, S11⟩)
 refine y7 13 G (y4 ((cs_qC p0 w_p0)) (rd_c m0 (S11.rd m0)) z (y4 ((cs_qC p0 w_p0)) (rd_c m0 (S11.rd m0)) z (bsk R1 fun r22 Xr17 R1 => yaj (grants_Held_ok (h_p0.mono L10) S11 Xr17) ?_)))
 rintro _ w18 ⟨I19, a_r22, c_r22, rfl, L20, S21, h_r22⟩
 refine ⟨_, rfl, (yw (S21.rd m0) (yae (S21.im.of_le le))), ?_⟩
 refine ya 8 3 z (bsk R1 fun r28 Xr23 R1 => yaj (grants_has_ok (h_p0.mono le) h_r22 S21 Xr23) ?_)
 rintro _ w24 ⟨I25, rfl, L26, S27⟩
 refine ⟨_, rfl, (yw (S27.rd m0) (yae (S27.im.of_le le))), ?_⟩
 exact ya 12 1 z (sj R1 ▸ y6 ⟨I25, rfl, le, S27⟩)
 rintro _ w29 ⟨I15, rfl, L16, S30⟩
 exact WO.tail z (ya 13 1 z (yb (yq (sj D ▸ yy ⟨I15, rfl, le, S30.drop⟩))))
noncomputable def access_parents (p0 : qC) (p1 : By8) (p2 : qS) : Option Int := (forN (fun (i12 : Nat) (_s : Unit) => ((idx p2.Cons (i12 : Int)).bind (fun x24 => (bif ((x24.Kind != 3) || (sEq x24.Table p2.Table)) then some (.inl ()) else (catalog_Find p0 x24.Table).bind (fun (r39, r40) => (bif (!r40) then some (.inr 4) else (grants_May p0 p1 1 x24.Table).bind (fun r64 => (bif (!r64) then some (.inr 36) else some (.inl ())))))))).bind (fun (t : Unit ⊕ Int) => match t with | (.inl ()) => some (.inl ()) | (.inr s48) => some (.inr s48))) p2.Cons.length 0 ()).bind (fun (t : Unit ⊕ (Int)) => match t with | .inl _ => some 0 | .inr s50 => some s50)
theorem access_parents_ok {p0 : qC} {p1 : By8} {p2 : qS} {w_p0 : W_qC} {w_p2 : W_qS} (h_p0 : ok_qC I p0 w_p0) (h_p2 : ok_qS I p2 w_p2) (hS : St E w I Os) {r : Int} (D : access_parents p0 p1 p2 = some r) :
    Calls P 19 #[(vC p0 w_p0), (.string p1), (vS p2 w_p2)] w (RT E I Os (Iv r)) := by
 refine calls_W (fn := Tryz.f19) rfl rfl rfl ?_
 unfold access_parents at D
 refine ye nL3 (yaa hS (cs_qC p0 w_p0) 44 z fun b1 w4 S3 => yaa S3 (cs_qS p2 w_p2) 36 z fun b5 w8 S7 => ya 2 1 z (yb (yi (ye nL4 (yh 0 1 [5] z (yj (S7.rf m0) z (ya 2 2 z (yb (yo (bsk D fun t9 hloop13 D => have hlt18 := (h_p2.Cons).len_lt; W.wk (yau (m := p2.Cons.length) hloop13 (fun (i12 : Nat) (_s : Unit) => JI E I [(1, .string p1), (3, Pt b1 0), (5, Pt b5 0), (12, Sl w_p2.Cons.a p2.Cons w_p2.Cons.c), (13, Nv p2.Cons.length), (14, Nv i12)] (bC b1 p0 w_p0 :: (bS b5 p2 w_p2) :: Os)) ⟨I, rfl, lr, S7.front1⟩ ?_ ?_)))))))))))
 rintro i12 _ _ w15 hi19 ⟨I10, rfl, L11, S16⟩ x17 R1 hext9
 refine ye [0] (ya 0 1 z (yb (yi (yax fun _ => yl (yc (yi (bsk R1 fun j20 R2 R1 => ya0 (J := (fun fr w => ∃ I22, (.inl ()) = j20 ∧ fr = [(1, .string p1), (3, Pt b1 0), (5, Pt b5 0), (12, Sl w_p2.Cons.a p2.Cons w_p2.Cons.c), (13, Nv p2.Cons.length), (14, Nv i12)] ∧ I10.Le I22 ∧ St E w I22 (bC b1 p0 w_p0 :: (bS b5 p2 w_p2) :: Os))) ?_ ?_)))))))
 refine yo (ye nL4 ?_)
 obtain ⟨x24, R2, Hx24, _, ⟨w_x24, rfl, h_x24⟩, Zx24⟩ := sx I10 h_p2.Cons R2
 refine yac 59 12 Hx24 z (yat ((cs_qK x24 w_x24)) Zx24 0 S16.rm z (yaa S16 (cs_qK z_qK zw_qK) 59 z fun b25 w28 S27 => yad S27 0 (cs_qK x24 w_x24) fun w30 S29 => yb (yi (ye nL10 (yh 0 1 [1] z (yj (S29.rf m0) z (ya 2 2 z (ya7 [4, 5, 6, 7, 8] 9 21 27 (.refl ((x24.Kind != 3) || (sEq x24.Table p2.Table))) (fun _ => yh 4 1 [10] z (yj (S29.rf m0) z (yh 6 1 [1] z (yj (S29.rf m2) z (ya 8 2 z yal))))) (yb (y3 R2 (fun G R2 => ?_) (fun G R2 => ?_)))))))))))
 exact yab (yp (yu (yx ⟨I10, sj R2, rfl, lr, S29.drop⟩)))
 refine yl (yc (yi (ye nL10 (y4 ((cs_qC p0 w_p0)) (S29.rf m1) z (yh 1 1 [10] z (yj (S29.rf m0) z ?_))))))
 obtain ⟨⟨r39, r40⟩, Xr34, R2⟩ := bsm R2
 refine yaj (catalog_Find_ok (h_p0.mono L11) S29 Xr34) ?_
 rintro _ w35 ⟨I36, w_r39, rfl, L37, S38, h_r39⟩
 refine cv (ya 4 3 z (yaa S38 (cs_qT z_qT zw_qT) 52 z fun b41 w44 S43 => yad S43 0 (cs_qT r39 w_r39) fun w46 S45 => ya 9 1 z (y8 nL2 (ya 0 2 z (yb (y3 R2 (fun G R2 => ?_) (fun G R2 => ?_)))))))
 refine ye [0] (ya 0 1 z (yb (yq (yf (yn (yv ?_))))))
 obtain rfl := sj R2
 refine yf (yv ?_)
 obtain rfl := hext9 _ (sj R1).symm
 exact yn (yf (sj D ▸ yy ⟨I36, rfl, le, S45.d4⟩))
 refine yl (yc (ye nL6 (y4 ((cs_qC p0 w_p0)) (S45.rf m2) z (yh 1 2 [10] z (yj (S45.rf m1) z (bsk R2 fun r64 Xr59 R2 => WO.c1 (grants_May_ok (h_p0.mono le) S45 Xr59) z fun I61 w60 L62 S63 => ya 5 1 z (yb (y3 R2 (fun G R2 => ?_) (fun G R2 => ?_)))))))))
 refine ye [0] (ya 0 1 z (yb (yq (yn (yv ?_)))))
 obtain rfl := sj R2
 refine yf (yv ?_)
 obtain rfl := hext9 _ (sj R1).symm
 exact yn (yf (sj D ▸ yy ⟨I61, rfl, le, S63.d4⟩))
 exact yl (ym (yx ⟨I61, sj R2, rfl, le, S63.d2⟩))
 rintro _ w71 ⟨I22, rfl, rfl, L23, S72⟩
 exact yc (yai nL2 (yap i12 z (ya 1 1 z (yr (yx ⟨(), (sj R1).symm, I22, rfl, le, S72⟩)))))
 rintro _ _ w73 ⟨I10, rfl, L11, S74⟩ he
 cases he
 exact ye [0] (ya 0 1 z (yb (yi (yay fun _ => yab (yp (yt (yu (yc (ye [0] (ya 0 1 z (yb (yq (sj D ▸ yy ⟨I10, rfl, L11, S74.d2⟩)))))))))))))
def access_priv (p0 : Int) : Option Int := (bif (p0 == 16) then some 2 else (bif (p0 == 17) then some 3 else (bif (p0 == 18) then some 4 else some 1)))
theorem access_priv_ok {p0 : Int} (hS : St E w I Os) {r : Int} (D : access_priv p0 = some r) :
    Calls P 57 #[(Iv p0)] w (RT E I Os (Iv r)) := by
 refine calls_W (fn := Tryz.f57) rfl rfl rfl ?_
 unfold access_priv at D
 refine ye [0] (ya 0 1 z (yb (yi (ye [0] (ya 0 1 z (yb (yo (ye nL2 (ya 0 2 z (yb (y3 D (fun G D => ?_) (fun G D => ?_))))))))))))
 exact ye [0] (ya 0 1 z (yb (yq (yn (yf (sj D ▸ yy ⟨I, rfl, lr, hS⟩))))))
 refine ye nL2 (ya 0 2 z (yb (y3 D (fun G D => ?_) (fun G D => ?_))))
 exact ye [0] (ya 0 1 z (yb (yq (yn (yf (sj D ▸ yy ⟨I, rfl, lr, hS⟩))))))
 refine ye nL2 (ya 0 2 z (yb (y3 D (fun G D => ?_) (fun G D => ?_))))
 exact ye [0] (ya 0 1 z (yb (yq (yn (yf (sj D ▸ yy ⟨I, rfl, lr, hS⟩))))))
 exact yl (ym (yc (ye [0] (ya 0 1 z (yb (yq (sj D ▸ yy ⟨I, rfl, lr, hS⟩)))))))
def eachS_fu {σ : Type} : Nat → qE → σ → (σ → qE → Option (Bool × σ)) → Option (Bool × σ)
  | 0, _, _, _ => none
  | fu + 1, p0, s, p1 => (p1 s p0).bind (fun (r10 : Bool × σ) => (bif (!r10.1) then some (false, r10.2) else (forN (fun (i15 : Nat) (s2 : σ) => (idx p0.Kids (i15 : Int)).bind (fun x23 => (eachS_fu fu x23 s2 p1).bind (fun (r35 : Bool × σ) => (bif (!r35.1) then some (.inr (false, r35.2)) else some (.inl r35.2))))) p0.Kids.length 0 r10.2).bind (fun (t : σ ⊕ (Bool × σ)) => match t with | .inl s4 => some (true, s4) | .inr v => some v)))
theorem eachS_fu_ok {σ : Type} {R : Mem → σ → List Mem → Prop} (mono : ∀ {I J : Mem} {s : σ} {Ms : List Mem}, R I s Ms → I.Le J → R J s Ms) : ∀ (fu : Nat) {E w : World} {I : Mem} {Os Ms : List Mem} {p0 : qE} {s : σ} {p1 : σ → qE → Option (Bool × σ)} {w_p0 : W_qE} {g_p1 : FuncId} {k_p1 : List Value} (h_p0 : ok_qE I p0 w_p0)
    (h_p1 : ∀ {F Ms : List Mem} {I' : Mem} {w : World} {u0 : qE} {w_u0 : W_qE} {s : σ}, I.Le I' → R I' s Ms → St E w I' (F ++ (Ms ++ Os)) → ok_qE I' u0 w_u0 → ∀ {r : Bool × σ}, p1 s u0 = some r → Calls P g_p1 (([(vE u0 w_u0)] : List Value) ++ k_p1).toArray w (fun e w' => ∃ (I'' : Mem) (Ms' : List Mem), e = .returned (.bool r.1) ∧ I'.Le I'' ∧ R I'' r.2 Ms' ∧ St E w' I'' (F ++ (Ms' ++ Os))))
    (hcall_p1 : Callable P g_p1) (hs : R I s Ms) (hS : St E w I (Ms ++ Os)) {r : Bool × σ} (D : eachS_fu fu p0 s p1 = some r),
    Calls P 91 #[(vE p0 w_p0), (.func (.func g_p1) #[] k_p1.toArray)] w (fun e w' => ∃ (I' : Mem) (Ms' : List Mem), e = .returned (.bool r.1) ∧ I.Le I' ∧ R I' r.2 Ms' ∧ St E w' I' (Ms' ++ Os)) := by
 intro fu
 induction fu with
 | zero => intro E w I Os Ms p0 s p1 w_p0 g_p1 k_p1 h_p0 h_p1 hcall_p1 hs hS r D; cases D
 | succ fu ih =>
 intro E w I Os Ms p0 s p1 w_p0 g_p1 k_p1 h_p0 h_p1 hcall_p1 hs hS r D
 refine calls_W (fn := Tryz.f91) rfl rfl rfl ?_
 unfold eachS_fu at D
 refine ye nL2 (yaa hS (cs_qE p0 w_p0) 31 z fun b1 w4 S3 => ya 1 1 z (yb (yi (ye nL4 (yaf 0 7 (.func (.func g_p1) #[] k_p1.toArray) (y4 ((cs_qE p0 w_p0)) (S3.rf m0) z (bsk D fun r10 Xr5 D => ybg z kr z (g := g_p1) (kk := k_p1) (args := [(vE p0 w_p0)]) z kr hcall_p1 (h_p1 (F := [bE b1 p0 w_p0]) (lr) hs S3 h_p0 Xr5) ?_)))))))
 rintro _ w6 ⟨I7, Ms7, rfl, L8, hs7, S9⟩
 refine cv (ya 3 1 z (yb (y3 D (fun G D => ?_) (fun G D => ?_))))
 obtain rfl := sj D
 have e1 : r10.1 = false := by simpa using G
 rw [e1]
 exact ye [0] (ya 0 1 z (yb (yq (yf (yy ⟨I7, Ms7, rfl, L8, hs7, S9.drop⟩)))))
 refine yl (yc (yi (ye nL4 (yh 0 1 [6] z (yj (S9.rf m0) z (ya 2 2 z (yb (yo (bsk D fun t12 hloop16 D => have hlt21 := ((RSl.mono h_p0.Kids L8)).len_lt; W.wk (yau (m := p0.Kids.length) hloop16 (fun (i15 : Nat) (s2 : σ) fr w => ∃ (I13 : Mem) (Ms13 : List Mem), fr = [(1, .func (.func g_p1) #[] k_p1.toArray), (12, Sl w_p0.Kids.a p0.Kids w_p0.Kids.c), (13, Nv p0.Kids.length), (14, Nv i15)] ∧ I7.Le I13 ∧ R I13 s2 Ms13 ∧ St E w I13 (Ms13 ++ Os)) ⟨I7, Ms7, rfl, lr, hs7, S9.drop⟩ ?_ ?_))))))))))
 rintro i15 s2 _ w18 hi22 ⟨I13, Ms13, rfl, L14, hs13, S19⟩ x20 R1 hext12
 refine ye [0] (ya 0 1 z (yb (yi (yax fun _ => yl (yc (yi (yo (ye nL4 ?_))))))))
 obtain ⟨x23, Xx23, R1⟩ := bsm R1
 obtain ⟨h0_x23, h1_x23, Xx23⟩ := idx_some Xx23
 obtain ⟨ha_x23, cs_x23, hn_x23, hr_x23, Zx23⟩ := ((RSl.mono h_p0.Kids (L8.trans L14))).el _ _ Xx23
 obtain ⟨w_x23, rfl, h_x23⟩ := Q_qE_iff.1 hr_x23
 refine ya5 31 7 ha_x23 h0_x23 h1_x23 ?_
 refine yat ((cs_qE x23 w_x23)) Zx23 0 S19.rm z (yaa S19 (cs_qE z_qE zw_qE) 31 z fun b24 w27 S26 => yad S26 0 (cs_qE x23 w_x23) fun w29 S28 => y8 nL4 (y4 ((cs_qE x23 w_x23)) (S28.rf m0) z (yaf 1 19 (.func (.func g_p1) #[] k_p1.toArray) ?_)))
 obtain ⟨r35, Xr30, R1⟩ := bsm R1
 have S28' : St E w29 I13 (Ms13 ++ (bE b24 x23 w_x23 :: Os)) := S28.perm (List.perm_middle.symm)
 have hc' := ih (Os := bE b24 x23 w_x23 :: Os) h_x23 (fun {F Msc Ic wc} {_} {_} {sc} hlc hRc hSc h_u0 {rc} hrc => by
  have h2 : St E wc Ic ((F ++ [bE b24 x23 w_x23]) ++ (Msc ++ Os)) := hSc.perm (by simp only [List.append_assoc, List.cons_append, List.nil_append]; exact List.Perm.append_left _ List.perm_middle)
  refine (h_p1 (F := F ++ [bE b24 x23 w_x23]) le hRc h2 h_u0 hrc).mono ?_
  rintro e w' ⟨I'', Ms', e1, e2, e3, e4⟩
  exact ⟨I'', Ms', e1, e2, e3, e4.perm (by simp only [List.append_assoc, List.cons_append, List.nil_append]; exact List.Perm.append_left _ List.perm_middle.symm)⟩) hcall_p1 hs13 S28' Xr30
 refine yaj hc' ?_
 rintro _ w31 ⟨I32, Ms32, rfl, L33, hs32, S34⟩
 have S34' : St E w31 I32 (bE b24 x23 w_x23 :: (Ms32 ++ Os)) := S34.perm List.perm_middle
 refine cv (ya 3 1 z (yb (y3 R1 (fun G R1 => ?_) (fun G R1 => ?_))))
 refine ye [0] (ya 0 1 z (yb (yq (yn (yf (yv ?_))))))
 obtain rfl := hext12 _ (sj R1).symm
 exact sj D ▸ yn (yf (yy ⟨I32, Ms32, rfl, le, hs32, S34'.drop⟩))
 exact yl (ym (yc (yai nL2 (yap i15 z (ya 1 1 z (yr (yx ⟨r35.2, (sj R1).symm, I32, Ms32, rfl, le, hs32, S34'.drop⟩)))))))
 rintro s4 _ w41 ⟨I13, Ms13, rfl, L14, hs13, S42⟩ he
 cases he
 exact sj D ▸ ye [0] (ya 0 1 z (yb (yi (yay fun _ => yab (yp (yt (yu (yc (ye [0] (ya 0 1 z (yb (yq (yy ⟨I13, Ms13, rfl, le, hs13, S42⟩)))))))))))))
def nmS (s : List By8) (p0 : qE) : Option (Bool × List By8) :=
  ((bif (p0.Kind == 2) then (slices_Contains_string s p0.Name).bind (fun (r : Bool) => some (!r)) else some false)).bind (fun (j : Bool) => ((bif j then (app 16 s ([p0.Name] : List By8)).bind (fun x => some x) else some s)).bind (fun (s' : List By8) => some (true, s')))
def RN (kb : Nat) (I : Mem) (s : List By8) (Ms : List Mem) : Prop := ∃ a c C, Ms = [Bx kb [.slice a s.length c] 25, C] ∧ OwnSl 9 1 RStr I C a c s
theorem RN.mono {kb : Nat} {I J : Mem} {s : List By8} {Ms : List Mem} (h : RN kb I s Ms) (hl : I.Le J) : RN kb J s Ms := by
  obtain ⟨a, c, C, e, ho⟩ := h
  exact ⟨a, c, C, e, ho.mono hl⟩
theorem nm_ok {E w : World} {I : Mem} {F Os Ms : List Mem} {p0 : qE} {w_p0 : W_qE} {s : List By8} {kb : Nat} (h_p0 : ok_qE I p0 w_p0) (hs : RN kb I s Ms) (hS : St E w I (F ++ (Ms ++ Os))) {r : Bool × List By8} (D : nmS s p0 = some r) :
    Calls P 92 #[(vE p0 w_p0), Pt kb 0] w (fun e w' => ∃ (I'' : Mem) (Ms' : List Mem), e = .returned (.bool r.1) ∧ I.Le I'' ∧ RN kb I'' r.2 Ms' ∧ St E w' I'' (F ++ (Ms' ++ Os))) := by
 obtain ⟨a, c, C, rfl, ho⟩ := hs
 have S0 : St E w I (Bx kb [.slice a s.length c] 25 :: C :: (F ++ Os)) := hS.perm (by
  simp only [List.cons_append, List.nil_append]
  exact List.perm_middle.trans (List.Perm.cons _ List.perm_middle))
 have fin : ∀ {I' C' : Mem} {a' : Option Addr} {c' : Nat} {s' : List By8} {w' : World}, I.Le I' → OwnSl 9 1 RStr I' C' a' c' s' → St E w' I' (Bx kb [.slice a' s'.length c'] 25 :: C' :: (F ++ Os)) → ∃ (I'' : Mem) (Ms' : List Mem), Ending.returned (.bool true) = .returned (.bool true) ∧ I.Le I'' ∧ RN kb I'' s' Ms' ∧ St E w' I'' (F ++ (Ms' ++ Os)) := by
  intro I' C' a' c' s' w' hl ho' hS'
  refine ⟨I', _, rfl, hl, ⟨a', c', C', rfl, ho'⟩, hS'.perm ?_⟩
  simp only [List.cons_append, List.nil_append]
  exact ((List.Perm.cons _ List.perm_middle.symm).trans List.perm_middle.symm)
 refine calls_W (fn := Tryz.f92) rfl rfl rfl ?_
 unfold nmS at D
 refine ye nL2 (yaa S0 (cs_qE p0 w_p0) 31 z fun b2 w2 S2 => ya 1 1 z (yb (yi (ye nL10 (yh 0 1 [0] z (yj (S2.rf m0) z (ya 2 2 z ?_)))))))
 refine bsk D fun j R1 D => yao (l1 := [4, 5, 6, 7, 8, 9]) (J := JI E I [(1, Pt kb 0), (2, Pt b2 0), (13, .bool j)] (bE b2 p0 w_p0 :: Bx kb [.slice a s.length c] 25 :: C :: (F ++ Os))) ?_ ?_
 refine yan R1 (fun G R1 => ?_) (fun G R1 => ?_)
 refine y7 7 G (yj (S2.rf m1) z (yh 5 1 [5] z (yj (S2.rf m0) z ?_)))
 exact bsk R1 fun r1 hx R1 => have h0 := S2.front2; WO.c1 (slices_Contains_string_ok (ho.publish h0) h0.publish hx) z fun I9 w9 L9 S9 => have hB := St.back h0 L9 S9; sj R1 ▸ ya 8 2 z (y6 ⟨I, rfl, lr, hB.perm ((List.Perm.swap ..).trans (List.Perm.cons _ (List.Perm.swap ..)))⟩)
 refine y7 7 G ?_
 iterate 5 refine yam ?_
 exact sj R1 ▸ yaf 9 13 (.bool false) (y6 ⟨I, rfl, lr, S2⟩)
 rintro _ w3 ⟨I3, rfl, L3, S3⟩
 obtain ⟨s', R2, D⟩ := bsm D
 obtain rfl := sj D
 refine yb (y3 R2 (fun G R2 => ?_) (fun G R2 => ?_))
 refine yai nL6 (yj (S3.rf m1) z (yh 1 1 [5] z (yj (S3.rf m0) z (yag (rel := RStr) (xs := ([p0.Name] : List By8)) S3 z kr z 9 1 [[(.string p0.Name)]] kr z ((Elr.cons z Elr.nil)) tv ?_))))
 intro a6 C6 w6 S6 ho6
 have S7 := S6.front3
 obtain ⟨x, hx, R2⟩ := bsm R2
 obtain rfl := sj R2
 refine ya2 9 16 [(.string eB)] S7 (ho.mono L3) ho6.sl (S7.rd m1) (app_some hx).1 (app_some hx).2 z fun a9 c9 w9 C9 S9 ho9 => ?_
 refine yad S9.front3 0 [.slice a9 x.length c9] fun w11 S11 => ?_
 exact yr (yc (ye [0] (ya 0 1 z (yb (yq (yy (fin L3 ho9 (S11.front1.front2.drop.front2.drop.perm (List.Perm.swap ..)))))))))
 exact sj R2 ▸ yl (yc (ye [0] (ya 0 1 z (yb (yq (yy (fin L3 (ho.mono L3) S3.drop)))))))
noncomputable def expr_Names (p0 : qE) : Option (List By8) := (anyFuel (fun fu => eachS_fu fu p0 ([] : List By8) nmS)).bind (fun r => some r.2)
theorem expr_Names_ok {p0 : qE} {w_p0 : W_qE} (h_p0 : ok_qE I p0 w_p0) (hS : St E w I Os) {r : List By8} (D : expr_Names p0 = some r) :
    Calls P 61 #[(vE p0 w_p0)] w (fun e w' => ∃ (I' : Mem) (ra0 : Option Addr) (rc0 : Nat) (rC0 : Mem), e = .returned (Sl ra0 r rc0) ∧ I.Le I' ∧ St E w' I' (rC0 :: Os) ∧ OwnSl 9 1 RStr I' rC0 ra0 rc0 r) := by
 refine calls_W (fn := Tryz.f61) rfl rfl rfl ?_
 unfold expr_Names at D
 obtain ⟨r1, hx, D⟩ := bsm D
 obtain rfl := sj D
 obtain ⟨fu, hx⟩ := anyFuel_some hx
 refine ye nL2 (yaa hS (cs_qE p0 w_p0) 31 z fun b1 w1 S1 => yaf 1 2 (.slice none 0 0) (y8 [0] (yaa S1 [.slice none 0 0] 25 z fun b3 w3 S3 => y8 nL3 (y4 (cs_qE p0 w_p0) (S3.rf m1) z (yaf 1 5 (.func (.func 92) #[] #[Pt b3 0]) ?_)))))
 have S4 : St E w3 I ([Bx b3 [.slice none 0 0] 25, Mem.no] ++ (bE b1 p0 w_p0 :: Os)) := S3.no.front1
 have hR : RN b3 I [] [Bx b3 [.slice none 0 0] 25, Mem.no] := ⟨none, 0, Mem.no, rfl, OwnSl.nil⟩
 refine yaj (eachS_fu_ok (R := RN b3) (k_p1 := [Pt b3 0]) RN.mono fu h_p0 (fun {F Msc Ic wc} {_} {_} {sc} hl hR' hS' h_u {rc} hrc => nm_ok h_u hR' hS' hrc) (fun _ _ => by kernel_rfl) hR S4 hx) ?_
 rintro _ w5 ⟨I5, Ms5, rfl, L5, ⟨a, c, C, rfl, ho⟩, S5⟩
 have S6 : St E w5 I5 (Bx b3 [.slice a r1.2.length c] 25 :: C :: bE b1 p0 w_p0 :: Os) := S5
 exact cv (y8 nL2 (yj (S6.rf m0) z (ya 1 1 z (yb (yq (yy ⟨I5, a, c, C, rfl, L5, (S6.drop.front1).drop, ho⟩))))))
noncomputable def access_names (p0 : qE) : Option Bool := (expr_Names p0).bind (fun r10 => some (decide ((r10.length : Int) > 0)))
theorem access_names_ok {p0 : qE} {w_p0 : W_qE} (h_p0 : ok_qE I p0 w_p0) (hS : St E w I Os) {r : Bool} (D : access_names p0 = some r) :
    Calls P 28 #[(vE p0 w_p0)] w (RT E I Os (.bool r)) := by
 refine calls_W (fn := Tryz.f28) rfl rfl rfl ?_
 unfold access_names at D
 refine ye nL2 (yaa hS (cs_qE p0 w_p0) 31 z fun b1 w4 S3 => ya 1 1 z (y8 nL5 (y4 ((cs_qE p0 w_p0)) (S3.rf m0) z (bsk D fun r10 Xr5 D => yaj (expr_Names_ok h_p0 S3 Xr5) ?_))))
 rintro _ w6 ⟨I7, a_r10, c_r10, C_r10, rfl, L8, S9, h_r10⟩
 exact cv (ya 2 3 z (yb (yq (sj D ▸ yy ⟨I7, rfl, L8, S9.d2⟩))))
def slices_IndexFunc_qSet (p0 : List qSet) (p1 : qSet → Option Bool) : Option Int := (forN (fun (i4 : Nat) (_s : Unit) => (idx p0 (i4 : Int)).bind (fun x11 => (p1 x11).bind (fun (r17 : Bool) => (bif r17 then some (.inr (i4 : Int)) else some (.inl ()))))) p0.length 0 ()).bind (fun (t : Unit ⊕ (Int)) => match t with | .inl _ => some (-1) | .inr s19 => some s19)
theorem slices_IndexFunc_qSet_ok {p0 : List qSet} {p1 : qSet → Option Bool} {a_p0 : Option Addr} {c_p0 : Nat} {g_p1 : FuncId} {k_p1 : List Value} (h_p0 : RSl 8 R_qSet I a_p0 c_p0 p0) (h_p1 : ∀ {F : List Mem} {I' : Mem} {w : World} {u0 : qSet} {w_u0 : W_qSet}, I.Le I' → St E w I' (F ++ Os) → ok_qSet I' u0 w_u0 → ∀ {r : Bool}, p1 u0 = some r → Calls P g_p1 (([(.agg (cs_qSet u0 w_u0).toArray)] : List Value) ++ k_p1).toArray w (fun e w' => ∃ (I'' : Mem), e = .returned (.bool r) ∧ I'.Le I'' ∧ St E w' I'' (F ++ Os))) (hcall_p1 : Callable P g_p1) (hS : St E w I Os) {r : Int} (D : slices_IndexFunc_qSet p0 p1 = some r) :
    Calls P 62 #[(Sl a_p0 p0 c_p0), (.func (.func g_p1) #[] k_p1.toArray)] w (RT E I Os (Iv r)) := by
 refine calls_W (fn := Tryz.f62) rfl rfl rfl ?_
 unfold slices_IndexFunc_qSet at D
 refine ye [0] (ya 0 1 z (yb (yi (ye nL3 (ya 0 3 z (yb (yo (bsk D fun t1 hloop5 D => have hlt9 := (h_p0).len_lt; W.wk (yau (m := p0.length) hloop5 (fun (i4 : Nat) (_s : Unit) => JI E I [(0, Sl a_p0 p0 c_p0), (1, .func (.func g_p1) #[] k_p1.toArray), (7, Nv p0.length), (8, Nv i4)] Os) ⟨I, rfl, lr, hS⟩ ?_ ?_)))))))))
 rintro i4 _ _ w6 hi10 ⟨I2, rfl, L3, S7⟩ x8 R1 hext1
 refine ye [0] (ya 0 1 z (yb (yi (yax fun _ => yl (yc (yi (yo (ye nL2 (ya 0 2 z (y8 nL6 (yaf 0 11 (.func (.func g_p1) #[] k_p1.toArray) (ya 1 2 z ?_))))))))))))
 obtain ⟨x11, R1, Hx11, _, ⟨w_x11, rfl, h_x11⟩, Zx11⟩ := sx I2 h_p0 R1
 refine yac 61 8 Hx11 z (yat ((cs_qSet x11 w_x11)) Zx11 0 S7.rm z (bsk R1 fun r17 Xr12 R1 => ybg z kr z (g := g_p1) (kk := k_p1) (args := [(.agg (cs_qSet x11 w_x11).toArray)]) z kr hcall_p1 (h_p1 (F := []) L3 S7 h_x11 Xr12) ?_))
 rintro _ w13 ⟨I14, rfl, L15, S16⟩
 refine cv (yb (y3 R1 (fun G R1 => ?_) (fun G R1 => ?_)))
 refine ye nL2 (ya 0 2 z (yb (yq (yn (yf (yv ?_))))))
 obtain rfl := hext1 _ (sj R1).symm
 exact yn (yf (sj D ▸ yy ⟨I14, rfl, le, S16⟩))
 exact yl (ym (yc (yai nL2 (yap i4 z (ya 1 1 z (yr (yx ⟨(), (sj R1).symm, I14, rfl, le, S16⟩)))))))
 rintro _ _ w20 ⟨I2, rfl, L3, S21⟩ he
 cases he
 exact ye [0] (ya 0 1 z (yb (yi (yay fun _ => yab (yp (yt (yu (yc (ye [0] (ya 0 1 z (yb (yq (sj D ▸ yy ⟨I2, rfl, L3, S21⟩)))))))))))))
def slices_ContainsFunc_qSet (p0 : List qSet) (p1 : qSet → Option Bool) : Option Bool := (slices_IndexFunc_qSet p0 p1).bind (fun r6 => some (decide (r6 ≥ 0)))
theorem slices_ContainsFunc_qSet_ok {p0 : List qSet} {p1 : qSet → Option Bool} {a_p0 : Option Addr} {c_p0 : Nat} {g_p1 : FuncId} {k_p1 : List Value} (h_p0 : RSl 8 R_qSet I a_p0 c_p0 p0) (h_p1 : ∀ {F : List Mem} {I' : Mem} {w : World} {u0 : qSet} {w_u0 : W_qSet}, I.Le I' → St E w I' (F ++ Os) → ok_qSet I' u0 w_u0 → ∀ {r : Bool}, p1 u0 = some r → Calls P g_p1 (([(.agg (cs_qSet u0 w_u0).toArray)] : List Value) ++ k_p1).toArray w (fun e w' => ∃ (I'' : Mem), e = .returned (.bool r) ∧ I'.Le I'' ∧ St E w' I'' (F ++ Os))) (hcall_p1 : Callable P g_p1) (hS : St E w I Os) {r : Bool} (D : slices_ContainsFunc_qSet p0 p1 = some r) :
    Calls P 29 #[(Sl a_p0 p0 c_p0), (.func (.func g_p1) #[] k_p1.toArray)] w (RT E I Os (.bool r)) := by
 refine calls_W (fn := Tryz.f29) rfl rfl rfl ?_
 unfold slices_ContainsFunc_qSet at D
 exact ye [0] (ya 0 1 z (y8 nL5 (ya 0 1 z (yaf 1 6 (.func (.func g_p1) #[] k_p1.toArray) (bsk D fun r6 Xr1 D => WO.c1 (slices_IndexFunc_qSet_ok h_p0 (fun {F Ic wc} {_} {_} hlc hSc h_u0 {rc} hrc => h_p1 hlc hSc h_u0 hrc) hcall_p1 hS Xr1) z fun I3 w2 L4 S5 => ya 3 2 z (yb (yq (sj D ▸ yy ⟨I3, rfl, L4, S5⟩))))))))
noncomputable def access_Reads_1 (p0 : qSet) : Option Bool := (access_names p0.E).bind (fun r10 => some r10)
theorem access_Reads_1_ok {p0 : qSet} {w_p0 : W_qSet} (h_p0 : ok_qSet I p0 w_p0) (hS : St E w I Os) {r : Bool} (D : access_Reads_1 p0 = some r) :
    Calls P 30 #[(.agg (cs_qSet p0 w_p0).toArray)] w (RT E I Os (.bool r)) := by
 refine calls_W (fn := Tryz.f30) rfl rfl rfl ?_
 unfold access_Reads_1 at D
 exact ye nL2 (yaa hS (cs_qSet p0 w_p0) 61 z fun b1 w4 S3 => ya 1 1 z (y8 nL4 (yh 0 1 [1] z (y4 ((cs_qE p0.E w_p0.E)) (S3.rf m0) z (bsk D fun r10 Xr5 D => WO.c1 (access_names_ok h_p0.E S3 Xr5) z fun I7 w6 L8 S9 => ya 3 1 z (yb (yq (sj D ▸ yy ⟨I7, rfl, L8, S9.drop⟩))))))))
def slices_IndexFunc_qO (p0 : List qO) (p1 : qO → Option Bool) : Option Int := (forN (fun (i4 : Nat) (_s : Unit) => (idx p0 (i4 : Int)).bind (fun x11 => (p1 x11).bind (fun (r17 : Bool) => (bif r17 then some (.inr (i4 : Int)) else some (.inl ()))))) p0.length 0 ()).bind (fun (t : Unit ⊕ (Int)) => match t with | .inl _ => some (-1) | .inr s19 => some s19)
theorem slices_IndexFunc_qO_ok {p0 : List qO} {p1 : qO → Option Bool} {a_p0 : Option Addr} {c_p0 : Nat} {g_p1 : FuncId} {k_p1 : List Value} (h_p0 : RSl 8 R_qO I a_p0 c_p0 p0) (h_p1 : ∀ {F : List Mem} {I' : Mem} {w : World} {u0 : qO} {w_u0 : W_qO}, I.Le I' → St E w I' (F ++ Os) → ok_qO I' u0 w_u0 → ∀ {r : Bool}, p1 u0 = some r → Calls P g_p1 (([(vO u0 w_u0)] : List Value) ++ k_p1).toArray w (fun e w' => ∃ (I'' : Mem), e = .returned (.bool r) ∧ I'.Le I'' ∧ St E w' I'' (F ++ Os))) (hcall_p1 : Callable P g_p1) (hS : St E w I Os) {r : Int} (D : slices_IndexFunc_qO p0 p1 = some r) :
    Calls P 63 #[(Sl a_p0 p0 c_p0), (.func (.func g_p1) #[] k_p1.toArray)] w (RT E I Os (Iv r)) := by
 refine calls_W (fn := Tryz.f63) rfl rfl rfl ?_
 unfold slices_IndexFunc_qO at D
 refine ye [0] (ya 0 1 z (yb (yi (ye nL3 (ya 0 3 z (yb (yo (bsk D fun t1 hloop5 D => have hlt9 := (h_p0).len_lt; W.wk (yau (m := p0.length) hloop5 (fun (i4 : Nat) (_s : Unit) => JI E I [(0, Sl a_p0 p0 c_p0), (1, .func (.func g_p1) #[] k_p1.toArray), (7, Nv p0.length), (8, Nv i4)] Os) ⟨I, rfl, lr, hS⟩ ?_ ?_)))))))))
 rintro i4 _ _ w6 hi10 ⟨I2, rfl, L3, S7⟩ x8 R1 hext1
 refine ye [0] (ya 0 1 z (yb (yi (yax fun _ => yl (yc (yi (yo (ye nL2 (ya 0 2 z (y8 nL6 (yaf 0 11 (.func (.func g_p1) #[] k_p1.toArray) (ya 1 2 z ?_))))))))))))
 obtain ⟨x11, R1, Hx11, _, ⟨w_x11, rfl, h_x11⟩, Zx11⟩ := sx I2 h_p0 R1
 refine yac 63 8 Hx11 z (yat ((cs_qO x11 w_x11)) Zx11 0 S7.rm z (bsk R1 fun r17 Xr12 R1 => ybg z kr z (g := g_p1) (kk := k_p1) (args := [(vO x11 w_x11)]) z kr hcall_p1 (h_p1 (F := []) L3 S7 h_x11 Xr12) ?_))
 rintro _ w13 ⟨I14, rfl, L15, S16⟩
 refine cv (yb (y3 R1 (fun G R1 => ?_) (fun G R1 => ?_)))
 refine ye nL2 (ya 0 2 z (yb (yq (yn (yf (yv ?_))))))
 obtain rfl := hext1 _ (sj R1).symm
 exact yn (yf (sj D ▸ yy ⟨I14, rfl, le, S16⟩))
 exact yl (ym (yc (yai nL2 (yap i4 z (ya 1 1 z (yr (yx ⟨(), (sj R1).symm, I14, rfl, le, S16⟩)))))))
 rintro _ _ w20 ⟨I2, rfl, L3, S21⟩ he
 cases he
 exact ye [0] (ya 0 1 z (yb (yi (yay fun _ => yab (yp (yt (yu (yc (ye [0] (ya 0 1 z (yb (yq (sj D ▸ yy ⟨I2, rfl, L3, S21⟩)))))))))))))
def slices_ContainsFunc_qO (p0 : List qO) (p1 : qO → Option Bool) : Option Bool := (slices_IndexFunc_qO p0 p1).bind (fun r6 => some (decide (r6 ≥ 0)))
theorem slices_ContainsFunc_qO_ok {p0 : List qO} {p1 : qO → Option Bool} {a_p0 : Option Addr} {c_p0 : Nat} {g_p1 : FuncId} {k_p1 : List Value} (h_p0 : RSl 8 R_qO I a_p0 c_p0 p0) (h_p1 : ∀ {F : List Mem} {I' : Mem} {w : World} {u0 : qO} {w_u0 : W_qO}, I.Le I' → St E w I' (F ++ Os) → ok_qO I' u0 w_u0 → ∀ {r : Bool}, p1 u0 = some r → Calls P g_p1 (([(vO u0 w_u0)] : List Value) ++ k_p1).toArray w (fun e w' => ∃ (I'' : Mem), e = .returned (.bool r) ∧ I'.Le I'' ∧ St E w' I'' (F ++ Os))) (hcall_p1 : Callable P g_p1) (hS : St E w I Os) {r : Bool} (D : slices_ContainsFunc_qO p0 p1 = some r) :
    Calls P 31 #[(Sl a_p0 p0 c_p0), (.func (.func g_p1) #[] k_p1.toArray)] w (RT E I Os (.bool r)) := by
 refine calls_W (fn := Tryz.f31) rfl rfl rfl ?_
 unfold slices_ContainsFunc_qO at D
 exact ye [0] (ya 0 1 z (y8 nL5 (ya 0 1 z (yaf 1 6 (.func (.func g_p1) #[] k_p1.toArray) (bsk D fun r6 Xr1 D => WO.c1 (slices_IndexFunc_qO_ok h_p0 (fun {F Ic wc} {_} {_} hlc hSc h_u0 {rc} hrc => h_p1 hlc hSc h_u0 hrc) hcall_p1 hS Xr1) z fun I3 w2 L4 S5 => ya 3 2 z (yb (yq (sj D ▸ yy ⟨I3, rfl, L4, S5⟩))))))))
noncomputable def access_Reads_2 (p0 : qO) : Option Bool := (access_names p0.E).bind (fun r10 => some r10)
theorem access_Reads_2_ok {p0 : qO} {w_p0 : W_qO} (h_p0 : ok_qO I p0 w_p0) (hS : St E w I Os) {r : Bool} (D : access_Reads_2 p0 = some r) :
    Calls P 32 #[(vO p0 w_p0)] w (RT E I Os (.bool r)) := by
 refine calls_W (fn := Tryz.f32) rfl rfl rfl ?_
 unfold access_Reads_2 at D
 exact ye nL2 (yaa hS (cs_qO p0 w_p0) 63 z fun b1 w4 S3 => ya 1 1 z (y8 nL4 (yh 0 1 [0] z (y4 ((cs_qE p0.E w_p0.E)) (S3.rf m0) z (bsk D fun r10 Xr5 D => WO.c1 (access_names_ok h_p0.E S3 Xr5) z fun I7 w6 L8 S9 => ya 3 1 z (yb (yq (sj D ▸ yy ⟨I7, rfl, L8, S9.drop⟩))))))))
def slices_IndexFunc_qE_l (p0 : List (List qE)) (p1 : (List qE) → Option Bool) : Option Int := (forN (fun (i4 : Nat) (_s : Unit) => (idx p0 (i4 : Int)).bind (fun x11 => (p1 x11).bind (fun (r17 : Bool) => (bif r17 then some (.inr (i4 : Int)) else some (.inl ()))))) p0.length 0 ()).bind (fun (t : Unit ⊕ (Int)) => match t with | .inl _ => some (-1) | .inr s19 => some s19)
theorem slices_IndexFunc_qE_l_ok {p0 : List (List qE)} {p1 : (List qE) → Option Bool} {a_p0 : Option Addr} {c_p0 : Nat} {g_p1 : FuncId} {k_p1 : List Value} (h_p0 : RSl 1 (RSlC 7 Q_qE) I a_p0 c_p0 p0) (h_p1 : ∀ {F : List Mem} {I' : Mem} {w : World} {u0 : List qE} {a_u0 : Option Addr} {c_u0 : Nat}, I.Le I' → St E w I' (F ++ Os) → RSl 7 Q_qE I' a_u0 c_u0 u0 → ∀ {r : Bool}, p1 u0 = some r → Calls P g_p1 (([(Sl a_u0 u0 c_u0)] : List Value) ++ k_p1).toArray w (fun e w' => ∃ (I'' : Mem), e = .returned (.bool r) ∧ I'.Le I'' ∧ St E w' I'' (F ++ Os))) (hcall_p1 : Callable P g_p1) (hS : St E w I Os) {r : Int} (D : slices_IndexFunc_qE_l p0 p1 = some r) :
    Calls P 64 #[(Sl a_p0 p0 c_p0), (.func (.func g_p1) #[] k_p1.toArray)] w (RT E I Os (Iv r)) := by
 refine calls_W (fn := Tryz.f64) rfl rfl rfl ?_
 unfold slices_IndexFunc_qE_l at D
 refine ye [0] (ya 0 1 z (yb (yi (ye nL3 (ya 0 3 z (yb (yo (bsk D fun t1 hloop5 D => have hlt9 := (h_p0).len_lt; W.wk (yau (m := p0.length) hloop5 (fun (i4 : Nat) (_s : Unit) => JI E I [(0, Sl a_p0 p0 c_p0), (1, .func (.func g_p1) #[] k_p1.toArray), (7, Nv p0.length), (8, Nv i4)] Os) ⟨I, rfl, lr, hS⟩ ?_ ?_)))))))))
 rintro i4 _ _ w6 hi10 ⟨I2, rfl, L3, S7⟩ x8 R1 hext1
 refine ye [0] (ya 0 1 z (yb (yi (yax fun _ => yl (yc (yi (yo (ye nL2 (ya 0 2 z (y8 nL6 (yaf 0 11 (.func (.func g_p1) #[] k_p1.toArray) (ya 1 2 z ?_))))))))))))
 obtain ⟨x11, Xx11, R1⟩ := bsm R1
 obtain ⟨h0_x11, h1_x11, Xx11⟩ := idx_some Xx11
 obtain ⟨ha_x11, cs_x11, hn_x11, hr_x11, Zx11⟩ := ((RSl.mono h_p0 L3)).el _ _ Xx11
 obtain ⟨a_x11, c_x11, rfl, h_x11⟩ := hr_x11
 refine ya5 29 1 ha_x11 h0_x11 h1_x11 ?_
 refine yar Zx11 S7.rm z (bsk R1 fun r17 Xr12 R1 => ybg z kr z (g := g_p1) (kk := k_p1) (args := [(Sl a_x11 x11 c_x11)]) z kr hcall_p1 (h_p1 (F := []) L3 S7 h_x11 Xr12) ?_)
 rintro _ w13 ⟨I14, rfl, L15, S16⟩
 refine cv (yb (y3 R1 (fun G R1 => ?_) (fun G R1 => ?_)))
 refine ye nL2 (ya 0 2 z (yb (yq (yn (yf (yv ?_))))))
 obtain rfl := hext1 _ (sj R1).symm
 exact yn (yf (sj D ▸ yy ⟨I14, rfl, le, S16⟩))
 exact yl (ym (yc (yai nL2 (yap i4 z (ya 1 1 z (yr (yx ⟨(), (sj R1).symm, I14, rfl, le, S16⟩)))))))
 rintro _ _ w20 ⟨I2, rfl, L3, S21⟩ he
 cases he
 exact ye [0] (ya 0 1 z (yb (yi (yay fun _ => yab (yp (yt (yu (yc (ye [0] (ya 0 1 z (yb (yq (sj D ▸ yy ⟨I2, rfl, L3, S21⟩)))))))))))))
def slices_ContainsFunc_qE_l (p0 : List (List qE)) (p1 : (List qE) → Option Bool) : Option Bool := (slices_IndexFunc_qE_l p0 p1).bind (fun r6 => some (decide (r6 ≥ 0)))
theorem slices_ContainsFunc_qE_l_ok {p0 : List (List qE)} {p1 : (List qE) → Option Bool} {a_p0 : Option Addr} {c_p0 : Nat} {g_p1 : FuncId} {k_p1 : List Value} (h_p0 : RSl 1 (RSlC 7 Q_qE) I a_p0 c_p0 p0) (h_p1 : ∀ {F : List Mem} {I' : Mem} {w : World} {u0 : List qE} {a_u0 : Option Addr} {c_u0 : Nat}, I.Le I' → St E w I' (F ++ Os) → RSl 7 Q_qE I' a_u0 c_u0 u0 → ∀ {r : Bool}, p1 u0 = some r → Calls P g_p1 (([(Sl a_u0 u0 c_u0)] : List Value) ++ k_p1).toArray w (fun e w' => ∃ (I'' : Mem), e = .returned (.bool r) ∧ I'.Le I'' ∧ St E w' I'' (F ++ Os))) (hcall_p1 : Callable P g_p1) (hS : St E w I Os) {r : Bool} (D : slices_ContainsFunc_qE_l p0 p1 = some r) :
    Calls P 33 #[(Sl a_p0 p0 c_p0), (.func (.func g_p1) #[] k_p1.toArray)] w (RT E I Os (.bool r)) := by
 refine calls_W (fn := Tryz.f33) rfl rfl rfl ?_
 unfold slices_ContainsFunc_qE_l at D
 exact ye [0] (ya 0 1 z (y8 nL5 (ya 0 1 z (yaf 1 6 (.func (.func g_p1) #[] k_p1.toArray) (bsk D fun r6 Xr1 D => WO.c1 (slices_IndexFunc_qE_l_ok h_p0 (fun {F Ic wc} {_} {_} {_} hlc hSc h_u0 {rc} hrc => h_p1 hlc hSc h_u0 hrc) hcall_p1 hS Xr1) z fun I3 w2 L4 S5 => ya 3 2 z (yb (yq (sj D ▸ yy ⟨I3, rfl, L4, S5⟩))))))))
def slices_IndexFunc_qE (p0 : List qE) (p1 : qE → Option Bool) : Option Int := (forN (fun (i4 : Nat) (_s : Unit) => (idx p0 (i4 : Int)).bind (fun x11 => (p1 x11).bind (fun (r17 : Bool) => (bif r17 then some (.inr (i4 : Int)) else some (.inl ()))))) p0.length 0 ()).bind (fun (t : Unit ⊕ (Int)) => match t with | .inl _ => some (-1) | .inr s19 => some s19)
theorem slices_IndexFunc_qE_ok {p0 : List qE} {p1 : qE → Option Bool} {a_p0 : Option Addr} {c_p0 : Nat} {g_p1 : FuncId} {k_p1 : List Value} (h_p0 : RSl 7 Q_qE I a_p0 c_p0 p0) (h_p1 : ∀ {F : List Mem} {I' : Mem} {w : World} {u0 : qE} {w_u0 : W_qE}, I.Le I' → St E w I' (F ++ Os) → ok_qE I' u0 w_u0 → ∀ {r : Bool}, p1 u0 = some r → Calls P g_p1 (([(vE u0 w_u0)] : List Value) ++ k_p1).toArray w (fun e w' => ∃ (I'' : Mem), e = .returned (.bool r) ∧ I'.Le I'' ∧ St E w' I'' (F ++ Os))) (hcall_p1 : Callable P g_p1) (hS : St E w I Os) {r : Int} (D : slices_IndexFunc_qE p0 p1 = some r) :
    Calls P 65 #[(Sl a_p0 p0 c_p0), (.func (.func g_p1) #[] k_p1.toArray)] w (RT E I Os (Iv r)) := by
 refine calls_W (fn := Tryz.f65) rfl rfl rfl ?_
 unfold slices_IndexFunc_qE at D
 refine ye [0] (ya 0 1 z (yb (yi (ye nL3 (ya 0 3 z (yb (yo (bsk D fun t1 hloop5 D => have hlt9 := (h_p0).len_lt; W.wk (yau (m := p0.length) hloop5 (fun (i4 : Nat) (_s : Unit) => JI E I [(0, Sl a_p0 p0 c_p0), (1, .func (.func g_p1) #[] k_p1.toArray), (7, Nv p0.length), (8, Nv i4)] Os) ⟨I, rfl, lr, hS⟩ ?_ ?_)))))))))
 rintro i4 _ _ w6 hi10 ⟨I2, rfl, L3, S7⟩ x8 R1 hext1
 refine ye [0] (ya 0 1 z (yb (yi (yax fun _ => yl (yc (yi (yo (ye nL2 (ya 0 2 z (y8 nL6 (yaf 0 11 (.func (.func g_p1) #[] k_p1.toArray) (ya 1 2 z ?_))))))))))))
 obtain ⟨x11, Xx11, R1⟩ := bsm R1
 obtain ⟨h0_x11, h1_x11, Xx11⟩ := idx_some Xx11
 obtain ⟨ha_x11, cs_x11, hn_x11, hr_x11, Zx11⟩ := ((RSl.mono h_p0 L3)).el _ _ Xx11
 obtain ⟨w_x11, rfl, h_x11⟩ := Q_qE_iff.1 hr_x11
 refine ya5 31 7 ha_x11 h0_x11 h1_x11 ?_
 refine yat ((cs_qE x11 w_x11)) Zx11 0 S7.rm z (bsk R1 fun r17 Xr12 R1 => ybg z kr z (g := g_p1) (kk := k_p1) (args := [(vE x11 w_x11)]) z kr hcall_p1 (h_p1 (F := []) L3 S7 h_x11 Xr12) ?_)
 rintro _ w13 ⟨I14, rfl, L15, S16⟩
 refine cv (yb (y3 R1 (fun G R1 => ?_) (fun G R1 => ?_)))
 refine ye nL2 (ya 0 2 z (yb (yq (yn (yf (yv ?_))))))
 obtain rfl := hext1 _ (sj R1).symm
 exact yn (yf (sj D ▸ yy ⟨I14, rfl, le, S16⟩))
 exact yl (ym (yc (yai nL2 (yap i4 z (ya 1 1 z (yr (yx ⟨(), (sj R1).symm, I14, rfl, le, S16⟩)))))))
 rintro _ _ w20 ⟨I2, rfl, L3, S21⟩ he
 cases he
 exact ye [0] (ya 0 1 z (yb (yi (yay fun _ => yab (yp (yt (yu (yc (ye [0] (ya 0 1 z (yb (yq (sj D ▸ yy ⟨I2, rfl, L3, S21⟩)))))))))))))
end Go.Proofs.YtdhfbakalknplaaGreat
