/- What functions of the program come to, each by a plain one. Conditions: none. -/
import Derived.Test.YtdmapcjbbbifbaaGreatF3
import Derived.Test.YtdmapcjbbbifbaaGreatProg
set_option maxRecDepth 100000
namespace Go.Proofs.YtdmapcjbbbifbaaGreat
open Go.Gv
set_option maxHeartbeats 1000000
variable {E w : World} {I : Mem} {Os : List Mem}
noncomputable def r17_Make (p0 : qCatalog) (p1 : qStmt) (p2 : ByteArray) (p3 : Int) : Option (qCatalog × Int) := (bif ((decide (p1.Kind < 1)) || (decide (p1.Kind > 9))) then some (z_qCatalog, 2) else (r17_At p0 p1.Table).bind (fun r25 => (bif ((p1.Kind == 1) && (decide (r25 ≥ 0))) then some (z_qCatalog, 19) else (bif ((p1.Kind == 1) && (decide ((p0.Tables.length : Int) ≥ 8))) then some (z_qCatalog, 5) else (bif ((p1.Kind != 1) && (decide (r25 < 0))) then some (z_qCatalog, 4) else (r17_without p0 p1.Table).bind (fun r52 => ((bif (p1.Kind == 1) then some (.inl ((0 : Int), z_qCatalog, r52.Version, r52.Tables, r52.Roles, r52.Grants, { z_qTable with Name := p1.Table, Owner := p2, Cols := p1.Cols, Cons := p1.Cons })) else ((bif (p1.Kind == 2) then (r17_refers_nilsl p0 p1.Table p1.Table (⟨#[]⟩ : ByteArray)).bind (fun r90 => (bif r90 then some (.inl (34, z_qCatalog, z_qTable)) else (forE (fun (i124 : Nat) => fun (s123 : List qGrant) => (idx p0.Grants (i124 : Int)).bind (fun x140 => ((bif (!sEq x140.Table p1.Table) then (idx p0.Grants (i124 : Int)).bind (fun x147 => (app 64 s123 ([x147] : List qGrant)).bind (fun x156 => some x156)) else some s123)).bind (fun (j141 : List qGrant) => some j141))) p0.Grants.length 0 ([] : List qGrant)).bind (fun s123 => some (.inr ((0 : Int), z_qCatalog, r52.Version, r52.Tables, r52.Roles, s123, z_qTable))))) else ((bif (p1.Kind == 5) then (r17_At p0 p1.Name).bind (fun r199 => (bif (decide (r199 ≥ 0)) then some (.inl (19, z_qCatalog, z_qTable)) else (idx p0.Tables r25).bind (fun x219 => (r17_renamed p0 x219 p1.Name).bind (fun (r225, r226) => some (.inr ((0 : Int), z_qCatalog, r225.Version, r225.Tables, r225.Roles, r225.Grants, r226)))))) else (idx p0.Tables r25).bind (fun x246 => (r17_turned p0 x246 p1).bind (fun (r252, r253) => some (.inr (r253, z_qCatalog, r52.Version, r52.Tables, r52.Roles, r52.Grants, r252)))))).bind (fun (t : (Int × qCatalog × qTable) ⊕ (Int × qCatalog × Int × (List qTable) × (List qRole) × (List qGrant) × qTable)) => match t with | (.inl (s204, s205, s206)) => some (.inl (s204, s205, s206)) | (.inr (s233, s234, s235, s236, s237, s238, s239)) => some (.inr (s233, s234, s235, s236, s237, s238, s239))))).bind (fun (t : (Int × qCatalog × qTable) ⊕ (Int × qCatalog × Int × (List qTable) × (List qRole) × (List qGrant) × qTable)) => match t with | (.inl (s95, s96, s97)) => some (.inr (s95, s96, s97)) | (.inr (s178, s179, s180, s181, s182, s183, s184)) => some (.inl (s178, s179, s180, s181, s182, s183, s184))))).bind (fun (t : (Int × qCatalog × Int × (List qTable) × (List qRole) × (List qGrant) × qTable) ⊕ (Int × qCatalog × qTable)) => match t with | (.inl (s69, s70, s71, s72, s73, s74, s75)) => ((bif ((s69 == 0) && (p1.Kind != 2)) then (r17_Sound (⟨s71, s72, s73, s74⟩ : qCatalog) s75).bind (fun r278 => some r278) else some s69)).bind (fun (j268 : Int) => ((bif ((j268 == 0) && (decide (p0.Version ≥ p3))) then some 52 else some j268)).bind (fun (j283 : Int) => (bif (j283 != 0) then some (z_qCatalog, j283) else ((bif (p1.Kind != 2) then (r17_with (⟨s71, s72, s73, s74⟩ : qCatalog) ({ s75 with Version := (w64 (p0.Version + 1)) })).bind (fun r311 => some (r311.Version, r311.Tables, r311.Roles, r311.Grants, { s75 with Version := (w64 (p0.Version + 1)) })) else some (s71, s72, s73, s74, s75))).bind (fun ((s315, s316, s317, s318, s319) : Int × (List qTable) × (List qRole) × (List qGrant) × qTable) => some ((⟨(w64 (p0.Version + 1)), s316, s317, s318⟩ : qCatalog), 0))))) | (.inr (s99, s100, s101)) => some (s100, s99))))))))
theorem r17_Make_ok {p0 : qCatalog} {p1 : qStmt} {p2 : ByteArray} {p3 : Int} {w_p0 : W_qCatalog} {w_p1 : W_qStmt} (h_p0 : ok_qCatalog I p0 w_p0) (h_p1 : ok_qStmt I p1 w_p1) (hS : St E w I Os) {r : qCatalog × Int} (hr : r17_Make p0 p1 p2 p3 = some r) :
    Calls P 31 #[(.agg (cs_qCatalog p0 w_p0).toArray), (.agg (cs_qStmt p1 w_p1).toArray), (.string p2), (Iv p3)] w (fun e w' => ∃ I' w_rw0, e = .returned (.tuple #[(.agg (cs_qCatalog r.1 w_rw0).toArray), (Iv r.2)]) ∧ I.Le I' ∧ St E w' I' Os ∧ ok_qCatalog I' r.1 w_rw0) := by
 refine calls_W (fn := Tryz.f31) rfl rfl rfl ?_
 unfold r17_Make at hr
 refine yd nL4 (yy hS (cs_qCatalog p0 w_p0) 29 rfl fun b1 w4 hS3 => yy hS3 (cs_qStmt p1 w_p1) 44 rfl fun b5 w8 hS7 => yy hS7 (cs_qCatalog z_qCatalog zw_qCatalog) 29 rfl fun b9 w12 hS11 => ya 3 1 rfl (yb (yf (yd nL8 (yc 0 1 [0] rfl (yg (hS11.rf m1) rfl (ya 2 2 rfl (yac (l1 := [4, 5, 6, 7]) 22 ((decide (p1.Kind < 1)) || (decide (p1.Kind > 9))) ?_ ?_))))))))
 refine yr (decide (p1.Kind < 1)) (fun hc => ?_) (fun hc => ?_)
 refine yl 18 hc ?_
 iterate 3 refine yt ?_
 exact yh 7 22 (.bool true) (WO.mk 18 hc (by rw [hc]; rfl))
 exact yl 18 hc (yc 4 1 [0] rfl (yg (hS11.rf m1) rfl (ya 6 1 rfl (yh 7 22 (.bool (decide (p1.Kind > 9))) (WO.mk 18 hc (by rw [hc]; rfl))))))
 refine yb (W.cb hr (fun hc hr => ?_) (fun hc hr => ?_))
 refine yd nL3 (yh 0 23 (.agg (cs_qCatalog z_qCatalog zw_qCatalog).toArray) (yx hS11 0 (cs_qCatalog z_qCatalog zw_qCatalog) fun w16 hS15 => ya 2 1 rfl (yb (W.ret (ye ?_)))))
 obtain rfl := sj hr
 exact yan _ (hS15.rd m0) ⟨I, zw_qCatalog, rfl, lr, hS15.drop.drop.drop, zok_qCatalog⟩
 refine yi (En.next (yd nL5 (yv ((cs_qCatalog p0 w_p0)) (hS11.rf m2) rfl (yc 1 1 [1] rfl (yg (hS11.rf m1) rfl (bsk hr fun r25 hx_r20 hr => WO.c1 (r17_At_ok h_p0 hS11 hx_r20) rfl fun I22 w21 hl23 hS24 => ya 4 1 rfl (yb (yf (yd nL7 (yc 0 1 [0] rfl (yg (hS24.rf m1) rfl (ya 2 2 rfl (yac (l1 := [4, 5, 6]) 34 ((p1.Kind == 1) && (decide (r25 ≥ 0))) ?_ ?_)))))))))))))
 refine yr (p1.Kind == 1) (fun hc => ?_) (fun hc => ?_)
 exact yl 31 hc (ya 4 2 rfl (yh 6 34 (.bool (decide (r25 ≥ 0))) (WO.mk 31 hc (by rw [hc]; rfl))))
 refine yl 31 hc ?_
 iterate 2 refine yt ?_
 exact yh 6 34 (.bool false) (WO.mk 31 hc (by rw [hc]; rfl))
 refine yb (W.cb hr (fun hc hr => ?_) (fun hc hr => ?_))
 refine yd nL3 (yh 0 35 (.agg (cs_qCatalog z_qCatalog zw_qCatalog).toArray) (yx hS24 0 (cs_qCatalog z_qCatalog zw_qCatalog) fun w29 hS28 => ya 2 1 rfl (yb (W.ret (ye ?_)))))
 obtain rfl := sj hr
 exact yan _ (hS28.rd m0) ⟨I22, zw_qCatalog, rfl, hl23, hS28.drop.drop.drop, zok_qCatalog⟩
 refine yi (En.next (yf (yd nL9 (yc 0 1 [0] rfl (yg (hS24.rf m1) rfl (ya 2 2 rfl (yac (l1 := [4, 5, 6, 7, 8]) 44 ((p1.Kind == 1) && (decide ((p0.Tables.length : Int) ≥ 8))) ?_ ?_)))))))
 refine yr (p1.Kind == 1) (fun hc => ?_) (fun hc => ?_)
 exact yl 39 hc (yc 4 1 [1] rfl (yg (hS24.rf m2) rfl (ya 6 2 rfl (yh 8 44 (.bool (decide ((p0.Tables.length : Int) ≥ 8))) (WO.mk 39 hc (by rw [hc]; rfl))))))
 refine yl 39 hc ?_
 iterate 4 refine yt ?_
 exact yh 8 44 (.bool false) (WO.mk 39 hc (by rw [hc]; rfl))
 refine yb (W.cb hr (fun hc hr => ?_) (fun hc hr => ?_))
 refine yd nL3 (yh 0 45 (.agg (cs_qCatalog z_qCatalog zw_qCatalog).toArray) (yx hS24 0 (cs_qCatalog z_qCatalog zw_qCatalog) fun w36 hS35 => ya 2 1 rfl (yb (W.ret (ye ?_)))))
 obtain rfl := sj hr
 exact yan _ (hS35.rd m0) ⟨I22, zw_qCatalog, rfl, hl23, hS35.drop.drop.drop, zok_qCatalog⟩
 refine yi (En.next (yf (yd nL7 (yc 0 1 [0] rfl (yg (hS24.rf m1) rfl (ya 2 2 rfl (yac (l1 := [4, 5, 6]) 52 ((p1.Kind != 1) && (decide (r25 < 0))) ?_ ?_)))))))
 refine yr (p1.Kind != 1) (fun hc => ?_) (fun hc => ?_)
 exact yl 49 hc (ya 4 2 rfl (yh 6 52 (.bool (decide (r25 < 0))) (WO.mk 49 hc (by rw [hc]; rfl))))
 refine yl 49 hc ?_
 iterate 2 refine yt ?_
 exact yh 6 52 (.bool false) (WO.mk 49 hc (by rw [hc]; rfl))
 refine yb (W.cb hr (fun hc hr => ?_) (fun hc hr => ?_))
 refine yd nL3 (yh 0 53 (.agg (cs_qCatalog z_qCatalog zw_qCatalog).toArray) (yx hS24 0 (cs_qCatalog z_qCatalog zw_qCatalog) fun w43 hS42 => ya 2 1 rfl (yb (W.ret (ye ?_)))))
 obtain rfl := sj hr
 exact yan _ (hS42.rd m0) ⟨I22, zw_qCatalog, rfl, hl23, hS42.drop.drop.drop, zok_qCatalog⟩
 refine yi (En.next (yd nL6 (yv ((cs_qCatalog p0 w_p0)) (hS24.rf m2) rfl (yc 1 1 [1] rfl (yg (hS24.rf m1) rfl (bsk hr fun r52 hx_r47 hr => yab (r17_without_ok (h_p0.mono hl23) hS24 hx_r47) ?_))))))
 rintro _ w48 ⟨I49, w_r52, rfl, hl50, hS51, h_r52⟩
 refine ⟨_, rfl, trivial, ?_⟩
 refine yy hS51 (cs_qCatalog z_qCatalog zw_qCatalog) 29 rfl fun b53 w56 hS55 => yx hS55 0 (cs_qCatalog r52 w_r52) fun w58 hS57 => y0 [0] (yy hS57 (cs_qTable z_qTable zw_qTable) 89 rfl fun b59 w62 hS61 => y0 [0] (ya 0 1 rfl (yb (yf (yd nL2 (yc 0 1 [0] rfl (yg (hS61.rf m3) rfl (yb (W.block (yd nL2 (ya 0 2 rfl (yb (bsk hr fun j63 hr1 hr => W.jw (J := (fun fr w => ∃ (s69 : Int) (s70 : qCatalog) (s71 : Int) (s72 : List qTable) (s73 : List qRole) (s74 : List qGrant) (s75 : qTable), ∃ I65 w_s70 a_s72 c_s72 a_s73 c_s73 a_s74 c_s74 w_s75, (.inl (s69, s70, s71, s72, s73, s74, s75)) = j63 ∧ fr = [(3, Iv p3), (4, Pt b1 0), (5, Pt b5 0), (8, Pt b9 0), (11, Pt b53 0), (12, Pt b59 0), (13, Iv s69)] ∧ I49.Le I65 ∧ St E w I65 ((Bx b1 (cs_qCatalog p0 w_p0) 29) :: (Bx b5 (cs_qStmt p1 w_p1) 44) :: (Bx b9 (cs_qCatalog s70 w_s70) 29) :: (Bx b53 (cs_qCatalog (⟨s71, s72, s73, s74⟩ : qCatalog) (⟨⟨a_s72, c_s72⟩, ⟨a_s73, c_s73⟩, ⟨a_s74, c_s74⟩⟩ : W_qCatalog)) 29) :: (Bx b59 (cs_qTable s75 w_s75) 89) :: Os) ∧ ok_qCatalog I65 s70 w_s70 ∧ RSl 6 R_qTable I65 a_s72 c_s72 s72 ∧ RSl 2 R_qRole I65 a_s73 c_s73 s73 ∧ RSl 5 R_qGrant I65 a_s74 c_s74 s74 ∧ ok_qTable I65 s75 w_s75)) ?_ ?_)))))))))))))
 refine W.cb hr1 (fun hc hr1 => ?_) (fun hc hr1 => ?_)
 refine yaa nL9 (yc 0 1 [1] rfl (yg (hS61.rf m3) rfl (yc 2 2 [4] rfl (yg (hS61.rf m3) rfl (yc 5 1 [5] rfl (yg (hS61.rf m3) rfl (yh 7 80 (.agg (cs_qTable ({ z_qTable with Name := p1.Table, Owner := p2, Cols := p1.Cols, Cons := p1.Cons }) ({ zw_qTable with Cols := ⟨w_p1.Cols.a, w_p1.Cols.c⟩, Cons := ⟨w_p1.Cons.a, w_p1.Cons.c⟩ })).toArray) (yx hS61 0 (cs_qTable ({ z_qTable with Name := p1.Table, Owner := p2, Cols := p1.Cols, Cons := p1.Cons }) ({ zw_qTable with Cols := ⟨w_p1.Cols.a, w_p1.Cols.c⟩, Cons := ⟨w_p1.Cons.a, w_p1.Cons.c⟩ })) fun w68 hS67 => WO.nil ?_))))))))
 have hk76 : ok_qTable I49 ({ z_qTable with Name := p1.Table, Owner := p2, Cols := p1.Cols, Cons := p1.Cons }) ({ zw_qTable with Cols := ⟨w_p1.Cols.a, w_p1.Cols.c⟩, Cons := ⟨w_p1.Cons.a, w_p1.Cons.c⟩ }) := ⟨(RSl.mono h_p1.Cols (hl23.trans hl50)), (RSl.mono h_p1.Cons (hl23.trans hl50)), SlAt.nil⟩
 exact yq ⟨0, z_qCatalog, r52.Version, r52.Tables, r52.Roles, r52.Grants, { z_qTable with Name := p1.Table, Owner := p2, Cols := p1.Cols, Cons := p1.Cons }, I49, zw_qCatalog, w_r52.Tables.a, w_r52.Tables.c, w_r52.Roles.a, w_r52.Roles.c, w_r52.Grants.a, w_r52.Grants.c, ({ zw_qTable with Cols := ⟨w_p1.Cols.a, w_p1.Cols.c⟩, Cons := ⟨w_p1.Cons.a, w_p1.Cons.c⟩ }), sj hr1, rfl, lr, hS67.front1.front2.front3.front4, zok_qCatalog, h_r52.Tables, h_r52.Roles, h_r52.Grants, hk76⟩
 refine yd nL2 (ya 0 2 rfl (yb (bsk hr1 fun j81 hr2 hr1 => W.jw (J := (fun fr w => ∃ (s178 : Int) (s179 : qCatalog) (s180 : Int) (s181 : List qTable) (s182 : List qRole) (s183 : List qGrant) (s184 : qTable), ∃ I83 w_s179 a_s181 c_s181 a_s182 c_s182 a_s183 c_s183 w_s184, (.inr (s178, s179, s180, s181, s182, s183, s184)) = j81 ∧ fr = [(3, Iv p3), (4, Pt b1 0), (5, Pt b5 0), (8, Pt b9 0), (11, Pt b53 0), (12, Pt b59 0), (13, Iv s178)] ∧ I49.Le I83 ∧ St E w I83 ((Bx b1 (cs_qCatalog p0 w_p0) 29) :: (Bx b5 (cs_qStmt p1 w_p1) 44) :: (Bx b9 (cs_qCatalog s179 w_s179) 29) :: (Bx b53 (cs_qCatalog (⟨s180, s181, s182, s183⟩ : qCatalog) (⟨⟨a_s181, c_s181⟩, ⟨a_s182, c_s182⟩, ⟨a_s183, c_s183⟩⟩ : W_qCatalog)) 29) :: (Bx b59 (cs_qTable s184 w_s184) 89) :: Os) ∧ ok_qCatalog I83 s179 w_s179 ∧ RSl 6 R_qTable I83 a_s181 c_s181 s181 ∧ RSl 2 R_qRole I83 a_s182 c_s182 s182 ∧ RSl 5 R_qGrant I83 a_s183 c_s183 s183 ∧ ok_qTable I83 s184 w_s184)) ?_ ?_)))
 refine W.cb hr2 (fun hc hr2 => ?_) (fun hc hr2 => ?_)
 refine yf (yd nL6 (yv ((cs_qCatalog p0 w_p0)) (hS61.rf m4) rfl (yc 1 1 [1] rfl (yg (hS61.rf m3) rfl (yc 3 1 [1] rfl (yg (hS61.rf m3) rfl (bsk hr2 fun r90 hx_r85 hr2 => WO.c1 (r17_refers_nilsl_ok (h_p0.mono le) hS61 hx_r85) rfl fun I87 w86 hl88 hS89 => yb (W.cb hr2 (fun hc hr2 => ?_) (fun hc hr2 => ?_)))))))))
 refine yd nL3 (yh 0 89 (.agg (cs_qCatalog z_qCatalog zw_qCatalog).toArray) (yx hS89.front2 0 (cs_qCatalog z_qCatalog zw_qCatalog) fun w93 hS92 => ya 2 1 rfl (yb (W.ret (ye (yp ?_))))))
 obtain rfl := sj hr2
 refine yp ?_
 obtain rfl := sj hr1
 refine yj (ye ?_)
 obtain rfl := sj hr
 exact yan _ (hS92.rd m0) ⟨I87, zw_qCatalog, rfl, le, hS92.drop.drop.drop.drop.drop, zok_qCatalog⟩
 refine yi (En.next (yd nL2 (yc 0 1 [3] rfl (yx hS89.front1 3 (cs_qCatalog ({ r52 with Grants := ([] : List qGrant) }) ({ w_r52 with Grants := ⟨none, 0⟩ })) fun w119 hS118 => y0 [0] (ya 0 1 rfl (yb (W.block (bsk hr2 fun s123 hloop125 hr2 => have hlt136 := ((RSl.mono h_p0.Grants ((hl23.trans hl50).trans hl88))).len_lt; W.wk (W.forE (m := p0.Grants.length) hloop125 (fun (i124 : Nat) => fun (s123 : List qGrant) fr w => ∃ I121 a_s123 c_s123 C_s123, fr = [(3, Iv p3), (4, Pt b1 0), (5, Pt b5 0), (8, Pt b9 0), (11, Pt b53 0), (12, Pt b59 0), (13, Iv 0), (14, Nv i124)] ∧ I87.Le I121 ∧ St E w I121 ((Bx b1 (cs_qCatalog p0 w_p0) 29) :: (Bx b5 (cs_qStmt p1 w_p1) 44) :: (Bx b9 (cs_qCatalog z_qCatalog zw_qCatalog) 29) :: (Bx b53 (cs_qCatalog ({ r52 with Grants := s123 }) ({ w_r52 with Grants := ⟨a_s123, c_s123⟩ })) 29) :: (Bx b59 (cs_qTable z_qTable zw_qTable) 89) :: (C_s123) :: Os) ∧ OwnSl 67 5 R_qGrant I121 C_s123 a_s123 c_s123 s123) ⟨I87, none, 0, Mem.no, rfl, lr, hS118.no.front2.front2.front3.front4.front5, OwnSl.nil⟩ ?_ ?_)))))))))
 rintro i124 s123 _ w133 hi137 ⟨I121, a_s123, c_s123, C_s123, rfl, hl122, hS134, h_s123⟩ x135 hr3
 refine yf (yd nL5 (yc 0 2 [3] rfl (yg (hS134.rf m0) rfl (ya 3 2 rfl (yb (yah fun _ => yi (En.next (yf (W.block (yf (have hS138 := hS134.drew; yat nL9 8 (KR.cons (hS138.rd m0) (KR.cons (hS138.rd m1) (KR.nil hS138.im))) ?_)))))))))))
 generalize World.drew _ = w139 at *
 refine yc 0 1 [3] rfl (yg (rd_c m0 (hS138.rd m0)) rfl (ya 2 1 rfl ?_))
 obtain ⟨x140, hr3, hb_x140, _, rfl, hc_x140⟩ := sl_ix ((RSl.mono h_p0.Grants (((hl23.trans hl50).trans hl88).trans hl122))) hr3
 refine y3 67 5 hb_x140 rfl (yc 4 1 [2] rfl (yal hc_x140 2 (rd_i hS138.im) rfl (yc 6 1 [1] rfl (yg (rd_c m1 (hS138.rd m1)) rfl (WO.tail rfl (ya 8 1 rfl (yb (bsk hr3 fun j141 hr4 hr3 => W.jw (J := (fun fr w => ∃ I143 a_j141 c_j141 C_j141, fr = [(3, Iv p3), (4, Pt b1 0), (5, Pt b5 0), (8, Pt b9 0), (11, Pt b53 0), (12, Pt b59 0), (13, Iv 0), (14, Nv i124)] ∧ I121.Le I143 ∧ St E w I143 ((Bx b1 (cs_qCatalog p0 w_p0) 29) :: (Bx b5 (cs_qStmt p1 w_p1) 44) :: (Bx b9 (cs_qCatalog z_qCatalog zw_qCatalog) 29) :: (Bx b53 (cs_qCatalog ({ r52 with Grants := j141 }) ({ w_r52 with Grants := ⟨a_j141, c_j141⟩ })) 29) :: (Bx b59 (cs_qTable z_qTable zw_qTable) 89) :: (C_j141) :: Os) ∧ OwnSl 67 5 R_qGrant I143 C_j141 a_j141 c_j141 j141)) ?_ ?_))))))))
 refine W.cb hr4 (fun hc hr4 => ?_) (fun hc hr4 => ?_)
 have hS145 := hS138.drew
 refine yat nL11 8 (KR.cons (hS145.rd m0) (KR.cons (hS145.rd m3) (KR.nil hS145.im))) ?_
 generalize World.drew _ = w146 at *
 refine yc 0 1 [3] rfl (yg (rd_c m1 (hS145.rd m3)) rfl (yc 2 1 [3] rfl (yg (rd_c m0 (hS145.rd m0)) rfl (ya 4 1 rfl ?_))))
 obtain ⟨x147, hr4, hb_x147, _, rfl, hc_x147⟩ := sl_ix ((RSl.mono h_p0.Grants (((hl23.trans hl50).trans hl88).trans hl122))) hr4
 refine y3 67 5 hb_x147 rfl (yak ((cs_qGrant x147)) hc_x147 0 (rd_i hS145.im) rfl (y4 (rel := R_qGrant) (xs := ([x147] : List qGrant)) hS145 rfl (by kernel_rfl) rfl 67 5 [(cs_qGrant x147)] (by kernel_rfl) rfl ((Elr.cons rfl Elr.nil)) (fun C149 w153 hS152 => (KR.cons (hS152.rd m1) (KR.cons (hS152.rd m4) (KR.nil hS152.im)))) ?_))
 intro a151 C149 w153 hS152 ho150
 refine WO.tail rfl ?_
 have hS155 := hS152.front6
 obtain ⟨x156, hx_x156, hr4⟩ := bsm hr4
 obtain ⟨h0_x156, he_x156⟩ := app_some hx_x156
 refine yaj 67 64 (cs_qGrant z_qGrant) hS155 h_s123 ho150.sl (hS155.rd m1) h0_x156 he_x156 rfl fun a157 c158 w159 C160 hS161 ho162 => yc 9 1 [3] rfl (yx hS161.front1.drop.front4 3 (cs_qCatalog ({ r52 with Grants := x156 }) ({ w_r52 with Grants := ⟨a157, c158⟩ })) fun w167 hS166 => WO.nil ?_)
 obtain rfl := sj hr4
 exact yq ⟨I121, a157, c158, C160, rfl, lr, hS166.front1.front5.front2.front5.front5.front5, ho162⟩
 refine yi ?_
 obtain rfl := sj hr4
 exact yq ⟨I121, a_s123, c_s123, C_s123, rfl, lr, hS138, h_s123⟩
 rintro _ w174 ⟨I143, a_j141, c_j141, C_j141, rfl, hl144, hS175, h_j141⟩
 refine yk (En.next (yaa nL3 (ya 0 1 rfl (yae i124 rfl (ya 2 1 rfl (WO.nil ?_))))))
 obtain rfl := sj hr3
 exact yq ⟨I143, a_j141, c_j141, C_j141, rfl, le, hS175, h_j141⟩
 rintro _ w176 ⟨I121, a_s123, c_s123, C_s123, rfl, hl122, hS177, h_s123⟩
 refine yf (yd nL5 (yc 0 2 [3] rfl (yg (hS177.rf m0) rfl (ya 3 2 rfl (yb (yai fun _ => yz (ym (yn (yo ?_)))))))))
 obtain ⟨I186, hl187, hS189, hp188⟩ := y6 h_s123 hS177.front5
 exact yq ⟨0, z_qCatalog, r52.Version, r52.Tables, r52.Roles, s123, z_qTable, I186, zw_qCatalog, w_r52.Tables.a, w_r52.Tables.c, w_r52.Roles.a, w_r52.Roles.c, a_s123, c_s123, zw_qTable, sj hr2, rfl, le, hS189, zok_qCatalog, (RSl.mono h_r52.Tables le), (RSl.mono h_r52.Roles le), hp188, zok_qTable⟩
 refine yd nL2 (ya 0 2 rfl (yb (bsk hr2 fun j190 hr3 hr2 => W.jw (J := (fun fr w => ∃ (s233 : Int) (s234 : qCatalog) (s235 : Int) (s236 : List qTable) (s237 : List qRole) (s238 : List qGrant) (s239 : qTable), ∃ I192 w_s234 a_s236 c_s236 a_s237 c_s237 a_s238 c_s238 w_s239, (.inr (s233, s234, s235, s236, s237, s238, s239)) = j190 ∧ fr = [(3, Iv p3), (4, Pt b1 0), (5, Pt b5 0), (8, Pt b9 0), (11, Pt b53 0), (12, Pt b59 0), (13, Iv s233)] ∧ I49.Le I192 ∧ St E w I192 ((Bx b1 (cs_qCatalog p0 w_p0) 29) :: (Bx b5 (cs_qStmt p1 w_p1) 44) :: (Bx b9 (cs_qCatalog s234 w_s234) 29) :: (Bx b53 (cs_qCatalog (⟨s235, s236, s237, s238⟩ : qCatalog) (⟨⟨a_s236, c_s236⟩, ⟨a_s237, c_s237⟩, ⟨a_s238, c_s238⟩⟩ : W_qCatalog)) 29) :: (Bx b59 (cs_qTable s239 w_s239) 89) :: Os) ∧ ok_qCatalog I192 s234 w_s234 ∧ RSl 6 R_qTable I192 a_s236 c_s236 s236 ∧ RSl 2 R_qRole I192 a_s237 c_s237 s237 ∧ RSl 5 R_qGrant I192 a_s238 c_s238 s238 ∧ ok_qTable I192 s239 w_s239)) ?_ ?_)))
 refine W.cb hr3 (fun hc hr3 => ?_) (fun hc hr3 => ?_)
 refine yf (yd nL5 (yv ((cs_qCatalog p0 w_p0)) (hS61.rf m4) rfl (yc 1 1 [2] rfl (yg (hS61.rf m3) rfl (bsk hr3 fun r199 hx_r194 hr3 => WO.c1 (r17_At_ok (h_p0.mono le) hS61 hx_r194) rfl fun I196 w195 hl197 hS198 => ya 4 1 rfl (yb (W.cb hr3 (fun hc hr3 => ?_) (fun hc hr3 => ?_))))))))
 refine yd nL3 (yh 0 124 (.agg (cs_qCatalog z_qCatalog zw_qCatalog).toArray) (yx hS198.front2 0 (cs_qCatalog z_qCatalog zw_qCatalog) fun w202 hS201 => ya 2 1 rfl (yb (W.ret (ye (yp ?_))))))
 obtain rfl := sj hr3
 refine yp ?_
 obtain rfl := sj hr2
 refine yp ?_
 obtain rfl := sj hr1
 refine yj (ye ?_)
 obtain rfl := sj hr
 exact yan _ (hS201.rd m0) ⟨I196, zw_qCatalog, rfl, le, hS201.drop.drop.drop.drop.drop, zok_qCatalog⟩
 refine yi (En.next (have hS217 := hS198.drew; ya6 (l := nL14) (by kernel_rfl) 12 (KR I196 [Bx b5 (cs_qStmt p1 w_p1) 44, Bx b1 (cs_qCatalog p0 w_p0) 29]) qR (.ords nL14 [0, 1, 2, 3, 4, 5, 6, 7, 8, 9, 10, 12, 11, 13] (by kernel_rfl) (by kernel_rfl) (by kernel_rfl) (by kernel_rfl) (by kernel_rfl)) (by kernel_rfl) (KR.cons (hS217.rd m3) (KR.cons (hS217.rd m4) (KR.nil hS217.im))) ?_))
 generalize World.drew _ = w218 at *
 refine yv ((cs_qCatalog p0 w_p0)) (rd_c m1 (hS217.rd m4)) rfl (yc 1 1 [1] rfl (yg (rd_c m1 (hS217.rd m4)) rfl (ya 3 1 rfl ?_)))
 obtain ⟨x219, hr3, hb_x219, _, ⟨w_x219, rfl, h_x219⟩, hc_x219⟩ := sl_ix ((RSl.mono h_p0.Tables ((hl23.trans hl50).trans hl197))) hr3
 refine y3 89 6 hb_x219 rfl (yak ((cs_qTable x219 w_x219)) hc_x219 0 (rd_i hS217.im) rfl (yc 6 1 [2] rfl (yg (rd_c m0 (hS217.rd m3)) rfl ?_)))
 obtain ⟨⟨r225, r226⟩, hx_r220, hr3⟩ := bsm hr3
 refine yab (r17_renamed_ok (h_p0.mono le) h_x219 hS217 hx_r220) ?_
 rintro _ w221 ⟨I222, w_r225, w_r226, rfl, hl223, hS224, h_r225, h_r226⟩
 refine ⟨_, rfl, (KR.cons (hS224.rd m3) (KR.cons (hS224.rd m4) (KR.nil (hS224.im.of_le hl223)))), ?_⟩
 exact ya 9 3 rfl (WO.tail rfl (yx hS224.front1 0 (cs_qCatalog r225 w_r225) fun w229 hS228 => yx hS228.front1 0 (cs_qTable r226 w_r226) fun w232 hS231 => WO.nil (yq ⟨0, z_qCatalog, r225.Version, r225.Tables, r225.Roles, r225.Grants, r226, I222, zw_qCatalog, w_r225.Tables.a, w_r225.Tables.c, w_r225.Roles.a, w_r225.Roles.c, w_r225.Grants.a, w_r225.Grants.c, w_r226, sj hr3, rfl, le, hS231.front1.front2.front3.front4, zok_qCatalog, h_r225.Tables, h_r225.Roles, h_r225.Grants, h_r226⟩)))
 have hS244 := hS61.drew
 refine ya6 (l := nL13) (by kernel_rfl) 11 (KR I49 [Bx b5 (cs_qStmt p1 w_p1) 44, Bx b1 (cs_qCatalog p0 w_p0) 29]) qR (.ords nL13 [0, 1, 2, 3, 4, 5, 6, 7, 8, 9, 11, 10, 12] (by kernel_rfl) (by kernel_rfl) (by kernel_rfl) (by kernel_rfl) (by kernel_rfl)) (by kernel_rfl) (KR.cons (hS244.rd m3) (KR.cons (hS244.rd m4) (KR.nil hS244.im))) ?_
 generalize World.drew _ = w245 at *
 refine yv ((cs_qCatalog p0 w_p0)) (rd_c m1 (hS244.rd m4)) rfl (yc 1 1 [1] rfl (yg (rd_c m1 (hS244.rd m4)) rfl (ya 3 1 rfl ?_)))
 obtain ⟨x246, hr3, hb_x246, _, ⟨w_x246, rfl, h_x246⟩, hc_x246⟩ := sl_ix ((RSl.mono h_p0.Tables (hl23.trans hl50))) hr3
 refine y3 89 6 hb_x246 rfl (yak ((cs_qTable x246 w_x246)) hc_x246 0 (rd_i hS244.im) rfl (yv ((cs_qStmt p1 w_p1)) (rd_c m0 (hS244.rd m3)) rfl ?_))
 obtain ⟨⟨r252, r253⟩, hx_r247, hr3⟩ := bsm hr3
 refine yab (r17_turned_ok (h_p0.mono le) h_x246 (h_p1.mono le) hS244 hx_r247) ?_
 rintro _ w248 ⟨I249, w_r252, rfl, hl250, hS251, h_r252⟩
 refine ⟨_, rfl, (KR.cons (hS251.rd m3) (KR.cons (hS251.rd m4) (KR.nil (hS251.im.of_le hl250)))), ?_⟩
 exact ya 8 3 rfl (WO.tail rfl (yx hS251 0 (cs_qTable r252 w_r252) fun w255 hS254 => ya 12 1 rfl (WO.nil (yq ⟨r253, z_qCatalog, r52.Version, r52.Tables, r52.Roles, r52.Grants, r252, I249, zw_qCatalog, w_r52.Tables.a, w_r52.Tables.c, w_r52.Roles.a, w_r52.Roles.c, w_r52.Grants.a, w_r52.Grants.c, w_r252, sj hr3, rfl, hl250, hS254.front1.front2.front3.front4, zok_qCatalog, (RSl.mono h_r52.Tables hl250), (RSl.mono h_r52.Roles hl250), (RSl.mono h_r52.Grants hl250), h_r252⟩))))
 rintro _ w260 ⟨s233, s234, s235, s236, s237, s238, s239, I192, w_s234, a_s236, c_s236, a_s237, c_s237, a_s238, c_s238, w_s239, rfl, rfl, hl193, hS261, h_s234, h_s236, h_s237, h_s238, h_s239⟩
 exact yq ⟨s233, s234, s235, s236, s237, s238, s239, I192, w_s234, a_s236, c_s236, a_s237, c_s237, a_s238, c_s238, w_s239, sj hr2, rfl, hl193, hS261, h_s234, h_s236, h_s237, h_s238, h_s239⟩
 rintro _ w262 ⟨s178, s179, s180, s181, s182, s183, s184, I83, w_s179, a_s181, c_s181, a_s182, c_s182, a_s183, c_s183, w_s184, rfl, rfl, hl84, hS263, h_s179, h_s181, h_s182, h_s183, h_s184⟩
 exact yq ⟨s178, s179, s180, s181, s182, s183, s184, I83, w_s179, a_s181, c_s181, a_s182, c_s182, a_s183, c_s183, w_s184, sj hr1, rfl, hl84, hS263, h_s179, h_s181, h_s182, h_s183, h_s184⟩
 rintro _ w264 ⟨s69, s70, s71, s72, s73, s74, s75, I65, w_s70, a_s72, c_s72, a_s73, c_s73, a_s74, c_s74, w_s75, rfl, rfl, hl66, hS265, h_s70, h_s72, h_s73, h_s74, h_s75⟩
 refine yk (En.next (yf (yd nL7 (ya 0 3 rfl (yac (l1 := [3, 4, 5, 6]) 143 ((s69 == 0) && (p1.Kind != 2)) ?_ ?_)))))
 refine yr (s69 == 0) (fun hc => ?_) (fun hc => ?_)
 exact yl 139 hc (yc 3 1 [0] rfl (yg (hS265.rf m1) rfl (ya 5 1 rfl (yh 6 143 (.bool (p1.Kind != 2)) (WO.mk 139 hc (by rw [hc]; rfl))))))
 refine yl 139 hc ?_
 iterate 3 refine yt ?_
 exact yh 6 143 (.bool false) (WO.mk 139 hc (by rw [hc]; rfl))
 refine yb (bsk hr fun j268 hr1 hr => W.jw (J := (fun fr w => ∃ I270, fr = [(3, Iv p3), (4, Pt b1 0), (5, Pt b5 0), (8, Pt b9 0), (11, Pt b53 0), (12, Pt b59 0), (13, Iv j268)] ∧ I65.Le I270 ∧ St E w I270 ((Bx b1 (cs_qCatalog p0 w_p0) 29) :: (Bx b5 (cs_qStmt p1 w_p1) 44) :: (Bx b9 (cs_qCatalog s70 w_s70) 29) :: (Bx b53 (cs_qCatalog (⟨s71, s72, s73, s74⟩ : qCatalog) (⟨⟨a_s72, c_s72⟩, ⟨a_s73, c_s73⟩, ⟨a_s74, c_s74⟩⟩ : W_qCatalog)) 29) :: (Bx b59 (cs_qTable s75 w_s75) 89) :: Os))) ?_ ?_)
 refine W.cb hr1 (fun hc hr1 => ?_) (fun hc hr1 => ?_)
 refine yaa nL4 (yv ((cs_qCatalog (⟨s71, s72, s73, s74⟩ : qCatalog) (⟨⟨a_s72, c_s72⟩, ⟨a_s73, c_s73⟩, ⟨a_s74, c_s74⟩⟩ : W_qCatalog))) (hS265.rf m3) rfl (yv ((cs_qTable s75 w_s75)) (hS265.rf m4) rfl ?_))
 have hk272 : ok_qCatalog I65 (⟨s71, s72, s73, s74⟩ : qCatalog) (⟨⟨a_s72, c_s72⟩, ⟨a_s73, c_s73⟩, ⟨a_s74, c_s74⟩⟩ : W_qCatalog) := ⟨h_s72, h_s73, h_s74⟩
 refine bsk hr1 fun r278 hx_r273 hr1 => WO.c1 (r17_Sound_ok hk272 h_s75 hS265 hx_r273) rfl fun I275 w274 hl276 hS277 => ya 3 1 rfl (WO.nil ?_)
 obtain rfl := sj hr1
 exact yq ⟨I275, rfl, hl276, hS277⟩
 refine yi ?_
 obtain rfl := sj hr1
 exact yq ⟨I65, rfl, lr, hS265⟩
 rintro _ w279 ⟨I270, rfl, hl271, hS280⟩
 refine En.next (yf (yd nL8 (ya 0 3 rfl (yac (l1 := [3, 4, 5, 6, 7]) 154 ((j268 == 0) && (decide (p0.Version ≥ p3))) ?_ ?_))))
 refine yr (j268 == 0) (fun hc => ?_) (fun hc => ?_)
 exact yl 149 hc (yc 3 1 [0] rfl (yg (hS280.rf m0) rfl (ya 5 2 rfl (yh 7 154 (.bool (decide (p0.Version ≥ p3))) (WO.mk 149 hc (by rw [hc]; rfl))))))
 refine yl 149 hc ?_
 iterate 4 refine yt ?_
 exact yh 7 154 (.bool false) (WO.mk 149 hc (by rw [hc]; rfl))
 refine yb (bsk hr fun j283 hr1 hr => W.jw (J := (fun fr w => ∃ I285, fr = [(4, Pt b1 0), (5, Pt b5 0), (8, Pt b9 0), (11, Pt b53 0), (12, Pt b59 0), (13, Iv j283)] ∧ I270.Le I285 ∧ St E w I285 ((Bx b1 (cs_qCatalog p0 w_p0) 29) :: (Bx b5 (cs_qStmt p1 w_p1) 44) :: (Bx b9 (cs_qCatalog s70 w_s70) 29) :: (Bx b53 (cs_qCatalog (⟨s71, s72, s73, s74⟩ : qCatalog) (⟨⟨a_s72, c_s72⟩, ⟨a_s73, c_s73⟩, ⟨a_s74, c_s74⟩⟩ : W_qCatalog)) 29) :: (Bx b59 (cs_qTable s75 w_s75) 89) :: Os))) ?_ ?_)
 refine W.cb hr1 (fun hc hr1 => ?_) (fun hc hr1 => ?_)
 refine yaa [0] (ya 0 1 rfl (WO.nil ?_))
 obtain rfl := sj hr1
 exact yq ⟨I270, rfl, lr, hS280⟩
 refine yi ?_
 obtain rfl := sj hr1
 exact yq ⟨I270, rfl, lr, hS280⟩
 rintro _ w287 ⟨I285, rfl, hl286, hS288⟩
 refine En.next (yf (yd nL2 (ya 0 2 rfl (yb (W.cb hr (fun hc hr => ?_) (fun hc hr => ?_))))))
 refine yd nL4 (yh 0 157 (.agg (cs_qCatalog z_qCatalog zw_qCatalog).toArray) (ya 1 1 rfl (yx hS288.front2 0 (cs_qCatalog z_qCatalog zw_qCatalog) fun w291 hS290 => ya 3 1 rfl (yb (W.ret (ye ?_))))))
 obtain rfl := sj hr
 exact yan _ (hS290.rd m0) ⟨I285, zw_qCatalog, rfl, le, hS290.drop.drop.drop.drop.drop, zok_qCatalog⟩
 refine yi (En.next (yf (yd nL3 (yc 0 1 [0] rfl (yg (hS288.rf m1) rfl (ya 2 1 rfl (yb (bsk hr fun j297 hr1 hr => W.jw (J := (fun fr w => ∃ (s315 : Int) (s316 : List qTable) (s317 : List qRole) (s318 : List qGrant) (s319 : qTable), ∃ I299 a_s316 c_s316 a_s317 c_s317 a_s318 c_s318 w_s319, (s315, s316, s317, s318, s319) = j297 ∧ fr = [(4, Pt b1 0), (8, Pt b9 0), (11, Pt b53 0)] ∧ I285.Le I299 ∧ St E w I299 ((Bx b1 (cs_qCatalog p0 w_p0) 29) :: (Bx b9 (cs_qCatalog s70 w_s70) 29) :: (Bx b53 (cs_qCatalog (⟨s315, s316, s317, s318⟩ : qCatalog) (⟨⟨a_s316, c_s316⟩, ⟨a_s317, c_s317⟩, ⟨a_s318, c_s318⟩⟩ : W_qCatalog)) 29) :: Os) ∧ RSl 6 R_qTable I299 a_s316 c_s316 s316 ∧ RSl 2 R_qRole I299 a_s317 c_s317 s317 ∧ RSl 5 R_qGrant I299 a_s318 c_s318 s318 ∧ ok_qTable I299 s319 w_s319)) ?_ ?_))))))))
 refine W.cb hr1 (fun hc hr1 => ?_) (fun hc hr1 => ?_)
 refine yd nL5 (yc 0 1 [0] rfl (yg (hS288.rf m0) rfl (yc 2 2 [2] rfl (yx hS288.front4 2 (cs_qTable ({ s75 with Version := (w64 (p0.Version + 1)) }) w_s75) fun w303 hS302 => yb (yaa nL4 (yv ((cs_qCatalog (⟨s71, s72, s73, s74⟩ : qCatalog) (⟨⟨a_s72, c_s72⟩, ⟨a_s73, c_s73⟩, ⟨a_s74, c_s74⟩⟩ : W_qCatalog))) (hS302.rf m4) rfl (yv ((cs_qTable ({ s75 with Version := (w64 (p0.Version + 1)) }) w_s75)) (hS302.rf m0) rfl ?_)))))))
 have hk304 : ok_qCatalog I285 (⟨s71, s72, s73, s74⟩ : qCatalog) (⟨⟨a_s72, c_s72⟩, ⟨a_s73, c_s73⟩, ⟨a_s74, c_s74⟩⟩ : W_qCatalog) := ⟨(RSl.mono h_s72 (hl271.trans hl286)), (RSl.mono h_s73 (hl271.trans hl286)), (RSl.mono h_s74 (hl271.trans hl286))⟩
 have hk305 : ok_qTable I285 ({ s75 with Version := (w64 (p0.Version + 1)) }) w_s75 := ⟨(RSl.mono h_s75.Cols (hl271.trans hl286)), (RSl.mono h_s75.Cons (hl271.trans hl286)), (RSl.mono h_s75.Idx (hl271.trans hl286))⟩
 refine bsk hr1 fun r311 hx_r306 hr1 => yab (r17_with_ok hk304 hk305 hS302 hx_r306) ?_
 rintro _ w307 ⟨I308, w_r311, rfl, hl309, hS310, h_r311⟩
 refine ⟨_, rfl, trivial, ?_⟩
 refine yx hS310.front4 0 (cs_qCatalog r311 w_r311) fun w314 hS313 => WO.nil ?_
 have hk320 : ok_qTable I308 ({ s75 with Version := (w64 (p0.Version + 1)) }) w_s75 := ⟨(RSl.mono h_s75.Cols ((hl271.trans hl286).trans hl309)), (RSl.mono h_s75.Cons ((hl271.trans hl286).trans hl309)), (RSl.mono h_s75.Idx ((hl271.trans hl286).trans hl309))⟩
 exact yq ⟨r311.Version, r311.Tables, r311.Roles, r311.Grants, { s75 with Version := (w64 (p0.Version + 1)) }, I308, w_r311.Tables.a, w_r311.Tables.c, w_r311.Roles.a, w_r311.Roles.c, w_r311.Grants.a, w_r311.Grants.c, w_s75, sj hr1, rfl, hl309, hS313.front1.drop.front2.drop.front2.front2, h_r311.Tables, h_r311.Roles, h_r311.Grants, hk320⟩
 exact yi (yq ⟨s71, s72, s73, s74, s75, I285, a_s72, c_s72, a_s73, c_s73, a_s74, c_s74, w_s75, sj hr1, rfl, lr, hS288.front1.drop.front3.drop, (RSl.mono h_s72 le), (RSl.mono h_s73 le), (RSl.mono h_s74 le), (h_s75.mono le)⟩)
 rintro _ w331 ⟨s315, s316, s317, s318, s319, I299, a_s316, c_s316, a_s317, c_s317, a_s318, c_s318, w_s319, rfl, rfl, hl300, hS332, h_s316, h_s317, h_s318, h_s319⟩
 refine En.next (yd nL5 (yc 0 1 [0] rfl (yg (hS332.rf m0) rfl (yc 2 2 [0] rfl (yx hS332.front2 0 (cs_qCatalog (⟨(w64 (p0.Version + 1)), s316, s317, s318⟩ : qCatalog) (⟨⟨a_s316, c_s316⟩, ⟨a_s317, c_s317⟩, ⟨a_s318, c_s318⟩⟩ : W_qCatalog)) fun w335 hS334 => y0 nL3 (yv ((cs_qCatalog (⟨(w64 (p0.Version + 1)), s316, s317, s318⟩ : qCatalog) (⟨⟨a_s316, c_s316⟩, ⟨a_s317, c_s317⟩, ⟨a_s318, c_s318⟩⟩ : W_qCatalog))) (hS334.rf m0) rfl (yx hS334.front2 0 (cs_qCatalog (⟨(w64 (p0.Version + 1)), s316, s317, s318⟩ : qCatalog) (⟨⟨a_s316, c_s316⟩, ⟨a_s317, c_s317⟩, ⟨a_s318, c_s318⟩⟩ : W_qCatalog)) fun w338 hS337 => ya 2 1 rfl (yb (W.ret ?_)))))))))
 have hk342 : ok_qCatalog I299 (⟨(w64 (p0.Version + 1)), s316, s317, s318⟩ : qCatalog) (⟨⟨a_s316, c_s316⟩, ⟨a_s317, c_s317⟩, ⟨a_s318, c_s318⟩⟩ : W_qCatalog) := ⟨h_s316, h_s317, h_s318⟩
 obtain rfl := sj hr
 exact yan _ (hS337.rd m0) ⟨I299, (⟨⟨a_s316, c_s316⟩, ⟨a_s317, c_s317⟩, ⟨a_s318, c_s318⟩⟩ : W_qCatalog), rfl, le, hS337.drop.drop.drop, hk342⟩
noncomputable def law19_first  : Option qCatalog := (r17_New).bind (fun r10 => (forE (fun (i32 : Nat) => fun (s31 : qCatalog) => ((idx ([(⟨#[97, 110, 110]⟩ : ByteArray), (⟨#[98, 111, 98]⟩ : ByteArray), (⟨#[99, 121]⟩ : ByteArray)] : List ByteArray) (i32 : Int)).bind (fun x46 => (r19_Make s31 ({ z_qStmt with Kind := 10, Name := x46 }) (⟨#[114, 111, 111, 116]⟩ : ByteArray) 1000).bind (fun (r57, r58) => some (r57, r58)))).bind (fun ((s61, s62) : qCatalog × Int) => ((bif (s62 == 0) then some s61 else some s31)).bind (fun (j101 : qCatalog) => some j101))) 3 0 r10).bind (fun s31 => (r17_Make s31 ({ z_qStmt with Kind := 1, Table := (⟨#[116]⟩ : ByteArray), Cols := ([{ z_qColumn with Name := (⟨#[97]⟩ : ByteArray), Type_ := 1 }] : List qColumn) }) (⟨#[97, 110, 110]⟩ : ByteArray) 1000).bind (fun (r134, r135) => ((bif (r135 == 0) then some r134 else some s31)).bind (fun (j142 : qCatalog) => some j142))))
theorem law19_first_ok (hS : St E w I Os) {r : qCatalog} (hr : law19_first = some r) :
    Calls P 9 #[] w (fun e w' => ∃ I' w_rw0, e = .returned (.agg (cs_qCatalog r w_rw0).toArray) ∧ I.Le I' ∧ St E w' I' Os ∧ ok_qCatalog I' r w_rw0) := by
 refine calls_W (fn := Tryz.f9) rfl rfl rfl ?_
 unfold law19_first at hr
 refine yd [0] (yy hS (cs_qCatalog z_qCatalog zw_qCatalog) 29 rfl fun b1 w4 hS3 => y0 nL3 (bsk hr fun r10 hx_r5 hr => yab (r17_New_ok  hS3 hx_r5) ?_))
 rintro _ w6 ⟨I7, w_r10, rfl, hl8, hS9, h_r10⟩
 refine ⟨_, rfl, trivial, ?_⟩
 refine yy hS9 (cs_qCatalog z_qCatalog zw_qCatalog) 29 rfl fun b11 w14 hS13 => yx hS13 0 (cs_qCatalog r10 w_r10) fun w16 hS15 => y0 nL2 (y4 (rel := RStr) (xs := ([(⟨#[97, 110, 110]⟩ : ByteArray), (⟨#[98, 111, 98]⟩ : ByteArray), (⟨#[99, 121]⟩ : ByteArray)] : List ByteArray)) hS15 rfl (by kernel_rfl) rfl 9 1 [[(.string (⟨#[97, 110, 110]⟩ : ByteArray))], [(.string (⟨#[98, 111, 98]⟩ : ByteArray))], [(.string (⟨#[99, 121]⟩ : ByteArray))]] (by kernel_rfl) rfl ((Elr.cons rfl (Elr.cons rfl (Elr.cons rfl Elr.nil)))) (fun _ _ _ => trivial) ?_)
 intro a20 C18 w22 hS21 ho19
 obtain ⟨I24, hl25, hS27, hp26⟩ := y6 ho19 hS21
 refine ya 1 1 rfl (yb (yf (yd [0] (ya 0 1 rfl (yb (W.block (bsk hr fun s31 hloop33 hr => have hlt38 := (hp26).len_lt; W.wk (W.forE (m := 3) hloop33 (fun (i32 : Nat) => fun (s31 : qCatalog) fr w => ∃ I29 w_s31, fr = [(0, Pt b1 0), (1, Pt b11 0), (2, .slice a20 3 3), (3, Nv i32)] ∧ I24.Le I29 ∧ St E w I29 ((Bx b1 (cs_qCatalog z_qCatalog zw_qCatalog) 29) :: (Bx b11 (cs_qCatalog s31 w_s31) 29) :: Os) ∧ ok_qCatalog I29 s31 w_s31) ⟨I24, w_r10, rfl, lr, hS27.front1, (h_r10.mono hl25)⟩ ?_ ?_))))))))
 rintro i32 s31 _ w35 hi39 ⟨I29, w_s31, rfl, hl30, hS36, h_s31⟩ x37 hr1
 refine yf (yd nL4 (ya 0 4 rfl (yb (yah fun _ => yi (En.next (yf (W.block (yf (bsk hr1 fun j40 hr2 hr1 => W.jw (J := (fun fr w => ∃ (s61 : qCatalog) (s62 : Int), ∃ I42 w_s61 b_s61, (s61, s62) = j40 ∧ fr = [(0, Pt b1 0), (1, Pt b11 0), (2, .slice a20 3 3), (3, Nv i32), (4, Pt b_s61 0), (5, Iv s62)] ∧ I29.Le I42 ∧ St E w I42 ((Bx b1 (cs_qCatalog z_qCatalog zw_qCatalog) 29) :: (Bx b11 (cs_qCatalog s31 w_s31) 29) :: (Bx b_s61 (cs_qCatalog s61 w_s61) 29) :: Os) ∧ ok_qCatalog I42 s61 w_s61)) ?_ ?_)))))))))
 have hS44 := hS36.drew
 refine W.draws (.split 10 5 (.leaf [0, 1, 2, 3, 4, 10, 5, 6, 7, 8, 9, 11, 12]) (.split 10 6 (.leaf [0, 1, 2, 3, 4, 5, 10, 6, 7, 8, 9, 11, 12]) (.leaf nL13))) 11 (KR I29 [Bx b11 (cs_qCatalog s31 w_s31) 29]) qR (.ords nL13 [0, 1, 2, 3, 4, 5, 6, 7, 8, 10, 11, 9, 12] (by kernel_rfl) (by kernel_rfl) (by kernel_rfl) (by kernel_rfl) (by kernel_rfl)) (by kernel_rfl) (KR.cons (hS44.rd m1) (KR.nil hS44.im)) ?_
 generalize World.drew _ = w45 at *
 refine ⟨?_, ?_⟩
 show WO _ _ _ _ _ _ _ [0, 1, 2, 3, 4, 10, 5, 6, 7, 8, 9, 11, 12] _ _
 refine yv ((cs_qCatalog s31 w_s31)) (rd_c m0 (hS44.rd m1)) rfl (ya 1 2 rfl (y7 18 rfl (show Value.slice a20 3 3 = Value.slice a20 ([(⟨#[97, 110, 110]⟩ : ByteArray), (⟨#[98, 111, 98]⟩ : ByteArray), (⟨#[99, 121]⟩ : ByteArray)] : List ByteArray).length 3 from rfl) ?_))
 obtain ⟨x46, hr2, hb_x46, _, rfl, hc_x46⟩ := sl_ix ((RSl.mono hp26 hl30)) hr2
 refine y3 9 1 hb_x46 rfl (yaf hc_x46 (rd_i hS44.im) rfl (ya7 hS44 rfl (by kernel_rfl) rfl (.cells (cs_qCatalog z_qCatalog zw_qCatalog).toArray 29 (0, 0)) (fun b => .pointer (some ⟨b, 0, none⟩)) (by kernel_rfl) (fun b47 w50 hS49 => (KR.cons (hS49.rd m2) (KR.nil hS49.im))) ?_))
 intro b47 w50 hS49
 refine yh 5 22 (.agg (cs_qStmt ({ z_qStmt with Kind := 10, Name := x46 }) zw_qStmt).toArray) ?_
 have hk51 : ok_qStmt I29 ({ z_qStmt with Kind := 10, Name := x46 }) zw_qStmt := ⟨SlAt.nil, SlAt.nil, SlAt.nil, SlAt.nil, zok_qStmt.Where, SlAt.nil, SlAt.nil, SlAt.nil⟩
 obtain ⟨⟨r57, r58⟩, hx_r52, hr2⟩ := bsm hr2
 refine yab (r19_Make_ok h_s31 hk51 hS49 hx_r52) ?_
 rintro _ w53 ⟨I54, w_r57, rfl, hl55, hS56, h_r57⟩
 refine ⟨_, rfl, (KR.cons (hS56.rd m2) (KR.nil (hS56.im.of_le hl55))), ?_⟩
 exact ya 7 3 rfl (WO.tail rfl (yx hS56 0 (cs_qCatalog r57 w_r57) fun w60 hS59 => ya 12 1 rfl (WO.nil (yq ⟨r57, r58, I54, w_r57, b47, sj hr2, rfl, hl55, hS59.front2.front2, h_r57⟩))))
 refine ⟨?_, ?_⟩
 show WO _ _ _ _ _ _ _ [0, 1, 2, 3, 4, 5, 10, 6, 7, 8, 9, 11, 12] _ _
 refine yv ((cs_qCatalog s31 w_s31)) (rd_c m0 (hS44.rd m1)) rfl (ya 1 2 rfl (y7 18 rfl (show Value.slice a20 3 3 = Value.slice a20 ([(⟨#[97, 110, 110]⟩ : ByteArray), (⟨#[98, 111, 98]⟩ : ByteArray), (⟨#[99, 121]⟩ : ByteArray)] : List ByteArray).length 3 from rfl) ?_))
 obtain ⟨x65, hr2, hb_x65, _, rfl, hc_x65⟩ := sl_ix ((RSl.mono hp26 hl30)) hr2
 refine y3 9 1 hb_x65 rfl (yaf hc_x65 (rd_i hS44.im) rfl (yh 5 22 (.agg (cs_qStmt ({ z_qStmt with Kind := 10, Name := x65 }) zw_qStmt).toArray) (ya7 hS44 rfl (by kernel_rfl) rfl (.cells (cs_qCatalog z_qCatalog zw_qCatalog).toArray 29 (0, 0)) (fun b => .pointer (some ⟨b, 0, none⟩)) (by kernel_rfl) (fun b66 w69 hS68 => (KR.cons (hS68.rd m2) (KR.nil hS68.im))) ?_)))
 intro b66 w69 hS68
 have hk70 : ok_qStmt I29 ({ z_qStmt with Kind := 10, Name := x65 }) zw_qStmt := ⟨SlAt.nil, SlAt.nil, SlAt.nil, SlAt.nil, zok_qStmt.Where, SlAt.nil, SlAt.nil, SlAt.nil⟩
 obtain ⟨⟨r76, r77⟩, hx_r71, hr2⟩ := bsm hr2
 refine yab (r19_Make_ok h_s31 hk70 hS68 hx_r71) ?_
 rintro _ w72 ⟨I73, w_r76, rfl, hl74, hS75, h_r76⟩
 refine ⟨_, rfl, (KR.cons (hS75.rd m2) (KR.nil (hS75.im.of_le hl74))), ?_⟩
 exact ya 7 3 rfl (WO.tail rfl (yx hS75 0 (cs_qCatalog r76 w_r76) fun w79 hS78 => ya 12 1 rfl (WO.nil (yq ⟨r76, r77, I73, w_r76, b66, sj hr2, rfl, hl74, hS78.front2.front2, h_r76⟩))))
 show WO _ _ _ _ _ _ _ nL13 _ _
 refine yv ((cs_qCatalog s31 w_s31)) (rd_c m0 (hS44.rd m1)) rfl (ya 1 2 rfl (y7 18 rfl (show Value.slice a20 3 3 = Value.slice a20 ([(⟨#[97, 110, 110]⟩ : ByteArray), (⟨#[98, 111, 98]⟩ : ByteArray), (⟨#[99, 121]⟩ : ByteArray)] : List ByteArray).length 3 from rfl) ?_))
 obtain ⟨x82, hr2, hb_x82, _, rfl, hc_x82⟩ := sl_ix ((RSl.mono hp26 hl30)) hr2
 refine y3 9 1 hb_x82 rfl (yaf hc_x82 (rd_i hS44.im) rfl (yh 5 22 (.agg (cs_qStmt ({ z_qStmt with Kind := 10, Name := x82 }) zw_qStmt).toArray) ?_))
 have hk83 : ok_qStmt I29 ({ z_qStmt with Kind := 10, Name := x82 }) zw_qStmt := ⟨SlAt.nil, SlAt.nil, SlAt.nil, SlAt.nil, zok_qStmt.Where, SlAt.nil, SlAt.nil, SlAt.nil⟩
 obtain ⟨⟨r89, r90⟩, hx_r84, hr2⟩ := bsm hr2
 refine yab (r19_Make_ok h_s31 hk83 hS44 hx_r84) ?_
 rintro _ w85 ⟨I86, w_r89, rfl, hl87, hS88, h_r89⟩
 refine ⟨_, rfl, (KR.cons (hS88.rd m1) (KR.nil (hS88.im.of_le hl87))), ?_⟩
 refine ya 7 3 rfl (ya7 hS88 rfl (by kernel_rfl) rfl (.cells (cs_qCatalog z_qCatalog zw_qCatalog).toArray 29 (0, 0)) (fun b => .pointer (some ⟨b, 0, none⟩)) (by kernel_rfl) (fun b91 w94 hS93 => (KR.cons (hS93.rd m2) (KR.nil (hS93.im.of_le hl87)))) ?_)
 intro b91 w94 hS93
 exact WO.tail rfl (yx hS93 0 (cs_qCatalog r89 w_r89) fun w96 hS95 => ya 12 1 rfl (WO.nil (yq ⟨r89, r90, I86, w_r89, b91, sj hr2, rfl, hl87, hS95.front2.front2, h_r89⟩)))
 rintro _ w99 ⟨s61, s62, I42, w_s61, b_s61, rfl, rfl, hl43, hS100, h_s61⟩
 refine En.next (yd nL2 (ya 0 2 rfl (yb (bsk hr1 fun j101 hr2 hr1 => W.jw (J := (fun fr w => ∃ I103 w_j101, fr = [(0, Pt b1 0), (1, Pt b11 0), (2, .slice a20 3 3), (3, Nv i32)] ∧ I42.Le I103 ∧ St E w I103 ((Bx b1 (cs_qCatalog z_qCatalog zw_qCatalog) 29) :: (Bx b11 (cs_qCatalog j101 w_j101) 29) :: Os) ∧ ok_qCatalog I103 j101 w_j101)) ?_ ?_))))
 refine W.cb hr2 (fun hc hr2 => ?_) (fun hc hr2 => ?_)
 refine yaa nL2 (yv ((cs_qCatalog s61 w_s61)) (hS100.rf m2) rfl (yx hS100.front1 0 (cs_qCatalog s61 w_s61) fun w107 hS106 => WO.nil ?_))
 obtain rfl := sj hr2
 exact yq ⟨I42, w_s61, rfl, lr, hS106.front2.drop.front1, h_s61⟩
 refine yi ?_
 obtain rfl := sj hr2
 exact yq ⟨I42, w_s31, rfl, lr, hS100.front2.drop, (h_s31.mono hl43)⟩
 rintro _ w113 ⟨I103, w_j101, rfl, hl104, hS114, h_j101⟩
 refine yk (En.next (yaa nL3 (ya 0 1 rfl (yae i32 rfl (ya 2 1 rfl (WO.nil ?_))))))
 obtain rfl := sj hr1
 exact yq ⟨I103, w_j101, rfl, le, hS114, h_j101⟩
 rintro _ w115 ⟨I29, w_s31, rfl, hl30, hS116, h_s31⟩
 refine yf (yd nL4 (ya 0 4 rfl (yb (yai fun _ => yz (ym (yn (yo (En.next (yd nL11 (yv ((cs_qCatalog s31 w_s31)) (hS116.rf m1) rfl (yh 1 31 (.agg (cs_qColumn ({ z_qColumn with Name := (⟨#[97]⟩ : ByteArray), Type_ := 1 })).toArray) (y4 (rel := R_qColumn) (xs := ([{ z_qColumn with Name := (⟨#[97]⟩ : ByteArray), Type_ := 1 }] : List qColumn)) hS116 rfl (by kernel_rfl) rfl 73 3 [(cs_qColumn ({ z_qColumn with Name := (⟨#[97]⟩ : ByteArray), Type_ := 1 }))] (by kernel_rfl) rfl ((Elr.cons rfl Elr.nil)) (fun _ _ _ => trivial) ?_))))))))))))
 intro a120 C118 w122 hS121 ho119
 obtain ⟨I124, hl125, hS127, hp126⟩ := y6 ho119 hS121
 refine yh 3 33 (.agg #[(Iv 1), (.string (⟨#[116]⟩ : ByteArray)), (.string (⟨#[]⟩ : ByteArray)), (.string (⟨#[]⟩ : ByteArray)), (.slice a120 1 1), (.slice none 0 0), (.slice none 0 0), (.slice none 0 0), (Iv 0), (Iv 0), (Iv 0), (Iv 0), (.string (⟨#[]⟩ : ByteArray)), (.string (⟨#[]⟩ : ByteArray)), (.slice none 0 0), (.slice none 0 0), (.slice none 0 0), (Iv 0), (Iv 0), (.bool false), (.slice none 0 0)]) ?_
 have hk128 : ok_qStmt I124 ({ z_qStmt with Kind := 1, Table := (⟨#[116]⟩ : ByteArray), Cols := ([{ z_qColumn with Name := (⟨#[97]⟩ : ByteArray), Type_ := 1 }] : List qColumn) }) ({ zw_qStmt with Cols := ⟨a120, 1⟩ }) := ⟨hp126, SlAt.nil, SlAt.nil, SlAt.nil, zok_qStmt.Where, SlAt.nil, SlAt.nil, SlAt.nil⟩
 obtain ⟨⟨r134, r135⟩, hx_r129, hr⟩ := bsm hr
 refine yab (r17_Make_ok (h_s31.mono hl125) hk128 hS127 hx_r129) ?_
 rintro _ w130 ⟨I131, w_r134, rfl, hl132, hS133, h_r134⟩
 refine ⟨_, rfl, trivial, ?_⟩
 refine ya 5 3 rfl (yy hS133 (cs_qCatalog z_qCatalog zw_qCatalog) 29 rfl fun b136 w139 hS138 => yx hS138 0 (cs_qCatalog r134 w_r134) fun w141 hS140 => ya 10 1 rfl (yb (yf (yd nL2 (ya 0 2 rfl (yb (bsk hr fun j142 hr1 hr => W.jw (J := (fun fr w => ∃ I144 w_j142, fr = [(0, Pt b1 0), (1, Pt b11 0)] ∧ I131.Le I144 ∧ St E w I144 ((Bx b1 (cs_qCatalog z_qCatalog zw_qCatalog) 29) :: (Bx b11 (cs_qCatalog j142 w_j142) 29) :: Os) ∧ ok_qCatalog I144 j142 w_j142)) ?_ ?_)))))))
 refine W.cb hr1 (fun hc hr1 => ?_) (fun hc hr1 => ?_)
 refine yaa nL2 (yv ((cs_qCatalog r134 w_r134)) (hS140.rf m0) rfl (yx hS140.front2 0 (cs_qCatalog r134 w_r134) fun w148 hS147 => WO.nil ?_))
 obtain rfl := sj hr1
 exact yq ⟨I131, w_r134, rfl, lr, hS147.front1.drop.front1, h_r134⟩
 refine yi ?_
 obtain rfl := sj hr1
 exact yq ⟨I131, w_s31, rfl, lr, hS140.drop, (h_s31.mono le)⟩
 rintro _ w153 ⟨I144, w_j142, rfl, hl145, hS154, h_j142⟩
 refine En.next (yd nL2 (yv ((cs_qCatalog j142 w_j142)) (hS154.rf m1) rfl (yx hS154 0 (cs_qCatalog j142 w_j142) fun w156 hS155 => yb (W.ret ?_))))
 obtain rfl := sj hr
 exact En.c1 _ (hS155.rd m0) ⟨I144, w_j142, rfl, le, hS155.drop.drop, h_j142⟩
noncomputable def law19_Next (p0 : qCatalog) (p1 : law19_Act) : Option (qCatalog × Int) := (r19_Make p0 p1.S p1.By 1000).bind (fun (r18, r19) => ((bif (decide (p1.S.Kind < 10)) then (r17_Make p0 p1.S p1.By 1000).bind (fun (r35, r36) => some (r36, r35)) else some (r19, r18))).bind (fun ((s39, s40) : Int × qCatalog) => (bif (s39 != 0) then some (p0, s39) else some (s40, s39))))
theorem law19_Next_ok {p0 : qCatalog} {p1 : law19_Act} {w_p0 : W_qCatalog} {w_p1 : W_law19_Act} (h_p0 : ok_qCatalog I p0 w_p0) (h_p1 : ok_law19_Act I p1 w_p1) (hS : St E w I Os) {r : qCatalog × Int} (hr : law19_Next p0 p1 = some r) :
    Calls P 10 #[(.agg (cs_qCatalog p0 w_p0).toArray), (.agg (cs_law19_Act p1 w_p1).toArray)] w (fun e w' => ∃ I' w_rw0, e = .returned (.tuple #[(.agg (cs_qCatalog r.1 w_rw0).toArray), (Iv r.2)]) ∧ I.Le I' ∧ St E w' I' Os ∧ ok_qCatalog I' r.1 w_rw0) := by
 refine calls_W (fn := Tryz.f10) rfl rfl rfl ?_
 unfold law19_Next at hr
 refine yd nL4 (yy hS (cs_qCatalog p0 w_p0) 29 rfl fun b1 w4 hS3 => yy hS3 (cs_law19_Act p1 w_p1) 46 rfl fun b5 w8 hS7 => yy hS7 (cs_qCatalog z_qCatalog zw_qCatalog) 29 rfl fun b9 w12 hS11 => ya 3 1 rfl (y0 nL12 (yv ((cs_qCatalog p0 w_p0)) (hS11.rf m2) rfl (yc 1 1 [0] rfl (yv ((cs_qStmt p1.S w_p1.S)) (hS11.rf m1) rfl (yc 3 1 [21] rfl (yg (hS11.rf m1) rfl ?_)))))))
 obtain ⟨⟨r18, r19⟩, hx_r13, hr⟩ := bsm hr
 refine yab (r19_Make_ok h_p0 h_p1.S hS11 hx_r13) ?_
 rintro _ w14 ⟨I15, w_r18, rfl, hl16, hS17, h_r18⟩
 refine ⟨_, rfl, trivial, ?_⟩
 refine ya 6 3 rfl (yy hS17 (cs_qCatalog z_qCatalog zw_qCatalog) 29 rfl fun b20 w23 hS22 => yx hS22 0 (cs_qCatalog r18 w_r18) fun w25 hS24 => ya 11 1 rfl (yb (yf (yd nL4 (yc 0 2 [0, 0] rfl (yg (hS24.rf m2) rfl (ya 3 1 rfl (yb (bsk hr fun j26 hr1 hr => W.jw (J := (fun fr w => ∃ (s39 : Int) (s40 : qCatalog), ∃ I28 w_s40, (s39, s40) = j26 ∧ fr = [(2, Pt b1 0), (4, Pt b9 0), (6, Pt b20 0), (7, Iv s39)] ∧ I15.Le I28 ∧ St E w I28 ((Bx b1 (cs_qCatalog p0 w_p0) 29) :: (Bx b9 (cs_qCatalog z_qCatalog zw_qCatalog) 29) :: (Bx b20 (cs_qCatalog s40 w_s40) 29) :: Os) ∧ ok_qCatalog I28 s40 w_s40)) ?_ ?_)))))))))
 refine W.cb hr1 (fun hc hr1 => ?_) (fun hc hr1 => ?_)
 refine yaa nL11 (yv ((cs_qCatalog p0 w_p0)) (hS24.rf m3) rfl (yc 1 1 [0] rfl (yv ((cs_qStmt p1.S w_p1.S)) (hS24.rf m2) rfl (yc 3 1 [21] rfl (yg (hS24.rf m2) rfl ?_)))))
 obtain ⟨⟨r35, r36⟩, hx_r30, hr1⟩ := bsm hr1
 refine yab (r17_Make_ok (h_p0.mono hl16) (h_p1.S.mono hl16) hS24 hx_r30) ?_
 rintro _ w31 ⟨I32, w_r35, rfl, hl33, hS34, h_r35⟩
 refine ⟨_, rfl, trivial, ?_⟩
 exact ya 6 3 rfl (yx hS34 0 (cs_qCatalog r35 w_r35) fun w38 hS37 => ya 10 1 rfl (WO.nil (yq ⟨r36, r35, I32, w_r35, sj hr1, rfl, hl33, hS37.front2.drop.front1.front2, h_r35⟩)))
 exact yi (yq ⟨r19, r18, I15, w_r18, sj hr1, rfl, lr, hS24.front2.drop.front1.front2, h_r18⟩)
 rintro _ w49 ⟨s39, s40, I28, w_s40, rfl, rfl, hl29, hS50, h_s40⟩
 refine En.next (yf (yd nL2 (ya 0 2 rfl (yb (W.cb hr (fun hc hr => ?_) (fun hc hr => ?_))))))
 refine yd nL4 (yv ((cs_qCatalog p0 w_p0)) (hS50.rf m0) rfl (ya 1 1 rfl (yx hS50.front1 0 (cs_qCatalog p0 w_p0) fun w53 hS52 => ya 3 1 rfl (yb (W.ret (ye ?_))))))
 obtain rfl := sj hr
 exact yan _ (hS52.rd m0) ⟨I28, w_p0, rfl, le, hS52.drop.drop.drop, (h_p0.mono le)⟩
 refine yi (En.next (yd nL4 (yv ((cs_qCatalog s40 w_s40)) (hS50.rf m2) rfl (ya 1 1 rfl (yx hS50.front1 0 (cs_qCatalog s40 w_s40) fun w59 hS58 => ya 3 1 rfl (yb (W.ret ?_)))))))
 obtain rfl := sj hr
 exact yan _ (hS58.rd m0) ⟨I28, w_s40, rfl, le, hS58.drop.drop.drop, h_s40⟩
noncomputable def law19_Grown (p0 : List law19_Act) : Option qCatalog := (law19_first).bind (fun r10 => (forE (fun (i21 : Nat) => fun (s20 : qCatalog) => (idx p0 (i21 : Int)).bind (fun x31 => (law19_Next s20 x31).bind (fun (r37, r38) => some r37))) p0.length 0 r10).bind (fun s20 => some s20))
theorem law19_Grown_ok {p0 : List law19_Act} {a_p0 : Option Addr} {c_p0 : Nat} (h_p0 : RSl 22 R_law19_Act I a_p0 c_p0 p0) (hS : St E w I Os) {r : qCatalog} (hr : law19_Grown p0 = some r) :
    Calls P 16 #[(Sl a_p0 p0 c_p0)] w (fun e w' => ∃ I' w_rw0, e = .returned (.agg (cs_qCatalog r w_rw0).toArray) ∧ I.Le I' ∧ St E w' I' Os ∧ ok_qCatalog I' r w_rw0) := by
 refine calls_W (fn := Tryz.f16) rfl rfl rfl ?_
 unfold law19_Grown at hr
 refine yd [0] (yy hS (cs_qCatalog z_qCatalog zw_qCatalog) 29 rfl fun b1 w4 hS3 => y0 nL3 (bsk hr fun r10 hx_r5 hr => yab (law19_first_ok  hS3 hx_r5) ?_))
 rintro _ w6 ⟨I7, w_r10, rfl, hl8, hS9, h_r10⟩
 refine ⟨_, rfl, trivial, ?_⟩
 refine yy hS9 (cs_qCatalog z_qCatalog zw_qCatalog) 29 rfl fun b11 w14 hS13 => yx hS13 0 (cs_qCatalog r10 w_r10) fun w16 hS15 => yb (yf (yd [0] (ya 0 1 rfl (yb (W.block (bsk hr fun s20 hloop22 hr => have hlt27 := ((RSl.mono h_p0 hl8)).len_lt; W.wk (W.forE (m := p0.length) hloop22 (fun (i21 : Nat) => fun (s20 : qCatalog) fr w => ∃ I18 w_s20, fr = [(0, Sl a_p0 p0 c_p0), (2, Pt b1 0), (3, Pt b11 0), (4, Nv i21)] ∧ I7.Le I18 ∧ St E w I18 ((Bx b1 (cs_qCatalog z_qCatalog zw_qCatalog) 29) :: (Bx b11 (cs_qCatalog s20 w_s20) 29) :: Os) ∧ ok_qCatalog I18 s20 w_s20) ⟨I7, w_r10, rfl, lr, hS15.front1, h_r10⟩ ?_ ?_)))))))
 rintro i21 s20 _ w24 hi28 ⟨I18, w_s20, rfl, hl19, hS25, h_s20⟩ x26 hr1
 refine yf (yd nL4 (ya 0 4 rfl (yb (yah fun _ => yi (En.next (yf (W.block (have hS29 := hS25.drew; ya6 (l := nL10) (by kernel_rfl) 9 (KR I18 [Bx b11 (cs_qCatalog s20 w_s20) 29]) qR (.ords nL10 [0, 1, 2, 3, 4, 5, 6, 7, 9, 8] (by kernel_rfl) (by kernel_rfl) (by kernel_rfl) (by kernel_rfl) (by kernel_rfl)) (by kernel_rfl) (KR.cons (hS29.rd m1) (KR.nil hS29.im)) ?_))))))))
 generalize World.drew _ = w30 at *
 refine yv ((cs_qCatalog s20 w_s20)) (rd_c m0 (hS29.rd m1)) rfl (ya 1 2 rfl ?_)
 obtain ⟨x31, hr1, hb_x31, _, ⟨w_x31, rfl, h_x31⟩, hc_x31⟩ := sl_ix ((RSl.mono h_p0 (hl8.trans hl19))) hr1
 refine y3 46 22 hb_x31 rfl (yak ((cs_law19_Act x31 w_x31)) hc_x31 0 (rd_i hS29.im) rfl ?_)
 obtain ⟨⟨r37, r38⟩, hx_r32, hr1⟩ := bsm hr1
 refine yab (law19_Next_ok h_s20 h_x31 hS29 hx_r32) ?_
 rintro _ w33 ⟨I34, w_r37, rfl, hl35, hS36, h_r37⟩
 refine ⟨_, rfl, (KR.cons (hS36.rd m1) (KR.nil (hS36.im.of_le hl35))), ?_⟩
 refine ya 6 3 rfl (WO.tail rfl (yx hS36.front1 0 (cs_qCatalog r37 w_r37) fun w41 hS40 => WO.nil (yk (En.next (yaa nL3 (ya 0 1 rfl (yae i21 rfl (ya 2 1 rfl (WO.nil ?_)))))))))
 obtain rfl := sj hr1
 exact yq ⟨I34, w_r37, rfl, le, hS40.front1, h_r37⟩
 rintro _ w43 ⟨I18, w_s20, rfl, hl19, hS44, h_s20⟩
 refine yf (yd nL4 (ya 0 4 rfl (yb (yai fun _ => yz (ym (yn (yo (En.next (yd nL2 (yv ((cs_qCatalog s20 w_s20)) (hS44.rf m1) rfl (yx hS44 0 (cs_qCatalog s20 w_s20) fun w46 hS45 => yb (W.ret ?_))))))))))))
 obtain rfl := sj hr
 exact En.c1 _ (hS45.rd m0) ⟨I18, w_s20, rfl, le, hS45.drop.drop, h_s20⟩
def slices_IndexFunc_qRole (p0 : List qRole) (p1 : qRole → Option Bool) : Option Int := (forN (fun (i4 : Nat) => fun (_s : Unit) => (idx p0 (i4 : Int)).bind (fun x11 => (p1 x11).bind (fun (r17 : Bool) => (bif r17 then some (.inr (i4 : Int)) else some (.inl ()))))) p0.length 0 ()).bind (fun (t : Unit ⊕ (Int)) => match t with | .inl _ => some (-1) | .inr s19 => some s19)
theorem slices_IndexFunc_qRole_ok {p0 : List qRole} {p1 : qRole → Option Bool} {a_p0 : Option Addr} {c_p0 : Nat} {g_p1 : FuncId} {k_p1 : List Value} (h_p0 : RSl 2 R_qRole I a_p0 c_p0 p0) (h_p1 : ∀ {F : List Mem} {I' : Mem} {w : World} {u0 : qRole} {w_u0 : W_qRole}, I.Le I' → St E w I' (F ++ Os) → ok_qRole I' u0 w_u0 → ∀ {r : Bool}, p1 u0 = some r → Calls P g_p1 (([(.agg (cs_qRole u0 w_u0).toArray)] : List Value) ++ k_p1).toArray w (fun e w' => ∃ (I'' : Mem), e = .returned (.bool r) ∧ I'.Le I'' ∧ St E w' I'' (F ++ Os))) (hcall_p1 : Callable P g_p1) (hS : St E w I Os) {r : Int} (hr : slices_IndexFunc_qRole p0 p1 = some r) :
    Calls P 95 #[(Sl a_p0 p0 c_p0), (.func (.func g_p1) #[] k_p1.toArray)] w (fun e w' => ∃ I', e = .returned (Iv r) ∧ I.Le I' ∧ St E w' I' Os) := by
 refine calls_W (fn := Tryz.f95) rfl rfl rfl ?_
 unfold slices_IndexFunc_qRole at hr
 refine yd [0] (ya 0 1 rfl (yb (yf (yd nL3 (ya 0 3 rfl (yb (W.block (bsk hr fun t1 hloop5 hr => have hlt9 := (h_p0).len_lt; W.wk (W.forN (m := p0.length) hloop5 (fun (i4 : Nat) => fun (_s : Unit) fr w => ∃ I2, fr = [(0, Sl a_p0 p0 c_p0), (1, .func (.func g_p1) #[] k_p1.toArray), (7, Nv p0.length), (8, Nv i4)] ∧ I.Le I2 ∧ St E w I2 Os) ⟨I, rfl, lr, hS⟩ ?_ ?_)))))))))
 rintro i4 _ _ w6 hi10 ⟨I2, rfl, hl3, hS7⟩ x8 hr1 hext1
 refine yd [0] (ya 0 1 rfl (yb (yf (yah fun _ => yi (En.next (yf (W.block (yd nL2 (ya 0 2 rfl (y0 nL6 (yh 0 11 (.func (.func g_p1) #[] k_p1.toArray) (ya 1 2 rfl ?_))))))))))))
 obtain ⟨x11, hr1, hb_x11, _, ⟨w_x11, rfl, h_x11⟩, hc_x11⟩ := sl_ix ((RSl.mono h_p0 hl3)) hr1
 refine y3 62 2 hb_x11 rfl (yak ((cs_qRole x11 w_x11)) hc_x11 0 hS7.rm rfl (bsk hr1 fun r17 hx_r12 hr1 => WO.callv rfl (by kernel_rfl) rfl (g := g_p1) (kk := k_p1) (args := [(.agg (cs_qRole x11 w_x11).toArray)]) rfl (by kernel_rfl) hcall_p1 (h_p1 (F := []) hl3 hS7 h_x11 hx_r12) ?_))
 rintro _ w13 ⟨I14, rfl, hl15, hS16⟩
 refine ⟨_, rfl, trivial, ?_⟩
 refine yb (W.cb hr1 (fun hc hr1 => ?_) (fun hc hr1 => ?_))
 refine yd nL2 (ya 0 2 rfl (yb (W.ret (yj (ye (yp ?_))))))
 obtain rfl := hext1 _ (sj hr1).symm
 refine yj (ye ?_)
 obtain rfl := sj hr
 exact yu ⟨I14, rfl, le, hS16⟩
 exact yi (yk (En.next (yaa nL2 (yae i4 rfl (ya 1 1 rfl (WO.nil (yq ⟨(), (sj hr1).symm, I14, rfl, le, hS16⟩)))))))
 rintro _ _ w20 ⟨I2, rfl, hl3, hS21⟩ he
 cases he
 refine yd [0] (ya 0 1 rfl (yb (yf (yai fun _ => yz (ym (yn (yo (En.next (yd [0] (ya 0 1 rfl (yb (W.ret ?_))))))))))))
 obtain rfl := sj hr
 exact yu ⟨I2, rfl, hl3, hS21⟩
def member_at_1 (p0 : qRole) (q1 : ByteArray) : Option Bool := some (sEq p0.Name q1)
theorem member_at_1_ok {p0 : qRole} {q1 : ByteArray} {w_p0 : W_qRole} {kb1 : Nat} (h_p0 : ok_qRole I p0 w_p0) (hm1 : (Bx kb1 [(.string q1)] 9) ∈ Os) (hS : St E w I Os) {r : Bool} (hr : member_at_1 p0 q1 = some r) :
    Calls P 96 #[(.agg (cs_qRole p0 w_p0).toArray), (Pt kb1 0)] w (fun e w' => ∃ I', e = .returned (.bool r) ∧ I.Le I' ∧ St E w' I' Os) := by
 refine calls_W (fn := Tryz.f96) rfl rfl rfl ?_
 unfold member_at_1 at hr
 refine yd nL2 (yy hS (cs_qRole p0 w_p0) 62 rfl fun b1 w4 hS3 => ya 1 1 rfl (y0 nL5 (yc 0 1 [0] rfl (yg (hS3.rf m0) rfl (yg (rd_f (hS3.rd (List.Mem.tail _ hm1))) rfl (ya 3 2 rfl (yb (W.ret ?_))))))))
 obtain rfl := sj hr
 exact yu ⟨I, rfl, lr, hS3.drop⟩
def member_at (p0 : List qRole) (p1 : ByteArray) : Option Int := (slices_IndexFunc_qRole p0 (fun (u0 : qRole) => member_at_1 u0 p1)).bind (fun r10 => some r10)
theorem member_at_ok {p0 : List qRole} {p1 : ByteArray} {a_p0 : Option Addr} {c_p0 : Nat} (h_p0 : RSl 2 R_qRole I a_p0 c_p0 p0) (hS : St E w I Os) {r : Int} (hr : member_at p0 p1 = some r) :
    Calls P 56 #[(Sl a_p0 p0 c_p0), (.string p1)] w (fun e w' => ∃ I', e = .returned (Iv r) ∧ I.Le I' ∧ St E w' I' Os) := by
 refine calls_W (fn := Tryz.f56) rfl rfl rfl ?_
 unfold member_at at hr
 refine yd nL2 (yy hS [(.string p1)] 9 rfl fun b1 w4 hS3 => ya 1 1 rfl (y0 nL4 (ya 0 1 rfl (yh 1 6 (.func (.func 96) #[] #[(Pt b1 0)]) (bsk hr fun r10 hx_r5 hr => WO.c1 (slices_IndexFunc_qRole_ok h_p0 (fun {F Ic wc} {_} {_} hlc hSc h_u0 {rc} hrc => member_at_1_ok h_u0 (List.mem_append_right _ m0) hSc hrc) (fun _ _ => by kernel_rfl) hS3 hx_r5) rfl fun I7 w6 hl8 hS9 => ya 3 1 rfl (yb (W.ret ?_)))))))
 obtain rfl := sj hr
 exact yu ⟨I7, rfl, hl8, hS9.drop⟩
def slices_Clone_string (p0 : List ByteArray) : Option (List ByteArray) := (app 16 ([] : List ByteArray) p0).bind (fun x10 => some x10)
theorem slices_Clone_string_ok {p0 : List ByteArray} {a_p0 : Option Addr} {c_p0 : Nat} (h_p0 : RSl 1 RStr I a_p0 c_p0 p0) (hS : St E w I Os) {r : (List ByteArray)} (hr : slices_Clone_string p0 = some r) :
    Calls P 57 #[(Sl a_p0 p0 c_p0)] w (fun e w' => ∃ (I' : Mem) (ra0 : Option Addr) (rc0 : Nat) (rC0 : Mem), e = .returned (Sl ra0 r rc0) ∧ I.Le I' ∧ St E w' I' (rC0 :: Os) ∧ OwnSl 9 1 RStr I' rC0 ra0 rc0 r) := by
 refine calls_W (fn := Tryz.f57) rfl rfl rfl ?_
 unfold slices_Clone_string at hr
 refine yd [0] (yh 0 2 (.slice none 0 0) (yb (yf (yd nL2 (ya 0 1 rfl (ya2 (e := 9) rfl (by kernel_rfl) (by kernel_rfl) rfl rfl ?_))))))
 refine yb (W.cd (fun hc => ?_) (fun hc => ?_))
 have ha0 := Option.isNone_iff_eq_none.1 hc
 subst ha0
 have hx0 := (h_p0).none_nil
 subst hx0
 replace hr : some ([] : List ByteArray) = some r := by simpa [app] using hr
 refine yd [0] (yh 0 2 (.slice none 0 0) (yb (W.ret (ye ?_))))
 obtain rfl := sj hr
 exact yu ⟨I, none, 0, Mem.no, rfl, lr, hS.no, OwnSl.nil⟩
 clear hc
 refine yi (En.next (yd nL4 (y4 (rel := RStr) (xs := ([] : List ByteArray)) hS rfl (by kernel_rfl) rfl 9 1 [] (by kernel_rfl) rfl (Elr.nil) (fun _ _ _ => trivial) ?_)))
 intro a6 C4 w8 hS7 ho5
 refine ya 1 1 rfl ?_
 obtain ⟨x10, hx_x10, hr⟩ := bsm hr
 obtain ⟨h0_x10, he_x10⟩ := app_some hx_x10
 refine yaj 9 16 [(.string (⟨#[]⟩ : ByteArray))] hS7 ho5 h_p0 hS7.im h0_x10 he_x10 rfl fun a11 c12 w13 C14 hS15 ho16 => ya 3 1 rfl (yb (W.ret ?_))
 obtain rfl := sj hr
 exact yu ⟨I, a11, c12, C14, rfl, lr, hS15, ho16⟩
def member_Find (p0 : List qRole) (p1 : ByteArray) : Option (qRole × Bool) := (member_at p0 p1).bind (fun r10 => (bif (decide (r10 < 0)) then some (z_qRole, false) else (idx p0 r10).bind (fun x16 => (idx p0 r10).bind (fun x17 => (slices_Clone_string x17.In).bind (fun r23 => some ({ x16 with In := r23 }, true))))))
theorem member_Find_ok {p0 : List qRole} {p1 : ByteArray} {a_p0 : Option Addr} {c_p0 : Nat} (h_p0 : RSl 2 R_qRole I a_p0 c_p0 p0) (hS : St E w I Os) {r : qRole × Bool} (hr : member_Find p0 p1 = some r) :
    Calls P 32 #[(Sl a_p0 p0 c_p0), (.string p1)] w (fun e w' => ∃ I' w_rw0, e = .returned (.tuple #[(.agg (cs_qRole r.1 w_rw0).toArray), (.bool r.2)]) ∧ I.Le I' ∧ St E w' I' Os ∧ ok_qRole I' r.1 w_rw0) := by
 refine calls_W (fn := Tryz.f32) rfl rfl rfl ?_
 unfold member_Find at hr
 refine yd nL2 (yy hS (cs_qRole z_qRole zw_qRole) 62 rfl fun b1 w4 hS3 => ya 1 1 rfl (y0 nL4 (ya 0 2 rfl (bsk hr fun r10 hx_r5 hr => WO.c1 (member_at_ok h_p0 hS3 hx_r5) rfl fun I7 w6 hl8 hS9 => ya 3 1 rfl (yb (yf (yd nL2 (ya 0 2 rfl (yb (W.cb hr (fun hc hr => ?_) (fun hc hr => ?_)))))))))))
 refine yd nL3 (yh 0 12 (.agg (cs_qRole z_qRole zw_qRole).toArray) (yx hS9 0 (cs_qRole z_qRole zw_qRole) fun w12 hS11 => ya 2 1 rfl (yb (W.ret (ye ?_)))))
 obtain rfl := sj hr
 exact yan _ (hS11.rd m0) ⟨I7, zw_qRole, rfl, hl8, hS11.drop, zok_qRole⟩
 refine yi (En.next (yf (have hS14 := hS9.drew; yat nL14 11 (KR.nil hS14.im) ?_)))
 generalize World.drew _ = w15 at *
 refine ya 0 2 rfl ?_
 obtain ⟨x16, hr, hb_x16, _, ⟨w_x16, rfl, h_x16⟩, hc_x16⟩ := sl_ix ((RSl.mono h_p0 hl8)) hr
 refine y3 62 2 hb_x16 rfl (yc 3 1 [0] rfl (yaf hc_x16 (rd_i hS14.im) rfl (ya 5 2 rfl ?_)))
 obtain ⟨x17, hr, hb_x17, _, ⟨w_x17, rfl, h_x17⟩, hc_x17⟩ := sl_ix ((RSl.mono h_p0 hl8)) hr
 refine y3 62 2 hb_x17 rfl (yc 8 1 [1] rfl (yal hc_x17 1 (rd_i hS14.im) rfl (bsk hr fun r23 hx_r18 hr => yab (slices_Clone_string_ok h_x17.In hS14 hx_r18) ?_)))
 rintro _ w19 ⟨I20, a_r23, c_r23, C_r23, rfl, hl21, hS22, h_r23⟩
 refine ⟨_, rfl, (KR.nil (hS22.im.of_le hl21)), ?_⟩
 refine WO.tail rfl ?_
 obtain ⟨I24, hl25, hS27, hp26⟩ := y6 h_r23 hS22
 refine yh 11 24 (.agg (cs_qRole ({ x16 with In := r23 }) (⟨⟨a_r23, c_r23⟩⟩ : W_qRole)).toArray) (yx hS27 0 (cs_qRole ({ x16 with In := r23 }) (⟨⟨a_r23, c_r23⟩⟩ : W_qRole)) fun w29 hS28 => ya 13 1 rfl (yb (W.ret ?_)))
 have hk31 : ok_qRole I24 ({ x16 with In := r23 }) (⟨⟨a_r23, c_r23⟩⟩ : W_qRole) := ⟨hp26⟩
 obtain rfl := sj hr
 exact yan _ (hS28.rd m0) ⟨I24, (⟨⟨a_r23, c_r23⟩⟩ : W_qRole), rfl, le, hS28.drop, hk31⟩
theorem sorted98_99_ok {ν : Type} {val : Mem → Value → ν → Prop} {E w : World} {I C : Mem} {Os : List Mem} {m b : Nat} {l : List (ByteArray × ν)} (h : OwnMap Value.string val I C m l) (hS : St E w I (Gv.one b (.cells #[.map (some m)] 150 (0, 0)) :: C :: Os)) {r : List ByteArray} (hr : keysO l = some r) :
    Calls P 98 #[.func (.func 134) #[] #[.pointer (some ⟨b, 0, none⟩)]] w (fun e w' => ∃ (I' : Mem) (a : Option Addr) (c : Nat), e = .returned (.slice a r.length c) ∧ I.Le I' ∧ St E w' I' (Gv.one b (.cells #[.map (some m)] 150 (0, 0)) :: C :: Os) ∧ RSl 1 RStr I' a c r) :=
  keys_own h hS (kt := 9) (by kernel_rfl) (fun b' nn D0 R w h1 h2 h3 h4 h5 => Tryz.sortedAt98_99 b b' nn D0 R w h1 h2 h3 h4 h5) hr
theorem keys99_ok {m : Nat} (hS : St E w I Os) : Calls P 99 #[.map (some m)] w (fun e w' => ∃ b, e = .returned (.func (.func 134) #[] #[.pointer (some ⟨b, 0, none⟩)]) ∧ St E w' I (Gv.one b (.cells #[.map (some m)] 150 (0, 0)) :: Os)) := by
  refine (Tryz.maps_Keys_99 (some m) w).mono ?_
  rintro e w' ⟨rfl, rfl⟩
  exact ⟨_, rfl, hS.alloc _⟩
noncomputable def member_AllM (p0 : List qRole) (p1 : ByteArray) : M (List ByteArray) := bindM (optM (member_at p0 p1)) (fun (r6 : Int) => (bif (decide (r6 < 0)) then retM ([] : List ByteArray) else bindM (loopM (fun (s : Bool × (List (ByteArray × Bool))) => match s with | (s18, s19) => (bif s18 then bindM (rangeM (fun (k71 : ByteArray) (x72 : Bool) => fun (s33 : List ByteArray) => (member_Find p0 k71).bind (fun ((r91, r92) : qRole × Bool) => (forE (fun (i103 : Nat) => fun (s102 : List ByteArray) => (idx r91.In (i103 : Int)).bind (fun (x114 : ByteArray) => (some ((mget sEq s19 x114).getD false)).bind (fun (x115 : Bool) => ((bif (!x115) then (member_at p0 x114).bind (fun (r125 : Int) => some (decide (r125 ≥ 0))) else some false)).bind (fun (j116 : Bool) => ((bif j116 then (app 16 s102 ([x114] : List ByteArray)).bind (fun (x140 : List ByteArray) => some x140) else some s102)).bind (fun (j128 : List ByteArray) => some j128))))) r91.In.length 0 s33).bind (fun (s102 : (List ByteArray)) => some (.inl s102)))) s19 ([] : List ByteArray)) (fun (t : (List ByteArray) ⊕ Unit) => Sum.elim (fun (s33 : List ByteArray) => bindM (optM (forE (fun (i53 : Nat) => fun (s52 : List (ByteArray × Bool)) => (idx s33 (i53 : Int)).bind (fun (x61 : ByteArray) => some (mset sEq s52 x61 true))) s33.length 0 s19)) (fun (s52 : List (ByteArray × Bool)) => retM (.inl ((decide ((s33.length : Int) > 0)), s52)))) (fun _ _ => False) t) else retM (.inr s19))) (true, (mset sEq ([] : List (ByteArray × Bool)) p1 true))) (fun (s156 : List (ByteArray × Bool)) => bindM (optM (keysO s156)) (fun (r163 : List ByteArray) => retM r163))))
noncomputable def member_All (p0 : List qRole) (p1 : ByteArray) : Option (List ByteArray) := ofM (member_AllM p0 p1)
theorem member_All_ok {p0 : List qRole} {p1 : ByteArray} {a_p0 : Option Addr} {c_p0 : Nat} (h_p0 : RSl 2 R_qRole I a_p0 c_p0 p0) (hS : St E w I Os) {r : (List ByteArray)} (hr : member_All p0 p1 = some r) :
    Calls P 59 #[(.slice a_p0 p0.length c_p0), (.string p1)] w (fun e w' => ∃ (I' : Mem) (ra0 : Option Addr) (rc0 : Nat), e = .returned (.slice ra0 r.length rc0) ∧ I.Le I' ∧ St E w' I' Os ∧ RSl 1 RStr I' ra0 rc0 r) := by
  refine calls_W (args := [(.slice a_p0 p0.length c_p0), (.string p1)]) (fn := Tryz.f59) rfl rfl rfl ?_
  replace hr := ofM_some (m := member_AllM p0 p1) hr
  unfold member_AllM at hr
  refine yf ?_
  refine yag (l := [0]) (by kernel_rfl) ?_
  refine yad [(0, 4, (.slice none 0 0))] (by kernel_rfl) (fun _ => by kernel_rfl) ?_
  refine WO.nil ?_
  refine En.next ?_
  refine yf ?_
  refine yf ?_
  refine yag (l := [0, 1, 2, 3]) (by kernel_rfl) ?_
  refine yad [(0, 15, (.slice a_p0 p0.length c_p0)), (1, 16, (.string p1))] (by kernel_rfl) (fun _ => by kernel_rfl) ?_
  obtain ⟨r6, hx_r1, hr⟩ := optM_some hr
  refine ya3 rfl (by kernel_rfl) rfl (f := 56) (args := #[(.slice a_p0 p0.length c_p0), (.string p1)]) (by kernel_rfl) (member_at_ok h_p0 hS hx_r1) ?_
  rintro _ w2 ⟨I3, rfl, hl4, hS5⟩
  refine ⟨_, rfl, trivial, ?_⟩
  refine yad [(3, 18, (.bool (decide (r6 < 0))))] (by kernel_rfl) (fun _ => by kernel_rfl) ?_
  refine WO.nil ?_
  refine En.next ?_
  refine W.cond (b := (decide (r6 < 0))) rfl rfl (fun hc => ?_) (fun hc => ?_)
  · replace hr := condM_t hc hr
    refine yf ?_
    refine yag (l := [0]) (by kernel_rfl) ?_
    refine yad [(0, 4, (.slice none 0 0))] (by kernel_rfl) (fun _ => by kernel_rfl) ?_
    refine WO.nil ?_
    refine En.next ?_
    refine W.ret ?_
    refine ye ?_
    have he : ([] : List ByteArray) = r := hr
    subst r
    exact En.ret1 rfl (.slice none 0 0) rfl ⟨I3, none, 0, rfl, hl4, hS5, SlAt.nil⟩
  · replace hr := condM_f hc hr
    refine yi ?_
    refine En.next ?_
    refine yf ?_
    refine yag (l := [0, 1, 2, 3, 4]) (by kernel_rfl) ?_
    refine ya7 hS5 rfl (by kernel_rfl) rfl (.map #[] 0) (fun b => .map (some b)) (by kernel_rfl) (fun _ _ _ => trivial) ?_
    intro b7 w10 hS9
    refine yad [(1, 20, (.string p1))] (by kernel_rfl) (fun _ => by kernel_rfl) ?_
    refine WO.update (OwnMap.nil (enc := Value.string) (val := (val1 RBool)) (I := I3) (m := b7)) hS9 (t := 150) (kt := 9) (et := 4) (by kernel_rfl) (keyLaw_str (kt := 9) (by kernel_rfl)) rfl (by kernel_rfl) rfl (.inr rfl) rfl p1 rfl rfl (xv := true) rfl (fun _ _ _ => trivial) ?_
    intro w13 C11 hS12 hm14
    refine yad [(3, 21, (.map (some b7))), (4, 5, (.map (some b7)))] (by kernel_rfl) (fun _ => by kernel_rfl) ?_
    refine WO.nil ?_
    refine En.next ?_
    refine yf ?_
    refine yf ?_
    refine yag (l := [0]) (by kernel_rfl) ?_
    refine yad [(0, 6, (.bool true))] (by kernel_rfl) (fun _ => by kernel_rfl) ?_
    refine WO.nil ?_
    refine En.next ?_
    refine W.block ?_
    have hloop20 : Gv.loopM _ _ _ := hr
    refine W.weaken (fr' := [(0, (.slice a_p0 p0.length c_p0)), (5, (.map (some b7))), (6, (.bool true))]) (W.loopM hloop20 (fun (s : Bool × (List (ByteArray × Bool))) fr w => match s with | (s18, s19) => ∃ (I16 : Mem), ∃ (C_s19 : Mem), fr = [(0, (.slice a_p0 p0.length c_p0)), (5, (.map (some b7))), (6, (.bool s18))] ∧ I3.Le I16 ∧ St E w I16 ((C_s19) :: Os) ∧ OwnMap Value.string (val1 RBool) I16 C_s19 b7 s19) ⟨I3, C11, rfl, Mem.Le.refl _, hS12, hm14⟩ ?_) (Sub.cons rfl (Sub.cons rfl (Sub.cons rfl Sub.nil)))
    rintro ⟨s18, s19⟩ _ w21 ⟨I16, C_s19, rfl, hl17, hS22, h_s19⟩ Kx23 hr1
    refine yf ?_
    refine yf ?_
    refine yag (l := [0]) (by kernel_rfl) ?_
    refine yad [(0, 22, (.bool s18))] (by kernel_rfl) (fun _ => by kernel_rfl) ?_
    refine WO.nil ?_
    refine En.next ?_
    refine W.cond (b := s18) rfl rfl (fun hc => ?_) (fun hc => ?_)
    · replace hr1 := condM_t hc hr1
      refine yi ?_
      refine En.next ?_
      refine W.block ?_
      refine yf ?_
      refine yag (l := [0]) (by kernel_rfl) ?_
      refine yad [(0, 7, (.slice none 0 0))] (by kernel_rfl) (fun _ => by kernel_rfl) ?_
      refine WO.nil ?_
      refine En.next ?_
      refine yf ?_
      refine yf ?_
      refine yag (l := [0, 1]) (by kernel_rfl) ?_
      refine yad [(0, 23, (.map (some b7)))] (by kernel_rfl) (fun _ => by kernel_rfl) ?_
      refine WO.rangeMap h_s19 hS22 (t := 150) (kt := 9) (et := 4) (by kernel_rfl) rfl (by kernel_rfl) rfl rfl (fun _ _ _ => trivial) ?_
      intro b24 w25 D26 hS27 hit28
      refine WO.nil ?_
      refine En.next ?_
      refine W.block ?_
      have hloop38 : Gv.rangeM _ _ _ _ := hr1
      have hS40 := hS27.no
      have hS41 := hS40.front1
      have hS42 := hS41.front2
      refine W.weaken (fr' := [(0, (.slice a_p0 p0.length c_p0)), (5, (.map (some b7))), (7, (.slice none ([] : List ByteArray).length 0)), (24, (.pointer (some ⟨b24, 0, none⟩)))]) (W.rangeM hloop38 (fun (rm34 : List (ByteArray × Bool)) => fun (s33 : List ByteArray) fr w => ∃ (I31 : Mem), ∃ (a_s33 : Option Addr), ∃ (c_s33 : Nat), ∃ (C_s33 : Mem), ∃ (D35 : Mem), ∃ (lst37 : Option (Value × Value)), fr = [(0, (.slice a_p0 p0.length c_p0)), (5, (.map (some b7))), (7, (.slice a_s33 s33.length c_s33)), (24, (.pointer (some ⟨b24, 0, none⟩)))] ∧ I16.Le I31 ∧ St E w I31 ((C_s19) :: (D35) :: (C_s33) :: Os) ∧ OwnSl 9 1 RStr I31 C_s33 a_s33 c_s33 s33 ∧ IterSt Value.string (val1 RBool) I31 C_s19 b7 s19 D35 b24 rm34 lst37) ⟨I16, none, 0, Mem.no, D26, _, rfl, Mem.Le.refl _, hS42, OwnSl.nil, hit28⟩ ?_) (Sub.cons rfl (Sub.cons rfl (Sub.cons rfl (Sub.cons rfl Sub.nil))))
      rintro rm34 s33 _ w43 ⟨I31, a_s33, c_s33, C_s33, D35, lst37, rfl, hl32, hS44, h_s33, hit36⟩ hst45 hend46
      refine yf ?_
      refine yag (l := [0, 1]) (by kernel_rfl) ?_
      have hS47 := hS44.front1
      refine WO.next hit36 hS47 rfl (by kernel_rfl) rfl rfl (fun _ _ _ => trivial) (fun he48 => ?_) ?_
      · skip
        replace hr1 := hend46 he48
        refine yad [(1, 26, (.bool false))] (by kernel_rfl) (fun _ => by kernel_rfl) ?_
        refine WO.nil ?_
        refine En.next ?_
        refine yf ?_
        refine W.cond (b := false) rfl rfl (fun hc => ?_) (fun hc => ?_)
        · cases hc
        clear hc
        refine yz ?_
        refine ym ?_
        refine yn ?_
        refine yo ?_
        refine En.next ?_
        refine yf ?_
        refine yag (l := [0, 1, 2, 3]) (by kernel_rfl) ?_
        refine yad [(0, 57, (.slice a_s33 s33.length c_s33)), (1, 58, (.int .i64 (s33.length : Int))), (2, 59, (.bool (decide ((s33.length : Int) > 0)))), (3, 6, (.bool (decide ((s33.length : Int) > 0))))] (by kernel_rfl) (fun _ => by kernel_rfl) ?_
        refine WO.nil ?_
        refine En.next ?_
        refine yf ?_
        refine yag (l := [0, 1, 2]) (by kernel_rfl) ?_
        refine yad [(0, 60, (.slice a_s33 s33.length c_s33)), (1, 61, (.int .i64 (s33.length : Int))), (2, 62, (.int .i64 0))] (by kernel_rfl) (fun _ => by kernel_rfl) ?_
        refine WO.nil ?_
        refine En.next ?_
        refine W.block ?_
        obtain ⟨s52, hloop54, hr1⟩ := optM_some hr1
        have hS55 := hS47.drop
        have hlt59 := (h_s33.sl).len_lt
        refine W.weaken (fr' := [(0, (.slice a_p0 p0.length c_p0)), (5, (.map (some b7))), (6, (.bool (decide ((s33.length : Int) > 0)))), (60, (.slice a_s33 s33.length c_s33)), (61, (.int .i64 (s33.length : Int))), (62, (.int .i64 ((0 : Nat) : Int)))]) (W.forE (m := s33.length) hloop54 (fun (i53 : Nat) => fun (s52 : List (ByteArray × Bool)) fr w => ∃ (I50 : Mem), ∃ (C_s52 : Mem), fr = [(0, (.slice a_p0 p0.length c_p0)), (5, (.map (some b7))), (6, (.bool (decide ((s33.length : Int) > 0)))), (60, (.slice a_s33 s33.length c_s33)), (61, (.int .i64 (s33.length : Int))), (62, (.int .i64 (i53 : Int)))] ∧ I31.Le I50 ∧ St E w I50 ((C_s52) :: (C_s33) :: Os) ∧ OwnMap Value.string (val1 RBool) I50 C_s52 b7 s52) ⟨I31, C_s19, rfl, Mem.Le.refl _, hS55, (OwnMap.mono h_s19 hl32)⟩ ?roundt49 ?lastt49) (Sub.cons rfl (Sub.cons rfl (Sub.cons rfl (Sub.cons rfl (Sub.cons rfl (Sub.cons rfl Sub.nil))))))
        case roundt49 =>
          rintro i53 s52 _ w56 hi60 ⟨I50, C_s52, rfl, hl51, hS57, h_s52⟩ x58 hr2
          refine yf ?_
          refine yag (l := [0]) (by kernel_rfl) ?_
          refine yad [(0, 63, (.bool (decide ((i53 : Int) < (s33.length : Int)))))] (by kernel_rfl) (fun _ => by kernel_rfl) ?_
          refine WO.nil ?_
          refine En.next ?_
          refine yf ?_
          refine W.cond (b := (decide ((i53 : Int) < (s33.length : Int)))) rfl rfl (fun hc => ?_) (fun hc => ?_)
          rotate_left
          · exact absurd hc (by first | (simp; done) | (simp; omega))
          clear hc
          refine yi ?_
          refine En.next ?_
          refine yf ?_
          refine W.block ?_
          refine yf ?_
          refine yag (l := [0, 1, 2]) (by kernel_rfl) ?_
          obtain ⟨x61, hx_x61, hr2⟩ := bind_some hr2
          obtain ⟨h0_x61, h1_x61, hx_x61⟩ := idx_some hx_x61
          obtain ⟨ha_x61, cs_x61, hn_x61, hr_x61, hc_x61⟩ := ((h_s33.mono hl51).sl).el _ _ hx_x61
          obtain rfl := hr_x61
          refine yaz (e := 9) (sz := 1) rfl (by kernel_rfl) (by kernel_rfl) (by kernel_rfl) rfl ha_x61 rfl h0_x61 h1_x61 ?_
          refine ya4 rfl (by kernel_rfl) (by kernel_rfl) rfl (v := (.string x61)) (fun w' hw' => hc_x61.cell0 (by kernel_rfl) ((rd_f (hS57.rd (List.Mem.tail _ (List.Mem.head _)))) w' hw')) ?_
          refine yad [(2, 14, (.string x61))] (by kernel_rfl) (fun _ => by kernel_rfl) ?_
          refine WO.nil ?_
          refine En.next ?_
          refine yag (l := [0, 1, 2]) (by kernel_rfl) ?_
          refine yad [(0, 66, (.map (some b7))), (1, 67, (.string x61))] (by kernel_rfl) (fun _ => by kernel_rfl) ?_
          refine WO.update h_s52 hS57 (t := 150) (kt := 9) (et := 4) (by kernel_rfl) (keyLaw_str (kt := 9) (by kernel_rfl)) rfl (by kernel_rfl) rfl (.inl rfl) rfl x61 rfl rfl (xv := true) rfl (fun _ _ _ => trivial) ?_
          intro w65 C62 hS63 hm66
          refine WO.nil ?_
          refine yk ?_
          refine En.next ?_
          refine yag (l := [0, 1]) (by kernel_rfl) ?_
          refine WO.incr (j := i53) rfl (by kernel_rfl) rfl (by first | omega | (dsimp only at *; omega)) ?_
          refine yad [(1, 62, (.int .i64 ((i53 + 1 : Nat) : Int)))] (by kernel_rfl) (fun _ => by kernel_rfl) ?_
          refine WO.nil ?_
          have he := Option.some.inj hr2
          subst x58
          refine En.weaken (fr' := [(0, (.slice a_p0 p0.length c_p0)), (5, (.map (some b7))), (6, (.bool (decide ((s33.length : Int) > 0)))), (60, (.slice a_s33 s33.length c_s33)), (61, (.int .i64 (s33.length : Int))), (62, (.int .i64 ((i53 + 1 : Nat) : Int)))]) (ya0 ⟨I50, C62, rfl, hl51, hS63, hm66⟩) (Sub.cons rfl (Sub.cons rfl (Sub.cons rfl (Sub.cons rfl (Sub.cons rfl (Sub.cons rfl Sub.nil))))))
        case lastt49 =>
          rintro _ w67 ⟨I50, C_s52, rfl, hl51, hS68, h_s52⟩
          refine yf ?_
          refine yag (l := [0]) (by kernel_rfl) ?_
          refine yad [(0, 63, (.bool (decide ((s33.length : Int) < (s33.length : Int)))))] (by kernel_rfl) (fun _ => by kernel_rfl) ?_
          refine WO.nil ?_
          refine En.next ?_
          refine yf ?_
          refine W.cond (b := (decide ((s33.length : Int) < (s33.length : Int)))) rfl rfl (fun hc => ?_) (fun hc => ?_)
          · exact absurd hc (by first | (simp; done) | (simp; omega))
          clear hc
          refine yz ?_
          refine ym ?_
          refine yn ?_
          refine yo ?_
          refine yk ?_
          have hS69 := hS68.front1
          have hS70 := hS69.drop
          refine En.weaken (fr' := [(0, (.slice a_p0 p0.length c_p0)), (5, (.map (some b7))), (6, (.bool (decide ((s33.length : Int) > 0))))]) (ya0 ⟨((decide ((s33.length : Int) > 0)), s52), hr1, I50, C_s52, rfl, ((hl17.trans hl32).trans hl51), hS70, h_s52⟩) (Sub.cons rfl (Sub.cons rfl (Sub.cons rfl Sub.nil)))
      · skip
        intro k71 x72 rm73 v74 w75 D76 hp77 hv78 hS79 hit80
        obtain ⟨y81, hy82, hex83⟩ := hst45 k71 x72 rm73 hp77
        have hr2 := hy82
        obtain rfl := (List.cons.inj hv78).1
        refine yad [(1, 26, (.bool true))] (by kernel_rfl) (fun _ => by kernel_rfl) ?_
        refine WO.nil ?_
        refine En.next ?_
        refine yf ?_
        refine W.cond (b := true) rfl rfl (fun hc => ?_) (fun hc => ?_)
        rotate_left
        · cases hc
        clear hc
        refine yi ?_
        refine En.next ?_
        refine W.block ?_
        refine yf ?_
        refine yag (l := [0, 1, 2]) (by kernel_rfl) ?_
        have hS84 := hS79.front1
        have hS85 := hS84.front1
        refine WO.entry hit80 hS85 rfl (by kernel_rfl) rfl rfl trivial ?_
        refine yad [(1, 28, (.string k71)), (2, 8, (.string k71))] (by kernel_rfl) (fun _ => by kernel_rfl) ?_
        refine WO.nil ?_
        refine En.next ?_
        refine yf ?_
        refine yag (l := [0, 1, 2, 3, 4, 5, 6, 7, 8]) (by kernel_rfl) ?_
        refine yad [(0, 30, (.slice a_p0 p0.length c_p0)), (1, 31, (.string k71))] (by kernel_rfl) (fun _ => by kernel_rfl) ?_
        obtain ⟨⟨r91, r92⟩, hx_r86, hr2⟩ := bind_some hr2
        refine ya3 rfl (by kernel_rfl) rfl (f := 32) (args := #[(.slice a_p0 p0.length c_p0), (.string k71)]) (by kernel_rfl) (member_Find_ok (RSl.mono h_p0 ((hl4.trans hl17).trans hl32)) hS85 hx_r86) ?_
        rintro _ w87 ⟨I88, w_r91, rfl, hl89, hS90, h_r91⟩
        refine ⟨_, rfl, trivial, ?_⟩
        refine yad [(3, 29, (.tuple #[(.agg (cs_qRole r91 w_r91).toArray), (.bool r92)])), (4, 33, (.agg (cs_qRole r91 w_r91).toArray)), (5, 34, (.bool r92))] (by kernel_rfl) (fun _ => by kernel_rfl) ?_
        refine ya7 hS90 rfl (by kernel_rfl) rfl (.cells (cs_qRole z_qRole zw_qRole).toArray 62 (0, 0)) (fun b => .pointer (some ⟨b, 0, none⟩)) (by kernel_rfl) (fun _ _ _ => trivial) ?_
        intro b93 w96 hS95
        refine ya8 hS95 rfl (by kernel_rfl) rfl 0 rfl rfl (by kernel_rfl) (by kernel_rfl) (by kernel_rfl) ((cs_qRole r91 w_r91).toArray) (by kernel_rfl) (fun _ _ => trivial) ?_
        intro w98 hS97
        refine yad [(8, 10, (.bool r92))] (by kernel_rfl) (fun _ => by kernel_rfl) ?_
        refine WO.nil ?_
        refine En.next ?_
        refine yf ?_
        refine yag (l := [0, 1, 2, 3]) (by kernel_rfl) ?_
        refine yad [(0, 35, (.pointer (some ⟨b93, 1, none⟩)))] (by kernel_rfl) (fun _ => by kernel_rfl) ?_
        refine ya4 rfl (by kernel_rfl) (by kernel_rfl) rfl (v := (.slice w_r91.In.a r91.In.length w_r91.In.c)) (fun w' hw' => cell_one ((rd_f (hS97.rd (List.Mem.head _))) w' hw') (by kernel_rfl)) ?_
        refine yad [(2, 37, (.int .i64 (r91.In.length : Int))), (3, 38, (.int .i64 0))] (by kernel_rfl) (fun _ => by kernel_rfl) ?_
        refine WO.nil ?_
        refine En.next ?_
        refine W.block ?_
        obtain ⟨s102, hloop104, hr2⟩ := bind_some hr2
        have hS105 := hS97.drop
        have hS106 := hS105.front2
        have hS107 := hS106.front1
        have hS108 := hS107.front2
        have hlt112 := (h_r91.In).len_lt
        refine W.weaken (fr' := [(0, (.slice a_p0 p0.length c_p0)), (5, (.map (some b7))), (7, (.slice a_s33 s33.length c_s33)), (24, (.pointer (some ⟨b24, 0, none⟩))), (36, (.slice w_r91.In.a r91.In.length w_r91.In.c)), (37, (.int .i64 (r91.In.length : Int))), (38, (.int .i64 ((0 : Nat) : Int)))]) (W.forE (m := r91.In.length) hloop104 (fun (i103 : Nat) => fun (s102 : List ByteArray) fr w => ∃ (I100 : Mem), ∃ (a_s102 : Option Addr), ∃ (c_s102 : Nat), ∃ (C_s102 : Mem), fr = [(0, (.slice a_p0 p0.length c_p0)), (5, (.map (some b7))), (7, (.slice a_s102 s102.length c_s102)), (24, (.pointer (some ⟨b24, 0, none⟩))), (36, (.slice w_r91.In.a r91.In.length w_r91.In.c)), (37, (.int .i64 (r91.In.length : Int))), (38, (.int .i64 (i103 : Int)))] ∧ I88.Le I100 ∧ St E w I100 ((C_s19) :: (D76) :: (C_s102) :: Os) ∧ OwnSl 9 1 RStr I100 C_s102 a_s102 c_s102 s102) ⟨I88, a_s33, c_s33, C_s33, rfl, Mem.Le.refl _, hS108, (OwnSl.mono h_s33 hl89)⟩ ?roundt99 ?lastt99) (Sub.cons rfl (Sub.cons rfl (Sub.cons rfl (Sub.cons rfl (Sub.cons rfl (Sub.cons rfl (Sub.cons rfl Sub.nil)))))))
        case roundt99 =>
          rintro i103 s102 _ w109 hi113 ⟨I100, a_s102, c_s102, C_s102, rfl, hl101, hS110, h_s102⟩ x111 hr3
          refine yf ?_
          refine yag (l := [0]) (by kernel_rfl) ?_
          refine yad [(0, 39, (.bool (decide ((i103 : Int) < (r91.In.length : Int)))))] (by kernel_rfl) (fun _ => by kernel_rfl) ?_
          refine WO.nil ?_
          refine En.next ?_
          refine yf ?_
          refine W.cond (b := (decide ((i103 : Int) < (r91.In.length : Int)))) rfl rfl (fun hc => ?_) (fun hc => ?_)
          rotate_left
          · exact absurd hc (by first | (simp; done) | (simp; omega))
          clear hc
          refine yi ?_
          refine En.next ?_
          refine yf ?_
          refine W.block ?_
          refine yf ?_
          refine yag (l := [0, 1, 2]) (by kernel_rfl) ?_
          obtain ⟨x114, hx_x114, hr3⟩ := bind_some hr3
          obtain ⟨h0_x114, h1_x114, hx_x114⟩ := idx_some hx_x114
          obtain ⟨ha_x114, cs_x114, hn_x114, hr_x114, hc_x114⟩ := ((RSl.mono h_r91.In hl101)).el _ _ hx_x114
          obtain rfl := hr_x114
          refine yaz (e := 9) (sz := 1) rfl (by kernel_rfl) (by kernel_rfl) (by kernel_rfl) rfl ha_x114 rfl h0_x114 h1_x114 ?_
          refine ya4 rfl (by kernel_rfl) (by kernel_rfl) rfl (v := (.string x114)) (fun w' hw' => hc_x114.cell0 (by kernel_rfl) ((rd_f hS110.im) w' hw')) ?_
          refine yad [(2, 12, (.string x114))] (by kernel_rfl) (fun _ => by kernel_rfl) ?_
          refine WO.nil ?_
          refine En.next ?_
          refine yf ?_
          refine yag (l := [0, 1, 2, 3, 4, 5, 6, 7, 8, 9]) (by kernel_rfl) ?_
          refine yad [(0, 42, (.map (some b7))), (1, 43, (.string x114))] (by kernel_rfl) (fun _ => by kernel_rfl) ?_
          obtain ⟨x115, hx_x115, hr3⟩ := bind_some hr3
          obtain ⟨v_x115, hv_x115, hq_x115⟩ := OwnMap.lookup (OwnMap.mono h_s19 ((hl32.trans hl89).trans hl101)) (t := 150) (kt := 9) (et := 4) (by kernel_rfl) (keyLaw_str (kt := 9) (by kernel_rfl)) x114 (zv := (.bool false)) (z0 := false) (by kernel_rfl) rfl
          rw [Option.some.inj hx_x115] at hv_x115
          obtain rfl := (List.cons.inj hv_x115).1
          refine WO.lookup rfl (by kernel_rfl) rfl rfl hq_x115 ((rd_f (hS110.rd (List.Mem.head _)))) (.bool x115) rfl ?_
          refine yad [(3, 45, (.bool (!x115))), (4, 46, (.bool (!x115)))] (by kernel_rfl) (fun _ => by kernel_rfl) ?_
          obtain ⟨j116, hr4, hr3⟩ := bind_some hr3
          refine WO.join (l1 := [5, 6, 7, 8, 9]) (l2 := []) (J := (fun fr w => ∃ (I118 : Mem), fr = [(0, (.slice a_p0 p0.length c_p0)), (5, (.map (some b7))), (7, (.slice a_s102 s102.length c_s102)), (12, (.string x114)), (24, (.pointer (some ⟨b24, 0, none⟩))), (36, (.slice w_r91.In.a r91.In.length w_r91.In.c)), (37, (.int .i64 (r91.In.length : Int))), (38, (.int .i64 (i103 : Int))), (51, (.bool j116))] ∧ I100.Le I118 ∧ St E w I118 ((C_s19) :: (D76) :: (C_s102) :: Os))) ?restj116 ?waysj116
          case waysj116 =>
            refine yr (!x115) (fun hc => ?_) (fun hc => ?_)
            · replace hr4 := cond_t hc hr4
              refine y7 46 rfl (show Value.bool (!x115) = Value.bool true by rw [hc]) ?_
              refine yad [(5, 47, (.slice a_p0 p0.length c_p0)), (6, 48, (.string x114))] (by kernel_rfl) (fun _ => by kernel_rfl) ?_
              obtain ⟨r125, hx_r120, hr4⟩ := bind_some hr4
              refine ya3 rfl (by kernel_rfl) rfl (f := 56) (args := #[(.slice a_p0 p0.length c_p0), (.string x114)]) (by kernel_rfl) (member_at_ok (RSl.mono h_p0 ((((hl4.trans hl17).trans hl32).trans hl89).trans hl101)) hS110 hx_r120) ?_
              rintro _ w121 ⟨I122, rfl, hl123, hS124⟩
              refine ⟨_, rfl, trivial, ?_⟩
              refine yad [(8, 50, (.bool (decide (r125 ≥ 0)))), (9, 51, (.bool (decide (r125 ≥ 0))))] (by kernel_rfl) (fun _ => by kernel_rfl) ?_
              have he := Option.some.inj hr4
              subst j116
              refine WO.weaken (fr' := [(0, (.slice a_p0 p0.length c_p0)), (5, (.map (some b7))), (7, (.slice a_s102 s102.length c_s102)), (12, (.string x114)), (24, (.pointer (some ⟨b24, 0, none⟩))), (36, (.slice w_r91.In.a r91.In.length w_r91.In.c)), (37, (.int .i64 (r91.In.length : Int))), (38, (.int .i64 (i103 : Int))), (51, (.bool (decide (r125 ≥ 0))))]) (WO.meet ⟨I122, rfl, hl123, hS124⟩) (Sub.cons rfl (Sub.cons rfl (Sub.cons rfl (Sub.cons rfl (Sub.cons rfl (Sub.cons rfl (Sub.cons rfl (Sub.cons rfl (Sub.cons rfl Sub.nil)))))))))
            · replace hr4 := cond_f hc hr4
              refine y7 46 rfl (show Value.bool (!x115) = Value.bool false by rw [hc]) ?_
              refine yba rfl (by kernel_rfl) rfl ?_
              refine yba rfl (by kernel_rfl) rfl ?_
              refine yba rfl (by kernel_rfl) rfl ?_
              refine yba rfl (by kernel_rfl) rfl ?_
              refine yad [(9, 51, (.bool false))] (by kernel_rfl) (fun _ => by kernel_rfl) ?_
              have he := Option.some.inj hr4
              subst j116
              refine WO.weaken (fr' := [(0, (.slice a_p0 p0.length c_p0)), (5, (.map (some b7))), (7, (.slice a_s102 s102.length c_s102)), (12, (.string x114)), (24, (.pointer (some ⟨b24, 0, none⟩))), (36, (.slice w_r91.In.a r91.In.length w_r91.In.c)), (37, (.int .i64 (r91.In.length : Int))), (38, (.int .i64 (i103 : Int))), (51, (.bool false))]) (WO.meet ⟨I100, rfl, Mem.Le.refl _, hS110⟩) (Sub.cons rfl (Sub.cons rfl (Sub.cons rfl (Sub.cons rfl (Sub.cons rfl (Sub.cons rfl (Sub.cons rfl (Sub.cons rfl (Sub.cons rfl Sub.nil)))))))))
          case restj116 =>
            rintro _ w126 ⟨I118, rfl, hl119, hS127⟩
            refine WO.nil ?_
            refine En.next ?_
            obtain ⟨j128, hr4, hr3⟩ := bind_some hr3
            refine W.join (J := (fun fr w => ∃ (I130 : Mem), ∃ (a_j128 : Option Addr), ∃ (c_j128 : Nat), ∃ (C_j128 : Mem), fr = [(0, (.slice a_p0 p0.length c_p0)), (5, (.map (some b7))), (7, (.slice a_j128 j128.length c_j128)), (24, (.pointer (some ⟨b24, 0, none⟩))), (36, (.slice w_r91.In.a r91.In.length w_r91.In.c)), (37, (.int .i64 (r91.In.length : Int))), (38, (.int .i64 (i103 : Int)))] ∧ I118.Le I130 ∧ St E w I130 ((C_s19) :: (D76) :: (C_j128) :: Os) ∧ OwnSl 9 1 RStr I130 C_j128 a_j128 c_j128 j128)) ?restj128 ?waysj128
            case waysj128 =>
              refine W.cond (b := j116) rfl rfl (fun hc => ?_) (fun hc => ?_)
              · replace hr4 := cond_t hc hr4
                refine yag (l := [0, 1, 2, 3, 4]) (by kernel_rfl) ?_
                refine yad [(0, 52, (.slice a_s102 s102.length c_s102)), (1, 53, (.string x114))] (by kernel_rfl) (fun _ => by kernel_rfl) ?_
                refine y4 (rel := RStr) (xs := ([x114] : List ByteArray)) hS127 rfl (by kernel_rfl) rfl 9 1 [[(.string x114)]] (by kernel_rfl) rfl ((Elr.cons rfl Elr.nil)) (fun _ _ _ => trivial) ?_
                intro a135 C133 w137 hS136 ho134
                have hS139 := hS136.front3
                obtain ⟨x140, hx_x140, hr4⟩ := bind_some hr4
                obtain ⟨h0_x140, he_x140⟩ := app_some hx_x140
                refine WO.append (e' := 9) (b := 16) (zs := #[(.string (⟨#[]⟩ : ByteArray))]) hS139 (OwnSl.mono h_s102 hl119) rfl (by kernel_rfl) rfl (by kernel_rfl) (by kernel_rfl) (by kernel_rfl) rfl rfl rfl rfl ho134.sl (hS139.rd (List.Mem.tail _ (List.Mem.head _))) h0_x140 he_x140 (fun _ _ _ => trivial) ?_
                intro a141 c142 w143 C144 hS145 ho146
                have hS147 := hS145.front1
                have hS148 := hS147.drop
                refine yad [(4, 7, (.slice a141 x140.length c142))] (by kernel_rfl) (fun _ => by kernel_rfl) ?_
                refine WO.nil ?_
                have hS149 := hS148.front2
                have hS150 := hS149.front2
                have he := Option.some.inj hr4
                subst j128
                refine En.weaken (fr' := [(0, (.slice a_p0 p0.length c_p0)), (5, (.map (some b7))), (7, (.slice a141 x140.length c142)), (24, (.pointer (some ⟨b24, 0, none⟩))), (36, (.slice w_r91.In.a r91.In.length w_r91.In.c)), (37, (.int .i64 (r91.In.length : Int))), (38, (.int .i64 (i103 : Int)))]) (ya0 ⟨I118, a141, c142, C144, rfl, Mem.Le.refl _, hS150, ho146⟩) (Sub.cons rfl (Sub.cons rfl (Sub.cons rfl (Sub.cons rfl (Sub.cons rfl (Sub.cons rfl (Sub.cons rfl Sub.nil)))))))
              · replace hr4 := cond_f hc hr4
                refine yi ?_
                have he := Option.some.inj hr4
                subst j128
                refine En.weaken (fr' := [(0, (.slice a_p0 p0.length c_p0)), (5, (.map (some b7))), (7, (.slice a_s102 s102.length c_s102)), (24, (.pointer (some ⟨b24, 0, none⟩))), (36, (.slice w_r91.In.a r91.In.length w_r91.In.c)), (37, (.int .i64 (r91.In.length : Int))), (38, (.int .i64 (i103 : Int)))]) (ya0 ⟨I118, a_s102, c_s102, C_s102, rfl, Mem.Le.refl _, hS127, (OwnSl.mono h_s102 hl119)⟩) (Sub.cons rfl (Sub.cons rfl (Sub.cons rfl (Sub.cons rfl (Sub.cons rfl (Sub.cons rfl (Sub.cons rfl Sub.nil)))))))
            case restj128 =>
              rintro _ w151 ⟨I130, a_j128, c_j128, C_j128, rfl, hl131, hS152, h_j128⟩
              refine yk ?_
              refine En.next ?_
              refine yag (l := [0, 1]) (by kernel_rfl) ?_
              refine WO.incr (j := i103) rfl (by kernel_rfl) rfl (by first | omega | (dsimp only at *; omega)) ?_
              refine yad [(1, 38, (.int .i64 ((i103 + 1 : Nat) : Int)))] (by kernel_rfl) (fun _ => by kernel_rfl) ?_
              refine WO.nil ?_
              have he := Option.some.inj hr3
              subst x111
              refine En.weaken (fr' := [(0, (.slice a_p0 p0.length c_p0)), (5, (.map (some b7))), (7, (.slice a_j128 j128.length c_j128)), (24, (.pointer (some ⟨b24, 0, none⟩))), (36, (.slice w_r91.In.a r91.In.length w_r91.In.c)), (37, (.int .i64 (r91.In.length : Int))), (38, (.int .i64 ((i103 + 1 : Nat) : Int)))]) (ya0 ⟨I130, a_j128, c_j128, C_j128, rfl, ((hl101.trans hl119).trans hl131), hS152, h_j128⟩) (Sub.cons rfl (Sub.cons rfl (Sub.cons rfl (Sub.cons rfl (Sub.cons rfl (Sub.cons rfl (Sub.cons rfl Sub.nil)))))))
        case lastt99 =>
          rintro _ w153 ⟨I100, a_s102, c_s102, C_s102, rfl, hl101, hS154, h_s102⟩
          refine yf ?_
          refine yag (l := [0]) (by kernel_rfl) ?_
          refine yad [(0, 39, (.bool (decide ((r91.In.length : Int) < (r91.In.length : Int)))))] (by kernel_rfl) (fun _ => by kernel_rfl) ?_
          refine WO.nil ?_
          refine En.next ?_
          refine yf ?_
          refine W.cond (b := (decide ((r91.In.length : Int) < (r91.In.length : Int)))) rfl rfl (fun hc => ?_) (fun hc => ?_)
          · exact absurd hc (by first | (simp; done) | (simp; omega))
          clear hc
          refine yz ?_
          refine ym ?_
          refine yn ?_
          refine yo ?_
          refine yk ?_
          refine En.weaken (fr' := [(0, (.slice a_p0 p0.length c_p0)), (5, (.map (some b7))), (7, (.slice a_s102 s102.length c_s102)), (24, (.pointer (some ⟨b24, 0, none⟩)))]) (ya0 ⟨k71, x72, rm73, s102, hp77, hy82.trans (congrArg some (Option.some.inj hr2).symm), I100, a_s102, c_s102, C_s102, D76, _, rfl, ((hl32.trans hl89).trans hl101), hS154, h_s102, (IterSt.mono hit80 (hl89.trans hl101))⟩) (Sub.cons rfl (Sub.cons rfl (Sub.cons rfl (Sub.cons rfl Sub.nil))))
    · replace hr1 := condM_f hc hr1
      refine yz ?_
      refine ym ?_
      refine yn ?_
      replace hr := hr1
      refine yo ?_
      refine En.next ?_
      refine yf ?_
      refine yag (l := [0, 1, 2, 3]) (by kernel_rfl) ?_
      refine yad [(0, 69, (.map (some b7)))] (by kernel_rfl) (fun _ => by kernel_rfl) ?_
      refine ya3 rfl (by kernel_rfl) rfl (f := 99) (args := #[(.map (some b7))]) (by kernel_rfl) (keys99_ok hS22) ?_
      rintro _ w176 ⟨b174, rfl, hS175⟩
      refine ⟨_, rfl, trivial, ?_⟩
      have hS178 := hS175.front1
      have hS179 := hS178.front1
      obtain ⟨r180, hx181, hr⟩ := optM_some hr
      refine ya3 rfl (by kernel_rfl) rfl (f := 98) (args := #[(.func (.func 134) #[] #[(.pointer (some ⟨b174, 0, none⟩))])]) (by kernel_rfl) (sorted98_99_ok h_s19 hS179 hx181) ?_
      rintro _ w188 ⟨I182, a183, c184, rfl, hl185, hS186, hp187⟩
      refine ⟨_, rfl, trivial, ?_⟩
      refine yad [(3, 4, (.slice a183 r180.length c184))] (by kernel_rfl) (fun _ => by kernel_rfl) ?_
      refine WO.nil ?_
      refine En.next ?_
      refine W.ret ?_
      have hS189 := hS186.drop
      have hS190 := hS189.drop
      have he : r180 = r := hr
      subst r
      exact En.ret1 rfl (.slice a183 r180.length c184) rfl ⟨I182, a183, c184, rfl, ((hl4.trans hl17).trans hl185), hS190, hp187⟩
def slices_Index_string (p0 : List ByteArray) (p1 : ByteArray) : Option Int := (forN (fun (i4 : Nat) => fun (_s : Unit) => (idx p0 (i4 : Int)).bind (fun x11 => (bif (sEq p1 x11) then some (.inr (i4 : Int)) else some (.inl ())))) p0.length 0 ()).bind (fun (t : Unit ⊕ (Int)) => match t with | .inl _ => some (-1) | .inr s13 => some s13)
theorem slices_Index_string_ok {p0 : List ByteArray} {p1 : ByteArray} {a_p0 : Option Addr} {c_p0 : Nat} (h_p0 : RSl 1 RStr I a_p0 c_p0 p0) (hS : St E w I Os) {r : Int} (hr : slices_Index_string p0 p1 = some r) :
    Calls P 97 #[(Sl a_p0 p0 c_p0), (.string p1)] w (fun e w' => ∃ I', e = .returned (Iv r) ∧ I.Le I' ∧ St E w' I' Os) := by
 refine calls_W (fn := Tryz.f97) rfl rfl rfl ?_
 unfold slices_Index_string at hr
 refine yd [0] (ya 0 1 rfl (yb (yf (yd nL3 (ya 0 3 rfl (yb (W.block (bsk hr fun t1 hloop5 hr => have hlt9 := (h_p0).len_lt; W.wk (W.forN (m := p0.length) hloop5 (fun (i4 : Nat) => fun (_s : Unit) fr w => ∃ I2, fr = [(0, Sl a_p0 p0 c_p0), (1, .string p1), (7, Nv p0.length), (8, Nv i4)] ∧ I.Le I2 ∧ St E w I2 Os) ⟨I, rfl, lr, hS⟩ ?_ ?_)))))))))
 rintro i4 _ _ w6 hi10 ⟨I2, rfl, hl3, hS7⟩ x8 hr1 hext1
 refine yd [0] (ya 0 1 rfl (yb (yf (yah fun _ => yi (En.next (yf (W.block (yd nL2 (ya 0 2 rfl (y0 nL6 (ya 0 3 rfl ?_)))))))))))
 obtain ⟨x11, hr1, hb_x11, _, rfl, hc_x11⟩ := sl_ix ((RSl.mono h_p0 hl3)) hr1
 refine y3 9 1 hb_x11 rfl (yaf hc_x11 hS7.rm rfl (ya 5 1 rfl (yb (W.cb hr1 (fun hc hr1 => ?_) (fun hc hr1 => ?_)))))
 refine yd nL2 (ya 0 2 rfl (yb (W.ret (yj (ye (yp ?_))))))
 obtain rfl := hext1 _ (sj hr1).symm
 refine yj (ye ?_)
 obtain rfl := sj hr
 exact yu ⟨I2, rfl, hl3, hS7⟩
 exact yi (yk (En.next (yaa nL2 (yae i4 rfl (ya 1 1 rfl (WO.nil (yq ⟨(), (sj hr1).symm, I2, rfl, hl3, hS7⟩)))))))
 rintro _ _ w14 ⟨I2, rfl, hl3, hS15⟩ he
 cases he
 refine yd [0] (ya 0 1 rfl (yb (yf (yai fun _ => yz (ym (yn (yo (En.next (yd [0] (ya 0 1 rfl (yb (W.ret ?_))))))))))))
 obtain rfl := sj hr
 exact yu ⟨I2, rfl, hl3, hS15⟩
def slices_Contains_string (p0 : List ByteArray) (p1 : ByteArray) : Option Bool := (slices_Index_string p0 p1).bind (fun r6 => some (decide (r6 ≥ 0)))
theorem slices_Contains_string_ok {p0 : List ByteArray} {p1 : ByteArray} {a_p0 : Option Addr} {c_p0 : Nat} (h_p0 : RSl 1 RStr I a_p0 c_p0 p0) (hS : St E w I Os) {r : Bool} (hr : slices_Contains_string p0 p1 = some r) :
    Calls P 58 #[(Sl a_p0 p0 c_p0), (.string p1)] w (fun e w' => ∃ I', e = .returned (.bool r) ∧ I.Le I' ∧ St E w' I' Os) := by
 refine calls_W (fn := Tryz.f58) rfl rfl rfl ?_
 unfold slices_Contains_string at hr
 refine yd [0] (ya 0 1 rfl (y0 nL5 (ya 0 2 rfl (bsk hr fun r6 hx_r1 hr => WO.c1 (slices_Index_string_ok h_p0 hS hx_r1) rfl fun I3 w2 hl4 hS5 => ya 3 2 rfl (yb (W.ret ?_))))))
 obtain rfl := sj hr
 exact yu ⟨I3, rfl, hl4, hS5⟩
noncomputable def member_Is (p0 : List qRole) (p1 : ByteArray) (p2 : ByteArray) : Option Bool := (member_All p0 p1).bind (fun r6 => (slices_Contains_string r6 p2).bind (fun r12 => some r12))
theorem member_Is_ok {p0 : List qRole} {p1 : ByteArray} {p2 : ByteArray} {a_p0 : Option Addr} {c_p0 : Nat} (h_p0 : RSl 2 R_qRole I a_p0 c_p0 p0) (hS : St E w I Os) {r : Bool} (hr : member_Is p0 p1 p2 = some r) :
    Calls P 33 #[(Sl a_p0 p0 c_p0), (.string p1), (.string p2)] w (fun e w' => ∃ I', e = .returned (.bool r) ∧ I.Le I' ∧ St E w' I' Os) := by
 refine calls_W (fn := Tryz.f33) rfl rfl rfl ?_
 unfold member_Is at hr
 refine yd [0] (ya 0 1 rfl (y0 nL6 (ya 0 2 rfl (bsk hr fun r6 hx_r1 hr => yab (member_All_ok h_p0 hS hx_r1) ?_))))
 rintro _ w2 ⟨I3, a_r6, c_r6, rfl, hl4, hS5, h_r6⟩
 refine ⟨_, rfl, trivial, ?_⟩
 refine ya 3 1 rfl (bsk hr fun r12 hx_r7 hr => WO.c1 (slices_Contains_string_ok h_r6 hS5 hx_r7) rfl fun I9 w8 hl10 hS11 => ya 5 1 rfl (yb (W.ret ?_)))
 obtain rfl := sj hr
 exact yu ⟨I9, rfl, le, hS11⟩
def slices_IndexFunc_qGrant (p0 : List qGrant) (p1 : qGrant → Option Bool) : Option Int := (forN (fun (i4 : Nat) => fun (_s : Unit) => (idx p0 (i4 : Int)).bind (fun x11 => (p1 x11).bind (fun (r17 : Bool) => (bif r17 then some (.inr (i4 : Int)) else some (.inl ()))))) p0.length 0 ()).bind (fun (t : Unit ⊕ (Int)) => match t with | .inl _ => some (-1) | .inr s19 => some s19)
theorem slices_IndexFunc_qGrant_ok {p0 : List qGrant} {p1 : qGrant → Option Bool} {a_p0 : Option Addr} {c_p0 : Nat} {g_p1 : FuncId} {k_p1 : List Value} (h_p0 : RSl 5 R_qGrant I a_p0 c_p0 p0) (h_p1 : ∀ {F : List Mem} {I' : Mem} {w : World} {u0 : qGrant}, I.Le I' → St E w I' (F ++ Os) → ∀ {r : Bool}, p1 u0 = some r → Calls P g_p1 (([(.agg (cs_qGrant u0).toArray)] : List Value) ++ k_p1).toArray w (fun e w' => ∃ (I'' : Mem), e = .returned (.bool r) ∧ I'.Le I'' ∧ St E w' I'' (F ++ Os))) (hcall_p1 : Callable P g_p1) (hS : St E w I Os) {r : Int} (hr : slices_IndexFunc_qGrant p0 p1 = some r) :
    Calls P 111 #[(Sl a_p0 p0 c_p0), (.func (.func g_p1) #[] k_p1.toArray)] w (fun e w' => ∃ I', e = .returned (Iv r) ∧ I.Le I' ∧ St E w' I' Os) := by
 refine calls_W (fn := Tryz.f111) rfl rfl rfl ?_
 unfold slices_IndexFunc_qGrant at hr
 refine yd [0] (ya 0 1 rfl (yb (yf (yd nL3 (ya 0 3 rfl (yb (W.block (bsk hr fun t1 hloop5 hr => have hlt9 := (h_p0).len_lt; W.wk (W.forN (m := p0.length) hloop5 (fun (i4 : Nat) => fun (_s : Unit) fr w => ∃ I2, fr = [(0, Sl a_p0 p0 c_p0), (1, .func (.func g_p1) #[] k_p1.toArray), (7, Nv p0.length), (8, Nv i4)] ∧ I.Le I2 ∧ St E w I2 Os) ⟨I, rfl, lr, hS⟩ ?_ ?_)))))))))
 rintro i4 _ _ w6 hi10 ⟨I2, rfl, hl3, hS7⟩ x8 hr1 hext1
 refine yd [0] (ya 0 1 rfl (yb (yf (yah fun _ => yi (En.next (yf (W.block (yd nL2 (ya 0 2 rfl (y0 nL6 (yh 0 11 (.func (.func g_p1) #[] k_p1.toArray) (ya 1 2 rfl ?_))))))))))))
 obtain ⟨x11, hr1, hb_x11, _, rfl, hc_x11⟩ := sl_ix ((RSl.mono h_p0 hl3)) hr1
 refine y3 67 5 hb_x11 rfl (yak ((cs_qGrant x11)) hc_x11 0 hS7.rm rfl (bsk hr1 fun r17 hx_r12 hr1 => WO.callv rfl (by kernel_rfl) rfl (g := g_p1) (kk := k_p1) (args := [(.agg (cs_qGrant x11).toArray)]) rfl (by kernel_rfl) hcall_p1 (h_p1 (F := []) hl3 hS7  hx_r12) ?_))
 rintro _ w13 ⟨I14, rfl, hl15, hS16⟩
 refine ⟨_, rfl, trivial, ?_⟩
 refine yb (W.cb hr1 (fun hc hr1 => ?_) (fun hc hr1 => ?_))
 refine yd nL2 (ya 0 2 rfl (yb (W.ret (yj (ye (yp ?_))))))
 obtain rfl := hext1 _ (sj hr1).symm
 refine yj (ye ?_)
 obtain rfl := sj hr
 exact yu ⟨I14, rfl, le, hS16⟩
 exact yi (yk (En.next (yaa nL2 (yae i4 rfl (ya 1 1 rfl (WO.nil (yq ⟨(), (sj hr1).symm, I14, rfl, le, hS16⟩)))))))
 rintro _ _ w20 ⟨I2, rfl, hl3, hS21⟩ he
 cases he
 refine yd [0] (ya 0 1 rfl (yb (yf (yai fun _ => yz (ym (yn (yo (En.next (yd [0] (ya 0 1 rfl (yb (W.ret ?_))))))))))))
 obtain rfl := sj hr
 exact yu ⟨I2, rfl, hl3, hS21⟩
def grants_place_1 (p0 : qGrant) (q1 : qStmt) (q2 : ByteArray) : Option Bool := (some (((sEq p0.To q1.Role) && (sEq p0.By q2)) && (sEq p0.Table q1.Table))).bind (fun (q7 : Bool) => some (q7 && (p0.Priv == q1.Priv)))
theorem grants_place_1_ok {p0 : qGrant} {q1 : qStmt} {q2 : ByteArray} {kb1 : Nat} {w_q1 : W_qStmt} {kb2 : Nat} (h_q1 : ok_qStmt I q1 w_q1) (hm1 : (Bx kb1 (cs_qStmt q1 w_q1) 44) ∈ Os) (hm2 : (Bx kb2 [(.string q2)] 9) ∈ Os) (hS : St E w I Os) {r : Bool} (hr : grants_place_1 p0 q1 q2 = some r) :
    Calls P 112 #[(.agg (cs_qGrant p0).toArray), (Pt kb1 0), (Pt kb2 0)] w (fun e w' => ∃ I', e = .returned (.bool r) ∧ I.Le I' ∧ St E w' I' Os) := by
 refine calls_W (fn := Tryz.f112) rfl rfl rfl ?_
 unfold grants_place_1 at hr
 refine yd nL2 (yy hS (cs_qGrant p0) 67 rfl fun b1 w4 hS3 => ya 1 1 rfl (y0 nL26 (yc 0 1 [0] rfl (yg (hS3.rf m0) rfl (yc 2 1 [3] rfl (yg (rd_f (hS3.rd (List.Mem.tail _ hm1))) rfl (ya 4 2 rfl (yac (l1 := [6, 7, 8, 9, 10]) 15 ((sEq p0.To q1.Role) && (sEq p0.By q2)) ?_ ?_))))))))
 refine yr (sEq p0.To q1.Role) (fun hc => ?_) (fun hc => ?_)
 exact yl 10 hc (yc 6 1 [1] rfl (yg (hS3.rf m0) rfl (yg (rd_f (hS3.rd (List.Mem.tail _ hm2))) rfl (ya 9 1 rfl (yh 10 15 (.bool (sEq p0.By q2)) (WO.mk 10 hc (by rw [hc]; rfl)))))))
 refine yl 10 hc ?_
 iterate 4 refine yt ?_
 exact yh 10 15 (.bool false) (WO.mk 10 hc (by rw [hc]; rfl))
 refine ya 11 1 rfl ?_
 obtain ⟨q7, hx_q7, hr⟩ := bsm hr
 replace hx_q7 := sj hx_q7
 refine yac (l1 := [12, 13, 14, 15, 16, 17]) 22 q7 ?_ ?_
 refine yr ((sEq p0.To q1.Role) && (sEq p0.By q2)) (fun hc => ?_) (fun hc => ?_)
 exact yl 16 hc (yc 12 1 [2] rfl (yg (hS3.rf m0) rfl (yc 14 1 [1] rfl (yg (rd_f (hS3.rd (List.Mem.tail _ hm1))) rfl (ya 16 1 rfl (yh 17 22 (.bool (sEq p0.Table q1.Table)) (WO.mk 16 hc (by rw [← hx_q7, hc]; rfl))))))))
 refine yl 16 hc ?_
 iterate 5 refine yt ?_
 exact yh 17 22 (.bool false) (WO.mk 16 hc (by rw [← hx_q7, hc]; rfl))
 refine ya 18 1 rfl (yac (l1 := [19, 20, 21, 22, 23, 24]) 29 (q7 && (p0.Priv == q1.Priv)) ?_ ?_)
 refine yr q7 (fun hc => ?_) (fun hc => ?_)
 exact yl 23 hc (yc 19 1 [3] rfl (yg (hS3.rf m0) rfl (yc 21 1 [18] rfl (yg (rd_f (hS3.rd (List.Mem.tail _ hm1))) rfl (ya 23 1 rfl (yh 24 29 (.bool (p0.Priv == q1.Priv)) (WO.mk 23 hc (by rw [hc]; rfl))))))))
 refine yl 23 hc ?_
 iterate 5 refine yt ?_
 exact yh 24 29 (.bool false) (WO.mk 23 hc (by rw [hc]; rfl))
 refine ya 25 1 rfl (yb (W.ret ?_))
 obtain rfl := sj hr
 exact yu ⟨I, rfl, lr, hS3.drop⟩
def grants_place (p0 : qCatalog) (p1 : qStmt) (p2 : ByteArray) : Option Int := (slices_IndexFunc_qGrant p0.Grants (fun (u0 : qGrant) => grants_place_1 u0 p1 p2)).bind (fun r18 => some r18)
theorem grants_place_ok {p0 : qCatalog} {p1 : qStmt} {p2 : ByteArray} {w_p0 : W_qCatalog} {w_p1 : W_qStmt} (h_p0 : ok_qCatalog I p0 w_p0) (h_p1 : ok_qStmt I p1 w_p1) (hS : St E w I Os) {r : Int} (hr : grants_place p0 p1 p2 = some r) :
    Calls P 66 #[(.agg (cs_qCatalog p0 w_p0).toArray), (.agg (cs_qStmt p1 w_p1).toArray), (.string p2)] w (fun e w' => ∃ I', e = .returned (Iv r) ∧ I.Le I' ∧ St E w' I' Os) := by
 refine calls_W (fn := Tryz.f66) rfl rfl rfl ?_
 unfold grants_place at hr
 refine yd nL4 (yy hS (cs_qCatalog p0 w_p0) 29 rfl fun b1 w4 hS3 => yy hS3 (cs_qStmt p1 w_p1) 44 rfl fun b5 w8 hS7 => yy hS7 [(.string p2)] 9 rfl fun b9 w12 hS11 => ya 3 1 rfl (y0 nL5 (yc 0 1 [3] rfl (yg (hS11.rf m2) rfl (yh 2 9 (.func (.func 112) #[] #[(Pt b5 0), (Pt b9 0)]) (bsk hr fun r18 hx_r13 hr => WO.c1 (slices_IndexFunc_qGrant_ok h_p0.Grants (fun {F Ic wc} {_} hlc hSc  {rc} hrc => grants_place_1_ok (h_p1.mono hlc) (List.mem_append_right _ m1) (List.mem_append_right _ m0) hSc hrc) (fun _ _ => by kernel_rfl) hS11 hx_r13) rfl fun I15 w14 hl16 hS17 => ya 4 1 rfl (yb (W.ret ?_))))))))
 obtain rfl := sj hr
 exact yu ⟨I15, rfl, hl16, hS17.drop.drop.drop⟩
def slices_Clone_qGrant (p0 : List qGrant) : Option (List qGrant) := (app 64 ([] : List qGrant) p0).bind (fun x10 => some x10)
theorem slices_Clone_qGrant_ok {p0 : List qGrant} {a_p0 : Option Addr} {c_p0 : Nat} (h_p0 : RSl 5 R_qGrant I a_p0 c_p0 p0) (hS : St E w I Os) {r : (List qGrant)} (hr : slices_Clone_qGrant p0 = some r) :
    Calls P 67 #[(Sl a_p0 p0 c_p0)] w (fun e w' => ∃ (I' : Mem) (ra0 : Option Addr) (rc0 : Nat) (rC0 : Mem), e = .returned (Sl ra0 r rc0) ∧ I.Le I' ∧ St E w' I' (rC0 :: Os) ∧ OwnSl 67 5 R_qGrant I' rC0 ra0 rc0 r) := by
 refine calls_W (fn := Tryz.f67) rfl rfl rfl ?_
 unfold slices_Clone_qGrant at hr
 refine yd [0] (yh 0 2 (.slice none 0 0) (yb (yf (yd nL2 (ya 0 1 rfl (ya2 (e := 67) rfl (by kernel_rfl) (by kernel_rfl) rfl rfl ?_))))))
 refine yb (W.cd (fun hc => ?_) (fun hc => ?_))
 have ha0 := Option.isNone_iff_eq_none.1 hc
 subst ha0
 have hx0 := (h_p0).none_nil
 subst hx0
 replace hr : some ([] : List qGrant) = some r := by simpa [app] using hr
 refine yd [0] (yh 0 2 (.slice none 0 0) (yb (W.ret (ye ?_))))
 obtain rfl := sj hr
 exact yu ⟨I, none, 0, Mem.no, rfl, lr, hS.no, OwnSl.nil⟩
 clear hc
 refine yi (En.next (yd nL4 (y4 (rel := R_qGrant) (xs := ([] : List qGrant)) hS rfl (by kernel_rfl) rfl 67 5 [] (by kernel_rfl) rfl (Elr.nil) (fun _ _ _ => trivial) ?_)))
 intro a6 C4 w8 hS7 ho5
 refine ya 1 1 rfl ?_
 obtain ⟨x10, hx_x10, hr⟩ := bsm hr
 obtain ⟨h0_x10, he_x10⟩ := app_some hx_x10
 refine yaj 67 64 (cs_qGrant z_qGrant) hS7 ho5 h_p0 hS7.im h0_x10 he_x10 rfl fun a11 c12 w13 C14 hS15 ho16 => ya 3 1 rfl (yb (W.ret ?_))
 obtain rfl := sj hr
 exact yu ⟨I, a11, c12, C14, rfl, lr, hS15, ho16⟩
theorem del68_ok {E w : World} {I C : Mem} {Os : List Mem} {xs : List qGrant} {a : Option Addr} {cap : Nat} (h : OwnSl 67 5 R_qGrant I C a cap xs) (hS : St E w I (C :: Os)) {p q : Nat} (hpq : p < q) (hq : q ≤ xs.length) :
    Calls P 68 #[.slice a xs.length cap, .int .i64 (p : Int), .int .i64 (q : Int)] w (fun e w' => ∃ (C' : Mem), e = .returned (.slice a (xs.take p ++ xs.drop q).length cap) ∧ St E w' I (C' :: Os) ∧ OwnSl 67 5 R_qGrant I C' a cap (xs.take p ++ xs.drop q)) := by
  have hxl := h.sl.le
  have hxc := h.sl.lt
  have hlen : (xs.take p ++ xs.drop q).length = p + (xs.length - q) := by simp; omega
  refine calls_W (args := [.slice a xs.length cap, .int .i64 (p : Int), .int .i64 (q : Int)]) (fn := Tryz.f68) rfl rfl rfl ?_
  refine yf ?_
  refine yag (l := [0]) (by kernel_rfl) ?_
  refine yad [(0, 6, (.slice none 0 0))] (by kernel_rfl) (fun _ => by kernel_rfl) ?_
  refine WO.nil ?_
  refine En.next ?_
  refine yf ?_
  refine yag (l := [0, 1, 2, 3, 4, 5]) (by kernel_rfl) ?_
  refine yad [(0, 8, (.slice a xs.length cap)), (1, 9, (.int .i64 (p : Int))), (2, 10, (.int .i64 (q : Int))), (3, 11, (.slice a xs.length cap)), (4, 12, (.int .i64 (xs.length : Int)))] (by kernel_rfl) (fun _ => by kernel_rfl) ?_
  refine WO.slice3 (e := 67) (sz := 5) rfl (by kernel_rfl) (by kernel_rfl) (by kernel_rfl) rfl p q xs.length rfl rfl rfl (by omega) hq hxl ?_
  refine WO.nil ?_
  refine En.next ?_
  refine yf ?_
  refine yf ?_
  refine yag (l := [0, 1, 2]) (by kernel_rfl) ?_
  refine yad [(0, 14, (.int .i64 (p : Int))), (1, 15, (.int .i64 (q : Int))), (2, 16, (.bool ((p : Int) == (q : Int))))] (by kernel_rfl) (fun _ => by kernel_rfl) ?_
  refine WO.nil ?_
  refine En.next ?_
  refine W.cond (b := ((p : Int) == (q : Int))) rfl rfl (fun hc => ?_) (fun hc => ?_)
  · exfalso
    simp at hc
    omega
  clear hc
  refine yi ?_
  refine En.next ?_
  refine yf ?_
  refine yag (l := [0, 1, 2]) (by kernel_rfl) ?_
  refine yad [(0, 18, (.slice a xs.length cap)), (1, 19, (.int .i64 (xs.length : Int))), (2, 7, (.int .i64 (xs.length : Int)))] (by kernel_rfl) (fun _ => by kernel_rfl) ?_
  refine WO.nil ?_
  refine En.next ?_
  refine yf ?_
  have hS1 := hS.drew
  refine ya6 (l := [0, 1, 2, 3, 4, 5, 6, 7]) (by kernel_rfl) 6 (KR I []) qR (.back (by kernel_rfl)) (by kernel_rfl) (KR.nil hS1.im) ?_
  generalize World.drew _ = w1 at *
  refine yad [(0, 20, (.slice a xs.length cap)), (1, 21, (.int .i64 (p : Int)))] (by kernel_rfl) (fun _ => by kernel_rfl) ?_
  refine WO.slice (e := 67) (sz := 5) rfl (by kernel_rfl) (by kernel_rfl) (by kernel_rfl) rfl (0 : Int) (p : Int) (by omega) (.inl ⟨rfl, rfl⟩) (.inr ⟨_, _, rfl, rfl⟩) (by omega) (by omega) ?_
  refine yad [(3, 23, (.slice a xs.length cap)), (4, 24, (.int .i64 (q : Int)))] (by kernel_rfl) (fun _ => by kernel_rfl) ?_
  refine WO.slice (e := 67) (sz := 5) rfl (by kernel_rfl) (by kernel_rfl) (by kernel_rfl) rfl (q : Int) (xs.length : Int) (by omega) (.inr ⟨_, _, rfl, rfl⟩) (.inl ⟨rfl, rfl⟩) (by omega) (by omega) ?_
  refine WO.tail rfl ?_
  refine WO.appendSelf (T := 67) (e' := 67) (b := 64) (zs := #[(.string (⟨#[]⟩ : ByteArray)), (.string (⟨#[]⟩ : ByteArray)), (.string (⟨#[]⟩ : ByteArray)), (.int .i64 0), (.bool false)]) hS1 h rfl (by kernel_rfl) rfl (by kernel_rfl) (by kernel_rfl) (by kernel_rfl) (Nat.le_of_lt hpq) hq rfl rfl (fun _ _ _ => trivial) ?_
  intro w2 C2 hS2 h2
  refine yad [(7, 0, (.slice a (p + (xs.length - q)) cap))] (by kernel_rfl) (fun _ => by kernel_rfl) ?_
  refine WO.nil ?_
  refine En.next ?_
  have hfl : (xs.take p ++ xs.drop q ++ xs.drop (p + (xs.length - q))).length = xs.length := by simp; omega
  refine yf ?_
  refine yag (l := [0, 1, 2, 3, 4, 5]) (by kernel_rfl) ?_
  refine yad [(0, 27, (.slice a (p + (xs.length - q)) cap)), (1, 28, (.slice a (p + (xs.length - q)) cap)), (2, 29, (.int .i64 ((p + (xs.length - q) : Nat) : Int))), (3, 30, (.int .i64 (xs.length : Int)))] (by kernel_rfl) (fun _ => by kernel_rfl) ?_
  refine WO.slice (e := 67) (sz := 5) rfl (by kernel_rfl) (by kernel_rfl) (by kernel_rfl) rfl ((p + (xs.length - q) : Nat) : Int) (xs.length : Int) (by omega) (.inr ⟨_, _, rfl, rfl⟩) (.inr ⟨_, _, rfl, rfl⟩) (by omega) (by omega) ?_
  refine WO.clear hS2 h2 (e := 67) (by kernel_rfl) (zs := [(.string (⟨#[]⟩ : ByteArray)), (.string (⟨#[]⟩ : ByteArray)), (.string (⟨#[]⟩ : ByteArray)), (.int .i64 0), (.bool false)]) (by kernel_rfl) (z0 := z_qGrant) rfl (by kernel_rfl) (by kernel_rfl) (by kernel_rfl) rfl (by kernel_rfl) rfl (lo := p + (xs.length - q)) (by rw [hfl]; omega) (by rw [hfl]; rfl) (fun _ _ _ => trivial) ?_
  intro w3 C3 hS3 h3
  refine WO.nil ?_
  refine En.next ?_
  refine yf ?_
  refine yag (l := [0, 1]) (by kernel_rfl) ?_
  refine yad [(0, 32, (.slice a (p + (xs.length - q)) cap)), (1, 6, (.slice a (p + (xs.length - q)) cap))] (by kernel_rfl) (fun _ => by kernel_rfl) ?_
  refine WO.nil ?_
  refine En.next ?_
  refine W.ret ?_
  rw [hlen]
  refine En.ret1 rfl (.slice a (p + (xs.length - q)) cap) rfl ⟨C3, rfl, hS3, ?_⟩
  have h4 := h3.shorter (p + (xs.length - q))
  rwa [List.take_append_of_le_length (by rw [List.length_take, hfl]; omega), List.take_take, Nat.min_self, List.take_append_of_le_length (by rw [hlen]; exact Nat.le_refl _), List.take_of_length_le (by rw [hlen]; exact Nat.le_refl _)] at h4
def slices_Delete_qGrant (p0 : List qGrant) (p1 p2 : Int) : Option (List qGrant) := delO p0 p1 p2
theorem slices_Delete_qGrant_ok {p0 : List qGrant} {p1 p2 : Int} {a_p0 : Option Addr} {c_p0 : Nat} {C_p0 : Mem} (h_p0 : OwnSl 67 5 R_qGrant I C_p0 a_p0 c_p0 p0) (hS : St E w I (C_p0 :: Os)) {r : List qGrant} (hr : slices_Delete_qGrant p0 p1 p2 = some r) :
    Calls P 68 #[.slice a_p0 p0.length c_p0, .int .i64 p1, .int .i64 p2] w (fun e w' => ∃ (I' : Mem) (ra0 : Option Addr) (rc0 : Nat) (rC0 : Mem), e = .returned (.slice ra0 r.length rc0) ∧ I.Le I' ∧ St E w' I' (rC0 :: Os) ∧ OwnSl 67 5 R_qGrant I' rC0 ra0 rc0 r) := by
  obtain ⟨p, q, rfl, rfl, h1, h2, rfl⟩ := delO_some hr
  refine (del68_ok h_p0 hS h1 h2).mono ?_
  rintro e w' ⟨C', rfl, hS', ho⟩
  exact ⟨I, a_p0, c_p0, C', rfl, Mem.Le.refl _, hS', ho⟩
def grants_take (p0 : qCatalog) (p1 : qStmt) (p2 : ByteArray) : Option ((List qGrant) × Int) := (grants_place p0 p1 p2).bind (fun r14 => (bif (decide (r14 < 0)) then some (([] : List qGrant), 4) else (slices_Clone_qGrant p0.Grants).bind (fun r22 => (slices_Delete_qGrant r22 r14 (w64 (r14 + 1))).bind (fun r28 => some (r28, 0)))))
theorem grants_take_ok {p0 : qCatalog} {p1 : qStmt} {p2 : ByteArray} {w_p0 : W_qCatalog} {w_p1 : W_qStmt} (h_p0 : ok_qCatalog I p0 w_p0) (h_p1 : ok_qStmt I p1 w_p1) (hS : St E w I Os) {r : (List qGrant) × Int} (hr : grants_take p0 p1 p2 = some r) :
    Calls P 36 #[(.agg (cs_qCatalog p0 w_p0).toArray), (.agg (cs_qStmt p1 w_p1).toArray), (.string p2)] w (fun e w' => ∃ (I' : Mem) (ra0 : Option Addr) (rc0 : Nat), e = .returned (.tuple #[(Sl ra0 r.1 rc0), (Iv r.2)]) ∧ I.Le I' ∧ St E w' I' Os ∧ RSl 5 R_qGrant I' ra0 rc0 r.1) := by
 refine calls_W (fn := Tryz.f36) rfl rfl rfl ?_
 unfold grants_take at hr
 refine yd nL4 (yy hS (cs_qCatalog p0 w_p0) 29 rfl fun b1 w4 hS3 => yy hS3 (cs_qStmt p1 w_p1) 44 rfl fun b5 w8 hS7 => yh 2 6 (.slice none 0 0) (ya 3 1 rfl (y0 nL5 (yv ((cs_qCatalog p0 w_p0)) (hS7.rf m1) rfl (yv ((cs_qStmt p1 w_p1)) (hS7.rf m0) rfl (ya 2 1 rfl (bsk hr fun r14 hx_r9 hr => WO.c1 (grants_place_ok h_p0 h_p1 hS7 hx_r9) rfl fun I11 w10 hl12 hS13 => ya 4 1 rfl (yb (yf (yd nL2 (ya 0 2 rfl (yb (W.cb hr (fun hc hr => ?_) (fun hc hr => ?_))))))))))))))
 refine yd nL2 (yh 0 6 (.slice none 0 0) (ya 1 1 rfl (yb (W.ret (ye ?_)))))
 obtain rfl := sj hr
 exact yam ⟨I11, none, 0, rfl, hl12, hS13.drop.drop, SlAt.nil⟩
 refine yi (En.next (yd nL9 (yc 0 1 [3] rfl (yg (hS13.rf m1) rfl (bsk hr fun r22 hx_r17 hr => yab (slices_Clone_qGrant_ok (RSl.mono h_p0.Grants hl12) hS13 hx_r17) ?_)))))
 rintro _ w18 ⟨I19, a_r22, c_r22, C_r22, rfl, hl20, hS21, h_r22⟩
 refine ⟨_, rfl, trivial, ?_⟩
 refine ya 3 3 rfl (bsk hr fun r28 hx_r23 hr => yab (slices_Delete_qGrant_ok h_r22 hS21 hx_r23) ?_)
 rintro _ w24 ⟨I25, a_r28, c_r28, C_r28, rfl, hl26, hS27, h_r28⟩
 refine ⟨_, rfl, trivial, ?_⟩
 obtain ⟨I29, hl30, hS32, hp31⟩ := y6 h_r28 hS27
 refine ya 7 2 rfl (yb (W.ret ?_))
 obtain rfl := sj hr
 exact yam ⟨I29, a_r28, c_r28, rfl, le, hS32.drop.drop, hp31⟩
def slices_IndexFunc_qTable (p0 : List qTable) (p1 : qTable → Option Bool) : Option Int := (forN (fun (i4 : Nat) => fun (_s : Unit) => (idx p0 (i4 : Int)).bind (fun x11 => (p1 x11).bind (fun (r17 : Bool) => (bif r17 then some (.inr (i4 : Int)) else some (.inl ()))))) p0.length 0 ()).bind (fun (t : Unit ⊕ (Int)) => match t with | .inl _ => some (-1) | .inr s19 => some s19)
theorem slices_IndexFunc_qTable_ok {p0 : List qTable} {p1 : qTable → Option Bool} {a_p0 : Option Addr} {c_p0 : Nat} {g_p1 : FuncId} {k_p1 : List Value} (h_p0 : RSl 6 R_qTable I a_p0 c_p0 p0) (h_p1 : ∀ {F : List Mem} {I' : Mem} {w : World} {u0 : qTable} {w_u0 : W_qTable}, I.Le I' → St E w I' (F ++ Os) → ok_qTable I' u0 w_u0 → ∀ {r : Bool}, p1 u0 = some r → Calls P g_p1 (([(.agg (cs_qTable u0 w_u0).toArray)] : List Value) ++ k_p1).toArray w (fun e w' => ∃ (I'' : Mem), e = .returned (.bool r) ∧ I'.Le I'' ∧ St E w' I'' (F ++ Os))) (hcall_p1 : Callable P g_p1) (hS : St E w I Os) {r : Int} (hr : slices_IndexFunc_qTable p0 p1 = some r) :
    Calls P 75 #[(Sl a_p0 p0 c_p0), (.func (.func g_p1) #[] k_p1.toArray)] w (fun e w' => ∃ I', e = .returned (Iv r) ∧ I.Le I' ∧ St E w' I' Os) := by
 refine calls_W (fn := Tryz.f75) rfl rfl rfl ?_
 unfold slices_IndexFunc_qTable at hr
 refine yd [0] (ya 0 1 rfl (yb (yf (yd nL3 (ya 0 3 rfl (yb (W.block (bsk hr fun t1 hloop5 hr => have hlt9 := (h_p0).len_lt; W.wk (W.forN (m := p0.length) hloop5 (fun (i4 : Nat) => fun (_s : Unit) fr w => ∃ I2, fr = [(0, Sl a_p0 p0 c_p0), (1, .func (.func g_p1) #[] k_p1.toArray), (7, Nv p0.length), (8, Nv i4)] ∧ I.Le I2 ∧ St E w I2 Os) ⟨I, rfl, lr, hS⟩ ?_ ?_)))))))))
 rintro i4 _ _ w6 hi10 ⟨I2, rfl, hl3, hS7⟩ x8 hr1 hext1
 refine yd [0] (ya 0 1 rfl (yb (yf (yah fun _ => yi (En.next (yf (W.block (yd nL2 (ya 0 2 rfl (y0 nL6 (yh 0 11 (.func (.func g_p1) #[] k_p1.toArray) (ya 1 2 rfl ?_))))))))))))
 obtain ⟨x11, hr1, hb_x11, _, ⟨w_x11, rfl, h_x11⟩, hc_x11⟩ := sl_ix ((RSl.mono h_p0 hl3)) hr1
 refine y3 89 6 hb_x11 rfl (yak ((cs_qTable x11 w_x11)) hc_x11 0 hS7.rm rfl (bsk hr1 fun r17 hx_r12 hr1 => WO.callv rfl (by kernel_rfl) rfl (g := g_p1) (kk := k_p1) (args := [(.agg (cs_qTable x11 w_x11).toArray)]) rfl (by kernel_rfl) hcall_p1 (h_p1 (F := []) hl3 hS7 h_x11 hx_r12) ?_))
 rintro _ w13 ⟨I14, rfl, hl15, hS16⟩
 refine ⟨_, rfl, trivial, ?_⟩
 refine yb (W.cb hr1 (fun hc hr1 => ?_) (fun hc hr1 => ?_))
 refine yd nL2 (ya 0 2 rfl (yb (W.ret (yj (ye (yp ?_))))))
 obtain rfl := hext1 _ (sj hr1).symm
 refine yj (ye ?_)
 obtain rfl := sj hr
 exact yu ⟨I14, rfl, le, hS16⟩
 exact yi (yk (En.next (yaa nL2 (yae i4 rfl (ya 1 1 rfl (WO.nil (yq ⟨(), (sj hr1).symm, I14, rfl, le, hS16⟩)))))))
 rintro _ _ w20 ⟨I2, rfl, hl3, hS21⟩ he
 cases he
 refine yd [0] (ya 0 1 rfl (yb (yf (yai fun _ => yz (ym (yn (yo (En.next (yd [0] (ya 0 1 rfl (yb (W.ret ?_))))))))))))
 obtain rfl := sj hr
 exact yu ⟨I2, rfl, hl3, hS21⟩
def slices_Clone_qColumn (p0 : List qColumn) : Option (List qColumn) := (app 32 ([] : List qColumn) p0).bind (fun x10 => some x10)
theorem slices_Clone_qColumn_ok {p0 : List qColumn} {a_p0 : Option Addr} {c_p0 : Nat} (h_p0 : RSl 3 R_qColumn I a_p0 c_p0 p0) (hS : St E w I Os) {r : (List qColumn)} (hr : slices_Clone_qColumn p0 = some r) :
    Calls P 118 #[(Sl a_p0 p0 c_p0)] w (fun e w' => ∃ (I' : Mem) (ra0 : Option Addr) (rc0 : Nat) (rC0 : Mem), e = .returned (Sl ra0 r rc0) ∧ I.Le I' ∧ St E w' I' (rC0 :: Os) ∧ OwnSl 73 3 R_qColumn I' rC0 ra0 rc0 r) := by
 refine calls_W (fn := Tryz.f118) rfl rfl rfl ?_
 unfold slices_Clone_qColumn at hr
 refine yd [0] (yh 0 2 (.slice none 0 0) (yb (yf (yd nL2 (ya 0 1 rfl (ya2 (e := 73) rfl (by kernel_rfl) (by kernel_rfl) rfl rfl ?_))))))
 refine yb (W.cd (fun hc => ?_) (fun hc => ?_))
 have ha0 := Option.isNone_iff_eq_none.1 hc
 subst ha0
 have hx0 := (h_p0).none_nil
 subst hx0
 replace hr : some ([] : List qColumn) = some r := by simpa [app] using hr
 refine yd [0] (yh 0 2 (.slice none 0 0) (yb (W.ret (ye ?_))))
 obtain rfl := sj hr
 exact yu ⟨I, none, 0, Mem.no, rfl, lr, hS.no, OwnSl.nil⟩
 clear hc
 refine yi (En.next (yd nL4 (y4 (rel := R_qColumn) (xs := ([] : List qColumn)) hS rfl (by kernel_rfl) rfl 73 3 [] (by kernel_rfl) rfl (Elr.nil) (fun _ _ _ => trivial) ?_)))
 intro a6 C4 w8 hS7 ho5
 refine ya 1 1 rfl ?_
 obtain ⟨x10, hx_x10, hr⟩ := bsm hr
 obtain ⟨h0_x10, he_x10⟩ := app_some hx_x10
 refine yaj 73 32 (cs_qColumn z_qColumn) hS7 ho5 h_p0 hS7.im h0_x10 he_x10 rfl fun a11 c12 w13 C14 hS15 ho16 => ya 3 1 rfl (yb (W.ret ?_))
 obtain rfl := sj hr
 exact yu ⟨I, a11, c12, C14, rfl, lr, hS15, ho16⟩
def slices_Clone_qCons (p0 : List qCons) : Option (List qCons) := (app 176 ([] : List qCons) p0).bind (fun x10 => some x10)
theorem slices_Clone_qCons_ok {p0 : List qCons} {a_p0 : Option Addr} {c_p0 : Nat} (h_p0 : RSl 12 R_qCons I a_p0 c_p0 p0) (hS : St E w I Os) {r : (List qCons)} (hr : slices_Clone_qCons p0 = some r) :
    Calls P 119 #[(Sl a_p0 p0 c_p0)] w (fun e w' => ∃ (I' : Mem) (ra0 : Option Addr) (rc0 : Nat) (rC0 : Mem), e = .returned (Sl ra0 r rc0) ∧ I.Le I' ∧ St E w' I' (rC0 :: Os) ∧ OwnSl 100 12 R_qCons I' rC0 ra0 rc0 r) := by
 refine calls_W (fn := Tryz.f119) rfl rfl rfl ?_
 unfold slices_Clone_qCons at hr
 refine yd [0] (yh 0 2 (.slice none 0 0) (yb (yf (yd nL2 (ya 0 1 rfl (ya2 (e := 100) rfl (by kernel_rfl) (by kernel_rfl) rfl rfl ?_))))))
 refine yb (W.cd (fun hc => ?_) (fun hc => ?_))
 have ha0 := Option.isNone_iff_eq_none.1 hc
 subst ha0
 have hx0 := (h_p0).none_nil
 subst hx0
 replace hr : some ([] : List qCons) = some r := by simpa [app] using hr
 refine yd [0] (yh 0 2 (.slice none 0 0) (yb (W.ret (ye ?_))))
 obtain rfl := sj hr
 exact yu ⟨I, none, 0, Mem.no, rfl, lr, hS.no, OwnSl.nil⟩
 clear hc
 refine yi (En.next (yd nL4 (y4 (rel := R_qCons) (xs := ([] : List qCons)) hS rfl (by kernel_rfl) rfl 100 12 [] (by kernel_rfl) rfl (Elr.nil) (fun _ _ _ => trivial) ?_)))
 intro a6 C4 w8 hS7 ho5
 refine ya 1 1 rfl ?_
 obtain ⟨x10, hx_x10, hr⟩ := bsm hr
 obtain ⟨h0_x10, he_x10⟩ := app_some hx_x10
 refine yaj 100 176 (cs_qCons z_qCons zw_qCons) hS7 ho5 h_p0 hS7.im h0_x10 he_x10 rfl fun a11 c12 w13 C14 hS15 ho16 => ya 3 1 rfl (yb (W.ret ?_))
 obtain rfl := sj hr
 exact yu ⟨I, a11, c12, C14, rfl, lr, hS15, ho16⟩
def expr_Clone_fu : Nat → qExpr → Option qExpr
  | 0, _ => none
  | fu + 1, p0 => (forE (fun (i13 : Nat) => fun (s12 : List qExpr) => (idx p0.Kids (i13 : Int)).bind (fun x24 => (expr_Clone_fu fu x24).bind (fun r36 => (app 88 s12 ([r36] : List qExpr)).bind (fun x45 => some x45)))) p0.Kids.length 0 ([] : List qExpr)).bind (fun s12 => some { p0 with Kids := s12 })
noncomputable def expr_Clone (p0 : qExpr) : Option qExpr := anyFuel (fun fu => expr_Clone_fu fu p0)
theorem expr_Clone_fu_ok : ∀ (fu : Nat) {E w : World} {I : Mem} {Os : List Mem} {p0 : qExpr} {w_p0 : W_qExpr} (h_p0 : ok_qExpr I p0 w_p0) (hS : St E w I Os) {r : qExpr} (hr : expr_Clone_fu fu p0 = some r),
    Calls P 120 #[(.agg (cs_qExpr p0 w_p0).toArray)] w (fun e w' => ∃ I' w_rw0, e = .returned (.agg (cs_qExpr r w_rw0).toArray) ∧ I.Le I' ∧ St E w' I' Os ∧ ok_qExpr I' r w_rw0) := by
 intro fu
 induction fu with
 | zero => intro E w I Os p0 w_p0 h_p0 hS r hr; cases hr
 | succ fu ih =>
 intro E w I Os p0 w_p0 h_p0 hS r hr
 refine calls_W (fn := Tryz.f120) rfl rfl rfl ?_
 unfold expr_Clone_fu at hr
 refine yd nL2 (yy hS (cs_qExpr p0 w_p0) 39 rfl fun b1 w4 hS3 => yy hS3 (cs_qExpr z_qExpr zw_qExpr) 39 rfl fun b5 w8 hS7 => y0 [0] (yh 0 3 (.slice none 0 0) (yb (yf (yd nL4 (yc 0 1 [6] rfl (yg (hS7.rf m1) rfl (ya 2 2 rfl (yb (W.block (bsk hr fun s12 hloop14 hr => have hlt22 := (h_p0.Kids).len_lt; W.wk (W.forE (m := p0.Kids.length) hloop14 (fun (i13 : Nat) => fun (s12 : List qExpr) fr w => ∃ I10 a_s12 c_s12 C_s12, fr = [(1, Pt b1 0), (2, Pt b5 0), (3, Sl a_s12 s12 c_s12), (7, Sl w_p0.Kids.a p0.Kids w_p0.Kids.c), (8, Nv p0.Kids.length), (9, Nv i13)] ∧ I.Le I10 ∧ St E w I10 ((Bx b1 (cs_qExpr p0 w_p0) 39) :: (Bx b5 (cs_qExpr z_qExpr zw_qExpr) 39) :: (C_s12) :: Os) ∧ OwnSl 39 7 Q_qExpr I10 C_s12 a_s12 c_s12 s12) ⟨I, none, 0, Mem.no, rfl, lr, hS7.no.front1.front2, OwnSl.nil⟩ ?_ ?_))))))))))))
 rintro i13 s12 _ w19 hi23 ⟨I10, a_s12, c_s12, C_s12, rfl, hl11, hS20, h_s12⟩ x21 hr1
 refine yd [0] (ya 0 1 rfl (yb (yf (yah fun _ => yi (En.next (yf (W.block (yd nL4 ?_))))))))
 obtain ⟨x24, hx_x24, hr1⟩ := bsm hr1
 obtain ⟨h0_x24, h1_x24, hx_x24⟩ := idx_some hx_x24
 obtain ⟨ha_x24, cs_x24, hn_x24, hr_x24, hc_x24⟩ := ((RSl.mono h_p0.Kids hl11)).el _ _ hx_x24
 obtain ⟨w_x24, rfl, h_x24⟩ := Q_qExpr_iff.1 hr_x24
 refine yaq 39 7 ha_x24 h0_x24 h1_x24 ?_
 refine yak ((cs_qExpr x24 w_x24)) hc_x24 0 hS20.rm rfl (yy hS20 (cs_qExpr z_qExpr zw_qExpr) 39 rfl fun b25 w28 hS27 => yx hS27 0 (cs_qExpr x24 w_x24) fun w30 hS29 => yb (yaa nL6 (ya 0 1 rfl (yv ((cs_qExpr x24 w_x24)) (hS29.rf m0) rfl (bsk hr1 fun r36 hx_r31 hr1 => yab (ih h_x24 hS29 hx_r31) ?_)))))
 rintro _ w32 ⟨I33, w_r36, rfl, hl34, hS35, h_r36⟩
 refine ⟨_, rfl, trivial, ?_⟩
 refine y4 (rel := Q_qExpr) (xs := ([r36] : List qExpr)) hS35 rfl (by kernel_rfl) rfl 39 7 [(cs_qExpr r36 w_r36)] (by kernel_rfl) rfl ((Elr.cons (Q_qExpr_iff.2 ⟨w_r36, rfl, h_r36⟩) Elr.nil)) (fun _ _ _ => trivial) ?_
 intro a40 C38 w42 hS41 ho39
 have hS44 := hS41.front4
 obtain ⟨x45, hx_x45, hr1⟩ := bsm hr1
 obtain ⟨h0_x45, he_x45⟩ := app_some hx_x45
 refine yaj 39 88 (cs_qExpr z_qExpr zw_qExpr) hS44 (OwnSl.mono h_s12 hl34) ho39.sl (hS44.rd m1) h0_x45 he_x45 rfl fun a46 c47 w48 C49 hS50 ho51 => ya 5 1 rfl (WO.nil (yk (En.next (yaa nL2 (yae i13 rfl (ya 1 1 rfl (WO.nil ?_)))))))
 obtain rfl := sj hr1
 exact yq ⟨I33, a46, c47, C49, rfl, le, hS50.front1.drop.front1.drop.front2.front2, ho51⟩
 rintro _ w58 ⟨I10, a_s12, c_s12, C_s12, rfl, hl11, hS59, h_s12⟩
 refine yd [0] (ya 0 1 rfl (yb (yf (yai fun _ => yz (ym (yn (yo (En.next (yd nL3 (yc 0 2 [6] rfl ?_))))))))))
 obtain ⟨I61, hl62, hS64, hp63⟩ := y6 h_s12 hS59.front2
 refine yx hS64 6 (cs_qExpr ({ p0 with Kids := s12 }) (⟨⟨a_s12, c_s12⟩⟩ : W_qExpr)) fun w66 hS65 => y0 nL2 (yv ((cs_qExpr ({ p0 with Kids := s12 }) (⟨⟨a_s12, c_s12⟩⟩ : W_qExpr))) (hS65.rf m0) rfl (yx hS65.front1 0 (cs_qExpr ({ p0 with Kids := s12 }) (⟨⟨a_s12, c_s12⟩⟩ : W_qExpr)) fun w69 hS68 => yb (W.ret ?_)))
 have hk72 : ok_qExpr I61 ({ p0 with Kids := s12 }) (⟨⟨a_s12, c_s12⟩⟩ : W_qExpr) := ⟨hp63⟩
 obtain rfl := sj hr
 exact En.c1 _ (hS68.rd m0) ⟨I61, (⟨⟨a_s12, c_s12⟩⟩ : W_qExpr), rfl, le, hS68.drop.drop, hk72⟩
theorem expr_Clone_ok {p0 : qExpr} {w_p0 : W_qExpr} (h_p0 : ok_qExpr I p0 w_p0) (hS : St E w I Os) {r : qExpr} (hr : expr_Clone p0 = some r) :
    Calls P 120 #[(.agg (cs_qExpr p0 w_p0).toArray)] w (fun e w' => ∃ I' w_rw0, e = .returned (.agg (cs_qExpr r w_rw0).toArray) ∧ I.Le I' ∧ St E w' I' Os ∧ ok_qExpr I' r w_rw0) := by
 obtain ⟨fu, hf⟩ := anyFuel_some hr
 exact expr_Clone_fu_ok fu h_p0 hS hf
def slices_Clone_qIndex (p0 : List qIndex) : Option (List qIndex) := (app 40 ([] : List qIndex) p0).bind (fun x10 => some x10)
theorem slices_Clone_qIndex_ok {p0 : List qIndex} {a_p0 : Option Addr} {c_p0 : Nat} (h_p0 : RSl 2 R_qIndex I a_p0 c_p0 p0) (hS : St E w I Os) {r : (List qIndex)} (hr : slices_Clone_qIndex p0 = some r) :
    Calls P 121 #[(Sl a_p0 p0 c_p0)] w (fun e w' => ∃ (I' : Mem) (ra0 : Option Addr) (rc0 : Nat) (rC0 : Mem), e = .returned (Sl ra0 r rc0) ∧ I.Le I' ∧ St E w' I' (rC0 :: Os) ∧ OwnSl 124 2 R_qIndex I' rC0 ra0 rc0 r) := by
 refine calls_W (fn := Tryz.f121) rfl rfl rfl ?_
 unfold slices_Clone_qIndex at hr
 refine yd [0] (yh 0 2 (.slice none 0 0) (yb (yf (yd nL2 (ya 0 1 rfl (ya2 (e := 124) rfl (by kernel_rfl) (by kernel_rfl) rfl rfl ?_))))))
 refine yb (W.cd (fun hc => ?_) (fun hc => ?_))
 have ha0 := Option.isNone_iff_eq_none.1 hc
 subst ha0
 have hx0 := (h_p0).none_nil
 subst hx0
 replace hr : some ([] : List qIndex) = some r := by simpa [app] using hr
 refine yd [0] (yh 0 2 (.slice none 0 0) (yb (W.ret (ye ?_))))
 obtain rfl := sj hr
 exact yu ⟨I, none, 0, Mem.no, rfl, lr, hS.no, OwnSl.nil⟩
 clear hc
 refine yi (En.next (yd nL4 (y4 (rel := R_qIndex) (xs := ([] : List qIndex)) hS rfl (by kernel_rfl) rfl 124 2 [] (by kernel_rfl) rfl (Elr.nil) (fun _ _ _ => trivial) ?_)))
 intro a6 C4 w8 hS7 ho5
 refine ya 1 1 rfl ?_
 obtain ⟨x10, hx_x10, hr⟩ := bsm hr
 obtain ⟨h0_x10, he_x10⟩ := app_some hx_x10
 refine yaj 124 40 (cs_qIndex z_qIndex zw_qIndex) hS7 ho5 h_p0 hS7.im h0_x10 he_x10 rfl fun a11 c12 w13 C14 hS15 ho16 => ya 3 1 rfl (yb (W.ret ?_))
 obtain rfl := sj hr
 exact yu ⟨I, a11, c12, C14, rfl, lr, hS15, ho16⟩
noncomputable def table_Clone (p0 : qTable) : Option qTable := (slices_Clone_qColumn p0.Cols).bind (fun r14 => (slices_Clone_qCons p0.Cons).bind (fun r27 => (forE (fun (i35 : Nat) => fun (s34 : List qCons) => (idx s34 (i35 : Int)).bind (fun x45 => (slices_Clone_string x45.Cols).bind (fun r59 => (slices_Clone_string x45.Refs).bind (fun r65 => (expr_Clone x45.Check).bind (fun r71 => (idx s34 (i35 : Int)).bind (fun x72 => (idx (s34.set ((i35 : Int)).toNat ({ x72 with Cols := r59 })) (i35 : Int)).bind (fun x85 => (idx ((s34.set ((i35 : Int)).toNat ({ x72 with Cols := r59 })).set ((i35 : Int)).toNat ({ x85 with Refs := r65 })) (i35 : Int)).bind (fun x97 => some (((s34.set ((i35 : Int)).toNat ({ x72 with Cols := r59 })).set ((i35 : Int)).toNat ({ x85 with Refs := r65 })).set ((i35 : Int)).toNat ({ x97 with Check := r71 })))))))))) r27.length 0 r27).bind (fun s34 => (slices_Clone_qIndex p0.Idx).bind (fun r115 => (forE (fun (i123 : Nat) => fun (s122 : List qIndex) => (idx s122 (i123 : Int)).bind (fun x134 => (slices_Clone_string x134.Cols).bind (fun r148 => (idx s122 (i123 : Int)).bind (fun x149 => some (s122.set ((i123 : Int)).toNat ({ x149 with Cols := r148 })))))) r115.length 0 r115).bind (fun s122 => some { p0 with Cols := r14, Cons := s34, Idx := s122 })))))
theorem table_Clone_ok {p0 : qTable} {w_p0 : W_qTable} (h_p0 : ok_qTable I p0 w_p0) (hS : St E w I Os) {r : qTable} (hr : table_Clone p0 = some r) :
    Calls P 77 #[(.agg (cs_qTable p0 w_p0).toArray)] w (fun e w' => ∃ I' w_rw0, e = .returned (.agg (cs_qTable r w_rw0).toArray) ∧ I.Le I' ∧ St E w' I' Os ∧ ok_qTable I' r w_rw0) := by
 refine calls_W (fn := Tryz.f77) rfl rfl rfl ?_
 unfold table_Clone at hr
 refine yd nL2 (yy hS (cs_qTable p0 w_p0) 89 rfl fun b1 w4 hS3 => yy hS3 (cs_qTable z_qTable zw_qTable) 89 rfl fun b5 w8 hS7 => y0 nL5 (yc 0 1 [3] rfl (yg (hS7.rf m1) rfl (bsk hr fun r14 hx_r9 hr => yab (slices_Clone_qColumn_ok h_p0.Cols hS7 hx_r9) ?_))))
 rintro _ w10 ⟨I11, a_r14, c_r14, C_r14, rfl, hl12, hS13, h_r14⟩
 refine ⟨_, rfl, trivial, ?_⟩
 refine yc 3 1 [3] rfl ?_
 obtain ⟨I15, hl16, hS18, hp17⟩ := y6 h_r14 hS13
 refine yx hS18.front1 3 (cs_qTable ({ p0 with Cols := r14 }) ({ w_p0 with Cols := ⟨a_r14, c_r14⟩ })) fun w21 hS20 => y0 nL5 (yc 0 1 [4] rfl (yg (hS20.rf m0) rfl (bsk hr fun r27 hx_r22 hr => yab (slices_Clone_qCons_ok (RSl.mono h_p0.Cons le) hS20 hx_r22) ?_)))
 rintro _ w23 ⟨I24, a_r27, c_r27, C_r27, rfl, hl25, hS26, h_r27⟩
 refine ⟨_, rfl, trivial, ?_⟩
 refine yc 3 1 [4] rfl (yx hS26.front1 4 (cs_qTable ({ p0 with Cols := r14, Cons := r27 }) ({ w_p0 with Cols := ⟨a_r14, c_r14⟩, Cons := ⟨a_r27, c_r27⟩ })) fun w30 hS29 => yb (yf (yd nL4 (yc 0 1 [4] rfl (yg (hS29.rf m0) rfl (ya 2 2 rfl (yb (W.block (bsk hr fun s34 hloop36 hr => have hlt43 := (h_r27.sl).len_lt; W.wk (W.forE (m := r27.length) hloop36 (fun (i35 : Nat) => fun (s34 : List qCons) fr w => ∃ I32 C_s34, fr = [(1, Pt b1 0), (2, Pt b5 0), (16, Sl a_r27 s34 c_r27), (17, Nv r27.length), (18, Nv i35)] ∧ I24.Le I32 ∧ St E w I32 ((Bx b1 (cs_qTable ({ p0 with Cols := r14, Cons := s34 }) ({ w_p0 with Cols := ⟨a_r14, c_r14⟩, Cons := ⟨a_r27, c_r27⟩ })) 89) :: (Bx b5 (cs_qTable z_qTable zw_qTable) 89) :: (C_s34) :: Os) ∧ OwnSl 100 12 R_qCons I32 C_s34 a_r27 c_r27 s34) ⟨I24, C_r27, rfl, lr, hS29.front1.front2.front2, h_r27⟩ ?_ ?_))))))))))
 rintro i35 s34 _ w40 hi44 ⟨I32, C_s34, rfl, hl33, hS41, h_s34⟩ x42 hr1
 refine yd [0] (ya 0 1 rfl (yb (yf (yah fun _ => yi (En.next (yf (W.block (yd nL6 (ya 0 1 rfl ?_)))))))))
 obtain ⟨x45, hr1, hb_x45, _, ⟨w_x45, rfl, h_x45⟩, hc_x45⟩ := sl_ix (h_s34.sl) hr1
 refine y3 100 12 hb_x45 rfl (yak ((cs_qCons x45 w_x45)) hc_x45 0 (hS41.rf m2) rfl (yy hS41 (cs_qCons z_qCons zw_qCons) 100 rfl fun b46 w49 hS48 => ya 4 1 rfl (yx hS48 0 (cs_qCons x45 w_x45) fun w51 hS50 => yb (have hS52 := hS50.drew; ya6 (l := nL27) (by kernel_rfl) 24 (KR I32 [Bx b46 (cs_qCons x45 w_x45) 100, Bx b1 (cs_qTable ({ p0 with Cols := r14, Cons := s34 }) ({ w_p0 with Cols := ⟨a_r14, c_r14⟩, Cons := ⟨a_r27, c_r27⟩ })) 89]) qR (.ords nL27 [0, 1, 2, 9, 10, 11, 12, 13, 14, 15, 16, 17, 18, 19, 20, 3, 4, 5, 21, 22, 23, 6, 7, 8, 24, 25, 26] (by kernel_rfl) (by kernel_rfl) (by kernel_rfl) (by kernel_rfl) (by kernel_rfl)) (by kernel_rfl) (KR.cons (hS52.rd m0) (KR.cons (hS52.rd m1) (KR.nil hS52.im))) ?_))))
 generalize World.drew _ = w53 at *
 refine yc 0 1 [4] rfl (yg (rd_c m1 (hS52.rd m1)) rfl (yc 2 2 [4] rfl (yg (rd_c m1 (hS52.rd m1)) rfl (yc 5 2 [4] rfl (yg (rd_c m1 (hS52.rd m1)) rfl (yc 8 2 [2] rfl (yg (rd_c m0 (hS52.rd m0)) rfl (bsk hr1 fun r59 hx_r54 hr1 => yab (slices_Clone_string_ok h_x45.Cols hS52 hx_r54) ?_))))))))
 rintro _ w55 ⟨I56, a_r59, c_r59, C_r59, rfl, hl57, hS58, h_r59⟩
 refine ⟨_, rfl, (KR.cons (hS58.rd m1) (KR.cons (hS58.rd m2) (KR.nil (hS58.im.of_le hl57)))), ?_⟩
 refine yc 12 1 [11] rfl (yg (rd_c m0 (hS58.rd m1)) rfl (bsk hr1 fun r65 hx_r60 hr1 => yab (slices_Clone_string_ok (RSl.mono h_x45.Refs hl57) hS58 hx_r60) ?_))
 rintro _ w61 ⟨I62, a_r65, c_r65, C_r65, rfl, hl63, hS64, h_r65⟩
 refine ⟨_, rfl, (KR.cons (hS64.rd m2) (KR.cons (hS64.rd m3) (KR.nil (hS64.im.of_le le)))), ?_⟩
 refine yc 15 1 [3] rfl (yv ((cs_qExpr x45.Check w_x45.Check)) (rd_c m0 (hS64.rd m2)) rfl (bsk hr1 fun r71 hx_r66 hr1 => yab (expr_Clone_ok (h_x45.Check.mono le) hS64 hx_r66) ?_))
 rintro _ w67 ⟨I68, w_r71, rfl, hl69, hS70, h_r71⟩
 refine ⟨_, rfl, (KR.cons (hS70.rd m2) (KR.cons (hS70.rd m3) (KR.nil (hS70.im.of_le le)))), ?_⟩
 obtain ⟨x72, hr1, h0_x72, h1_x72, hx_x72, ha_x72, _, _, ⟨w_x72, rfl, h_x72⟩, hc_x72⟩ := sl_at (h_s34.sl) hr1
 refine yaq 100 12 ha_x72 h0_x72 h1_x72 ?_
 refine yc 19 1 [2] rfl ?_
 obtain ⟨I74, hl75, hS77, hp76⟩ := y6 (h_r59.mono (hl63.trans hl69)) hS70.front1
 have hk83 : ok_qCons I74 ({ x72 with Cols := r59 }) ({ w_x72 with Cols := ⟨a_r59, c_r59⟩ }) := ⟨hp76, (h_x72.Check.mono (((hl57.trans hl63).trans hl69).trans hl75)), (RSl.mono h_x72.Refs (((hl57.trans hl63).trans hl69).trans hl75))⟩
 refine yas hS77.front4 (OwnSl.mono h_s34 le) rfl (by kernel_rfl) rfl hx_x72 (u' := { x72 with Cols := r59 }) 2 rfl rfl (by kernel_rfl) rfl rfl (fun cs hrel => (by obtain ⟨w_zz, rfl, h_zz⟩ := hrel; exact ⟨{ w_zz with Cols := ⟨a_r59, c_r59⟩ }, rfl, { h_zz with Cols := hp76 }⟩)) (fun w80 C81 hS79 => (KR.cons (hS79.rd m2) (KR.cons (hS79.rd m3) (KR.nil (hS79.im.of_le le))))) ?_
 intro w80 C81 hS79 ho82
 refine y7 16 rfl (show Value.slice a_r27 s34.length c_r27 = Value.slice a_r27 (s34.set ((i35 : Int)).toNat ({ x72 with Cols := r59 })).length c_r27 by simp only [List.length_set]) ?_
 refine y7 24 rfl (show Value.slice a_r27 s34.length c_r27 = Value.slice a_r27 (s34.set ((i35 : Int)).toNat ({ x72 with Cols := r59 })).length c_r27 by simp only [List.length_set]) ?_
 refine y7 27 rfl (show Value.slice a_r27 s34.length c_r27 = Value.slice a_r27 (s34.set ((i35 : Int)).toNat ({ x72 with Cols := r59 })).length c_r27 by simp only [List.length_set]) ?_
 refine y7 30 rfl (show Value.slice a_r27 s34.length c_r27 = Value.slice a_r27 (s34.set ((i35 : Int)).toNat ({ x72 with Cols := r59 })).length c_r27 by simp only [List.length_set]) ?_
 have hS84 : St E w80 I74 ((C81) :: (C_r65) :: (Bx b46 (cs_qCons x45 w_x45) 100) :: (Bx b1 (cs_qTable ({ p0 with Cols := r14, Cons := (s34.set ((i35 : Int)).toNat ({ x72 with Cols := r59 })) }) ({ w_p0 with Cols := ⟨a_r14, c_r14⟩, Cons := ⟨a_r27, c_r27⟩ })) 89) :: (Bx b5 (cs_qTable z_qTable zw_qTable) 89) :: Os) := by have hq := hS79; simp only [cs_qTable, List.length_set] at hq ⊢; exact hq
 obtain ⟨x85, hr1, h0_x85, h1_x85, hx_x85, ha_x85, _, _, ⟨w_x85, rfl, h_x85⟩, hc_x85⟩ := sl_at (ho82.sl) hr1
 refine yaq 100 12 ha_x85 h0_x85 h1_x85 ?_
 refine yc 22 1 [11] rfl ?_
 obtain ⟨I87, hl88, hS90, hp89⟩ := y6 (h_r65.mono (hl69.trans hl75)) hS84.front1
 have hk95 : ok_qCons I87 ({ x85 with Refs := r65 }) ({ w_x85 with Refs := ⟨a_r65, c_r65⟩ }) := ⟨(RSl.mono h_x85.Cols hl88), (h_x85.Check.mono hl88), hp89⟩
 refine yas hS90 (OwnSl.mono ho82 hl88) rfl (by kernel_rfl) rfl hx_x85 (u' := { x85 with Refs := r65 }) 11 rfl rfl (by kernel_rfl) rfl rfl (fun cs hrel => (by obtain ⟨w_zz, rfl, h_zz⟩ := hrel; exact ⟨{ w_zz with Refs := ⟨a_r65, c_r65⟩ }, rfl, { h_zz with Refs := hp89 }⟩)) (fun w92 C93 hS91 => (KR.cons (hS91.rd m1) (KR.cons (Rdb.eq (by simp only [cs_qTable, List.length_set]) (hS91.rd m2)) (KR.nil (hS91.im.of_le le))))) ?_
 intro w92 C93 hS91 ho94
 refine y7 16 rfl (show Value.slice a_r27 (s34.set ((i35 : Int)).toNat ({ x72 with Cols := r59 })).length c_r27 = Value.slice a_r27 ((s34.set ((i35 : Int)).toNat ({ x72 with Cols := r59 })).set ((i35 : Int)).toNat ({ x85 with Refs := r65 })).length c_r27 by simp only [List.length_set]) ?_
 refine y7 24 rfl (show Value.slice a_r27 (s34.set ((i35 : Int)).toNat ({ x72 with Cols := r59 })).length c_r27 = Value.slice a_r27 ((s34.set ((i35 : Int)).toNat ({ x72 with Cols := r59 })).set ((i35 : Int)).toNat ({ x85 with Refs := r65 })).length c_r27 by simp only [List.length_set]) ?_
 refine y7 27 rfl (show Value.slice a_r27 (s34.set ((i35 : Int)).toNat ({ x72 with Cols := r59 })).length c_r27 = Value.slice a_r27 ((s34.set ((i35 : Int)).toNat ({ x72 with Cols := r59 })).set ((i35 : Int)).toNat ({ x85 with Refs := r65 })).length c_r27 by simp only [List.length_set]) ?_
 refine y7 30 rfl (show Value.slice a_r27 (s34.set ((i35 : Int)).toNat ({ x72 with Cols := r59 })).length c_r27 = Value.slice a_r27 ((s34.set ((i35 : Int)).toNat ({ x72 with Cols := r59 })).set ((i35 : Int)).toNat ({ x85 with Refs := r65 })).length c_r27 by simp only [List.length_set]) ?_
 have hS96 : St E w92 I87 ((C93) :: (Bx b46 (cs_qCons x45 w_x45) 100) :: (Bx b1 (cs_qTable ({ p0 with Cols := r14, Cons := ((s34.set ((i35 : Int)).toNat ({ x72 with Cols := r59 })).set ((i35 : Int)).toNat ({ x85 with Refs := r65 })) }) ({ w_p0 with Cols := ⟨a_r14, c_r14⟩, Cons := ⟨a_r27, c_r27⟩ })) 89) :: (Bx b5 (cs_qTable z_qTable zw_qTable) 89) :: Os) := by have hq := hS91; simp only [cs_qTable, List.length_set] at hq ⊢; exact hq
 refine WO.tail rfl ?_
 obtain ⟨x97, hr1, h0_x97, h1_x97, hx_x97, ha_x97, _, _, ⟨w_x97, rfl, h_x97⟩, hc_x97⟩ := sl_at (ho94.sl) hr1
 refine yaq 100 12 ha_x97 h0_x97 h1_x97 ?_
 refine yc 25 1 [3] rfl ?_
 have hk102 : ok_qCons I87 ({ x97 with Check := r71 }) ({ w_x97 with Check := w_r71 }) := ⟨h_x97.Cols, (h_r71.mono (hl75.trans hl88)), h_x97.Refs⟩
 refine yas hS96 ho94 rfl (by kernel_rfl) rfl hx_x97 (u' := { x97 with Check := r71 }) 3 rfl rfl (by kernel_rfl) rfl rfl (fun cs hrel => (by obtain ⟨w_zz, rfl, h_zz⟩ := hrel; exact ⟨{ w_zz with Check := w_r71 }, rfl, { h_zz with Check := (h_r71.mono le) }⟩)) (fun _ _ _ => trivial) ?_
 intro w99 C100 hS98 ho101
 refine y7 16 rfl (show Value.slice a_r27 ((s34.set ((i35 : Int)).toNat ({ x72 with Cols := r59 })).set ((i35 : Int)).toNat ({ x85 with Refs := r65 })).length c_r27 = Value.slice a_r27 (((s34.set ((i35 : Int)).toNat ({ x72 with Cols := r59 })).set ((i35 : Int)).toNat ({ x85 with Refs := r65 })).set ((i35 : Int)).toNat ({ x97 with Check := r71 })).length c_r27 by simp only [List.length_set]) ?_
 refine y7 24 rfl (show Value.slice a_r27 ((s34.set ((i35 : Int)).toNat ({ x72 with Cols := r59 })).set ((i35 : Int)).toNat ({ x85 with Refs := r65 })).length c_r27 = Value.slice a_r27 (((s34.set ((i35 : Int)).toNat ({ x72 with Cols := r59 })).set ((i35 : Int)).toNat ({ x85 with Refs := r65 })).set ((i35 : Int)).toNat ({ x97 with Check := r71 })).length c_r27 by simp only [List.length_set]) ?_
 refine y7 27 rfl (show Value.slice a_r27 ((s34.set ((i35 : Int)).toNat ({ x72 with Cols := r59 })).set ((i35 : Int)).toNat ({ x85 with Refs := r65 })).length c_r27 = Value.slice a_r27 (((s34.set ((i35 : Int)).toNat ({ x72 with Cols := r59 })).set ((i35 : Int)).toNat ({ x85 with Refs := r65 })).set ((i35 : Int)).toNat ({ x97 with Check := r71 })).length c_r27 by simp only [List.length_set]) ?_
 refine y7 30 rfl (show Value.slice a_r27 ((s34.set ((i35 : Int)).toNat ({ x72 with Cols := r59 })).set ((i35 : Int)).toNat ({ x85 with Refs := r65 })).length c_r27 = Value.slice a_r27 (((s34.set ((i35 : Int)).toNat ({ x72 with Cols := r59 })).set ((i35 : Int)).toNat ({ x85 with Refs := r65 })).set ((i35 : Int)).toNat ({ x97 with Check := r71 })).length c_r27 by simp only [List.length_set]) ?_
 have hS103 : St E w99 I87 ((C100) :: (Bx b46 (cs_qCons x45 w_x45) 100) :: (Bx b1 (cs_qTable ({ p0 with Cols := r14, Cons := (((s34.set ((i35 : Int)).toNat ({ x72 with Cols := r59 })).set ((i35 : Int)).toNat ({ x85 with Refs := r65 })).set ((i35 : Int)).toNat ({ x97 with Check := r71 })) }) ({ w_p0 with Cols := ⟨a_r14, c_r14⟩, Cons := ⟨a_r27, c_r27⟩ })) 89) :: (Bx b5 (cs_qTable z_qTable zw_qTable) 89) :: Os) := by have hq := hS98; simp only [cs_qTable, List.length_set] at hq ⊢; exact hq
 refine WO.nil (yk (En.next (yaa nL2 (yae i35 rfl (ya 1 1 rfl (WO.nil ?_))))))
 obtain rfl := sj hr1
 exact yq ⟨I87, C100, rfl, le, hS103.front1.drop.front2.front2, ho101⟩
 rintro _ w108 ⟨I32, C_s34, rfl, hl33, hS109, h_s34⟩
 refine yd [0] (ya 0 1 rfl (yb (yf (yai fun _ => yz (ym (yn (yo (En.next (yd nL5 (yc 0 1 [5] rfl (yg (hS109.rf m0) rfl (bsk hr fun r115 hx_r110 hr => yab (slices_Clone_qIndex_ok (RSl.mono h_p0.Idx le) hS109 hx_r110) ?_))))))))))))
 rintro _ w111 ⟨I112, a_r115, c_r115, C_r115, rfl, hl113, hS114, h_r115⟩
 refine ⟨_, rfl, trivial, ?_⟩
 refine yc 3 1 [5] rfl (yx hS114.front1 5 (cs_qTable ({ p0 with Cols := r14, Cons := s34, Idx := r115 }) (⟨⟨a_r14, c_r14⟩, ⟨a_r27, c_r27⟩, ⟨a_r115, c_r115⟩⟩ : W_qTable)) fun w118 hS117 => yb (yf (yd nL4 (yc 0 1 [5] rfl (yg (hS117.rf m0) rfl (ya 2 2 rfl (yb (W.block (bsk hr fun s122 hloop124 hr => have hlt132 := (h_r115.sl).len_lt; W.wk (W.forE (m := r115.length) hloop124 (fun (i123 : Nat) => fun (s122 : List qIndex) fr w => ∃ I120 C_s122, fr = [(1, Pt b1 0), (2, Pt b5 0), (53, Sl a_r115 s122 c_r115), (54, Nv r115.length), (55, Nv i123)] ∧ I112.Le I120 ∧ St E w I120 ((Bx b1 (cs_qTable ({ p0 with Cols := r14, Cons := s34, Idx := s122 }) (⟨⟨a_r14, c_r14⟩, ⟨a_r27, c_r27⟩, ⟨a_r115, c_r115⟩⟩ : W_qTable)) 89) :: (Bx b5 (cs_qTable z_qTable zw_qTable) 89) :: (C_s122) :: (C_s34) :: Os) ∧ OwnSl 124 2 R_qIndex I120 C_s122 a_r115 c_r115 s122) ⟨I112, C_r115, rfl, lr, hS117.front3.front2.front3.front3, h_r115⟩ ?_ ?_))))))))))
 rintro i123 s122 _ w129 hi133 ⟨I120, C_s122, rfl, hl121, hS130, h_s122⟩ x131 hr1
 refine yd [0] (ya 0 1 rfl (yb (yf (yah fun _ => yi (En.next (yf (W.block (yd nL6 (ya 0 1 rfl ?_)))))))))
 obtain ⟨x134, hr1, hb_x134, _, ⟨w_x134, rfl, h_x134⟩, hc_x134⟩ := sl_ix (h_s122.sl) hr1
 refine y3 124 2 hb_x134 rfl (yak ((cs_qIndex x134 w_x134)) hc_x134 0 (hS130.rf m2) rfl (yy hS130 (cs_qIndex z_qIndex zw_qIndex) 124 rfl fun b135 w138 hS137 => ya 4 1 rfl (yx hS137 0 (cs_qIndex x134 w_x134) fun w140 hS139 => yb (have hS141 := hS139.drew; yat nL9 6 (KR.cons (hS141.rd m0) (KR.cons (hS141.rd m1) (KR.nil hS141.im))) ?_))))
 generalize World.drew _ = w142 at *
 refine yc 0 1 [5] rfl (yg (rd_c m1 (hS141.rd m1)) rfl (yc 2 2 [1] rfl (yg (rd_c m0 (hS141.rd m0)) rfl (bsk hr1 fun r148 hx_r143 hr1 => yab (slices_Clone_string_ok h_x134.Cols hS141 hx_r143) ?_))))
 rintro _ w144 ⟨I145, a_r148, c_r148, C_r148, rfl, hl146, hS147, h_r148⟩
 refine ⟨_, rfl, (KR.cons (hS147.rd m1) (KR.cons (hS147.rd m2) (KR.nil (hS147.im.of_le hl146)))), ?_⟩
 refine WO.tail rfl ?_
 obtain ⟨x149, hr1, h0_x149, h1_x149, hx_x149, ha_x149, _, _, ⟨w_x149, rfl, h_x149⟩, hc_x149⟩ := sl_at ((h_s122.mono hl146).sl) hr1
 refine yaq 124 2 ha_x149 h0_x149 h1_x149 ?_
 refine yc 7 1 [1] rfl ?_
 obtain ⟨I150, hl151, hS153, hp152⟩ := y6 h_r148 hS147
 have hk159 : ok_qIndex I150 ({ x149 with Cols := r148 }) (⟨⟨a_r148, c_r148⟩⟩ : W_qIndex) := ⟨hp152⟩
 refine yas hS153.front3 (OwnSl.mono h_s122 le) rfl (by kernel_rfl) rfl hx_x149 (u' := { x149 with Cols := r148 }) 1 rfl rfl (by kernel_rfl) rfl rfl (fun cs hrel => (by obtain ⟨w_zz, rfl, h_zz⟩ := hrel; exact ⟨{ w_zz with Cols := ⟨a_r148, c_r148⟩ }, rfl, { h_zz with Cols := hp152 }⟩)) (fun _ _ _ => trivial) ?_
 intro w156 C157 hS155 ho158
 refine y7 53 rfl (show Value.slice a_r115 s122.length c_r115 = Value.slice a_r115 (s122.set ((i123 : Int)).toNat ({ x149 with Cols := r148 })).length c_r115 by simp only [List.length_set]) ?_
 refine y7 61 rfl (show Value.slice a_r115 s122.length c_r115 = Value.slice a_r115 (s122.set ((i123 : Int)).toNat ({ x149 with Cols := r148 })).length c_r115 by simp only [List.length_set]) ?_
 have hS160 : St E w156 I150 ((C157) :: (Bx b135 (cs_qIndex x134 w_x134) 124) :: (Bx b1 (cs_qTable ({ p0 with Cols := r14, Cons := s34, Idx := (s122.set ((i123 : Int)).toNat ({ x149 with Cols := r148 })) }) (⟨⟨a_r14, c_r14⟩, ⟨a_r27, c_r27⟩, ⟨a_r115, c_r115⟩⟩ : W_qTable)) 89) :: (Bx b5 (cs_qTable z_qTable zw_qTable) 89) :: (C_s34) :: Os) := by have hq := hS155; simp only [cs_qTable, List.length_set] at hq ⊢; exact hq
 refine WO.nil (yk (En.next (yaa nL2 (yae i123 rfl (ya 1 1 rfl (WO.nil ?_))))))
 obtain rfl := sj hr1
 exact yq ⟨I150, C157, rfl, le, hS160.front1.drop.front3.front1.front3.front3, ho158⟩
 rintro _ w167 ⟨I120, C_s122, rfl, hl121, hS168, h_s122⟩
 refine yd [0] (ya 0 1 rfl (yb (yf (yai fun _ => yz (ym (yn (yo (En.next (yd nL2 (yv ((cs_qTable ({ p0 with Cols := r14, Cons := s34, Idx := s122 }) (⟨⟨a_r14, c_r14⟩, ⟨a_r27, c_r27⟩, ⟨a_r115, c_r115⟩⟩ : W_qTable))) (hS168.rf m0) rfl ?_))))))))))
 obtain ⟨I170, hl171, hS173, hp172⟩ := y6 (h_s34.mono (hl113.trans hl121)) hS168.front3
 obtain ⟨I175, hl176, hS178, hp177⟩ := y6 (h_s122.mono hl171) hS173.front2
 refine yx hS178.front1 0 (cs_qTable ({ p0 with Cols := r14, Cons := s34, Idx := s122 }) (⟨⟨a_r14, c_r14⟩, ⟨a_r27, c_r27⟩, ⟨a_r115, c_r115⟩⟩ : W_qTable)) fun w181 hS180 => yb (W.ret ?_)
 have hk184 : ok_qTable I175 ({ p0 with Cols := r14, Cons := s34, Idx := s122 }) (⟨⟨a_r14, c_r14⟩, ⟨a_r27, c_r27⟩, ⟨a_r115, c_r115⟩⟩ : W_qTable) := ⟨(RSl.mono hp17 (((((hl25.trans hl33).trans hl113).trans hl121).trans hl171).trans hl176)), (RSl.mono hp172 hl176), hp177⟩
 obtain rfl := sj hr
 exact En.c1 _ (hS180.rd m0) ⟨I175, (⟨⟨a_r14, c_r14⟩, ⟨a_r27, c_r27⟩, ⟨a_r115, c_r115⟩⟩ : W_qTable), rfl, le, hS180.drop.drop, hk184⟩
def catalog_Find_1 (p0 : qTable) (q1 : ByteArray) : Option Bool := some (sEq p0.Name q1)
theorem catalog_Find_1_ok {p0 : qTable} {q1 : ByteArray} {w_p0 : W_qTable} {kb1 : Nat} (h_p0 : ok_qTable I p0 w_p0) (hm1 : (Bx kb1 [(.string q1)] 9) ∈ Os) (hS : St E w I Os) {r : Bool} (hr : catalog_Find_1 p0 q1 = some r) :
    Calls P 76 #[(.agg (cs_qTable p0 w_p0).toArray), (Pt kb1 0)] w (fun e w' => ∃ I', e = .returned (.bool r) ∧ I.Le I' ∧ St E w' I' Os) := by
 refine calls_W (fn := Tryz.f76) rfl rfl rfl ?_
 unfold catalog_Find_1 at hr
 refine yd nL2 (yy hS (cs_qTable p0 w_p0) 89 rfl fun b1 w4 hS3 => ya 1 1 rfl (y0 nL5 (yc 0 1 [0] rfl (yg (hS3.rf m0) rfl (yg (rd_f (hS3.rd (List.Mem.tail _ hm1))) rfl (ya 3 2 rfl (yb (W.ret ?_))))))))
 obtain rfl := sj hr
 exact yu ⟨I, rfl, lr, hS3.drop⟩
noncomputable def catalog_Find (p0 : qCatalog) (p1 : ByteArray) : Option (qTable × Bool) := (slices_IndexFunc_qTable p0.Tables (fun (u0 : qTable) => catalog_Find_1 u0 p1)).bind (fun r18 => (bif (decide (r18 ≥ 0)) then (idx p0.Tables r18).bind (fun x19 => (table_Clone x19).bind (fun r25 => some (r25, true))) else some (z_qTable, false)))
theorem catalog_Find_ok {p0 : qCatalog} {p1 : ByteArray} {w_p0 : W_qCatalog} (h_p0 : ok_qCatalog I p0 w_p0) (hS : St E w I Os) {r : qTable × Bool} (hr : catalog_Find p0 p1 = some r) :
    Calls P 43 #[(.agg (cs_qCatalog p0 w_p0).toArray), (.string p1)] w (fun e w' => ∃ I' w_rw0, e = .returned (.tuple #[(.agg (cs_qTable r.1 w_rw0).toArray), (.bool r.2)]) ∧ I.Le I' ∧ St E w' I' Os ∧ ok_qTable I' r.1 w_rw0) := by
 refine calls_W (fn := Tryz.f43) rfl rfl rfl ?_
 unfold catalog_Find at hr
 refine yd nL4 (yy hS (cs_qCatalog p0 w_p0) 29 rfl fun b1 w4 hS3 => yy hS3 [(.string p1)] 9 rfl fun b5 w8 hS7 => yy hS7 (cs_qTable z_qTable zw_qTable) 89 rfl fun b9 w12 hS11 => ya 3 1 rfl (yb (yf (yd nL5 (yc 0 1 [1] rfl (yg (hS11.rf m2) rfl (yh 2 9 (.func (.func 76) #[] #[(Pt b5 0)]) (bsk hr fun r18 hx_r13 hr => WO.c1 (slices_IndexFunc_qTable_ok h_p0.Tables (fun {F Ic wc} {_} {_} hlc hSc h_u0 {rc} hrc => catalog_Find_1_ok h_u0 (List.mem_append_right _ m1) hSc hrc) (fun _ _ => by kernel_rfl) hS11 hx_r13) rfl fun I15 w14 hl16 hS17 => ya 4 1 rfl (y0 nL2 (ya 0 2 rfl (yb (W.cb hr (fun hc hr => ?_) (fun hc hr => ?_)))))))))))))
 refine yd nL8 (yc 0 1 [1] rfl (yg (hS17.rf m2) rfl (ya 2 1 rfl ?_)))
 obtain ⟨x19, hr, hb_x19, _, ⟨w_x19, rfl, h_x19⟩, hc_x19⟩ := sl_ix ((RSl.mono h_p0.Tables hl16)) hr
 refine y3 89 6 hb_x19 rfl (yak ((cs_qTable x19 w_x19)) hc_x19 0 hS17.rm rfl (bsk hr fun r25 hx_r20 hr => yab (table_Clone_ok h_x19 hS17 hx_r20) ?_))
 rintro _ w21 ⟨I22, w_r25, rfl, hl23, hS24, h_r25⟩
 refine ⟨_, rfl, trivial, ?_⟩
 refine yx hS24 0 (cs_qTable r25 w_r25) fun w27 hS26 => ya 7 1 rfl (yb (W.ret (ye ?_)))
 obtain rfl := sj hr
 exact yan _ (hS26.rd m0) ⟨I22, w_r25, rfl, le, hS26.drop.drop.drop, h_r25⟩
 refine yi (En.next (yd nL3 (yh 0 19 (.agg (cs_qTable z_qTable zw_qTable).toArray) (yx hS17 0 (cs_qTable z_qTable zw_qTable) fun w32 hS31 => ya 2 1 rfl (yb (W.ret ?_))))))
 obtain rfl := sj hr
 exact yan _ (hS31.rd m0) ⟨I15, zw_qTable, rfl, hl16, hS31.drop.drop.drop, zok_qTable⟩
noncomputable def grants_Owns (p0 : qCatalog) (p1 : ByteArray) (p2 : ByteArray) : Option Bool := (catalog_Find p0 p2).bind (fun (r10, r11) => ((bif r11 then (member_Is p0.Roles p1 r10.Owner).bind (fun r27 => some r27) else some false)).bind (fun (j18 : Bool) => some j18))
theorem grants_Owns_ok {p0 : qCatalog} {p1 : ByteArray} {p2 : ByteArray} {w_p0 : W_qCatalog} (h_p0 : ok_qCatalog I p0 w_p0) (hS : St E w I Os) {r : Bool} (hr : grants_Owns p0 p1 p2 = some r) :
    Calls P 21 #[(.agg (cs_qCatalog p0 w_p0).toArray), (.string p1), (.string p2)] w (fun e w' => ∃ I', e = .returned (.bool r) ∧ I.Le I' ∧ St E w' I' Os) := by
 refine calls_W (fn := Tryz.f21) rfl rfl rfl ?_
 unfold grants_Owns at hr
 refine yd nL2 (yy hS (cs_qCatalog p0 w_p0) 29 rfl fun b1 w4 hS3 => ya 1 1 rfl (y0 nL9 (yv ((cs_qCatalog p0 w_p0)) (hS3.rf m0) rfl (ya 1 1 rfl ?_))))
 obtain ⟨⟨r10, r11⟩, hx_r5, hr⟩ := bsm hr
 refine yab (catalog_Find_ok h_p0 hS3 hx_r5) ?_
 rintro _ w6 ⟨I7, w_r10, rfl, hl8, hS9, h_r10⟩
 refine ⟨_, rfl, trivial, ?_⟩
 refine ya 3 3 rfl (yy hS9 (cs_qTable z_qTable zw_qTable) 89 rfl fun b12 w15 hS14 => yx hS14 0 (cs_qTable r10 w_r10) fun w17 hS16 => ya 8 1 rfl (y0 nL10 (ya 0 2 rfl (bsk hr fun j18 hr1 hr => WO.jw (l1 := [2, 3, 4, 5, 6, 7, 8]) (J := (fun fr w => ∃ I20, fr = [(23, .bool j18)] ∧ I7.Le I20 ∧ St E w I20 Os)) ?_ ?_))))
 refine WO.cb hr1 (fun hc hr1 => ?_) (fun hc hr1 => ?_)
 refine yl 16 hc (yc 2 1 [2] rfl (yg (hS16.rf m1) rfl (yc 4 2 [1] rfl (yg (hS16.rf m0) rfl (bsk hr1 fun r27 hx_r22 hr1 => WO.c1 (member_Is_ok (RSl.mono h_p0.Roles hl8) hS16 hx_r22) rfl fun I24 w23 hl25 hS26 => yh 8 23 (.bool r27) ?_)))))
 obtain rfl := sj hr1
 exact yw ⟨I24, rfl, hl25, hS26.drop.drop⟩
 refine yl 16 hc ?_
 iterate 6 refine yt ?_
 refine yh 8 23 (.bool false) ?_
 obtain rfl := sj hr1
 exact yw ⟨I7, rfl, lr, hS16.drop.drop⟩
 rintro _ w32 ⟨I20, rfl, hl21, hS33⟩
 refine ya 9 1 rfl (yb (W.ret ?_))
 obtain rfl := sj hr
 exact yu ⟨I20, rfl, le, hS33⟩
def slices_ContainsFunc_qGrant (p0 : List qGrant) (p1 : qGrant → Option Bool) : Option Bool := (slices_IndexFunc_qGrant p0 p1).bind (fun r6 => some (decide (r6 ≥ 0)))
theorem slices_ContainsFunc_qGrant_ok {p0 : List qGrant} {p1 : qGrant → Option Bool} {a_p0 : Option Addr} {c_p0 : Nat} {g_p1 : FuncId} {k_p1 : List Value} (h_p0 : RSl 5 R_qGrant I a_p0 c_p0 p0) (h_p1 : ∀ {F : List Mem} {I' : Mem} {w : World} {u0 : qGrant}, I.Le I' → St E w I' (F ++ Os) → ∀ {r : Bool}, p1 u0 = some r → Calls P g_p1 (([(.agg (cs_qGrant u0).toArray)] : List Value) ++ k_p1).toArray w (fun e w' => ∃ (I'' : Mem), e = .returned (.bool r) ∧ I'.Le I'' ∧ St E w' I'' (F ++ Os))) (hcall_p1 : Callable P g_p1) (hS : St E w I Os) {r : Bool} (hr : slices_ContainsFunc_qGrant p0 p1 = some r) :
    Calls P 78 #[(Sl a_p0 p0 c_p0), (.func (.func g_p1) #[] k_p1.toArray)] w (fun e w' => ∃ I', e = .returned (.bool r) ∧ I.Le I' ∧ St E w' I' Os) := by
 refine calls_W (fn := Tryz.f78) rfl rfl rfl ?_
 unfold slices_ContainsFunc_qGrant at hr
 refine yd [0] (ya 0 1 rfl (y0 nL5 (ya 0 1 rfl (yh 1 6 (.func (.func g_p1) #[] k_p1.toArray) (bsk hr fun r6 hx_r1 hr => WO.c1 (slices_IndexFunc_qGrant_ok h_p0 (fun {F Ic wc} {_} hlc hSc  {rc} hrc => h_p1 hlc hSc  hrc) hcall_p1 hS hx_r1) rfl fun I3 w2 hl4 hS5 => ya 3 2 rfl (yb (W.ret ?_)))))))
 obtain rfl := sj hr
 exact yu ⟨I3, rfl, hl4, hS5⟩
noncomputable def grants_has_1 (p0 : qGrant) (q1 : Int) (q2 : ByteArray) (q3 : Bool) (q4 : qCatalog) (q5 : ByteArray) : Option Bool := (some (((p0.Priv == q1) && (sEq p0.Table q2)) && (p0.Option || (!q3)))).bind (fun (q9 : Bool) => ((bif q9 then (member_Is q4.Roles q5 p0.To).bind (fun r23 => some r23) else some false)).bind (fun (j14 : Bool) => some j14))
theorem grants_has_1_ok {p0 : qGrant} {q1 : Int} {q2 : ByteArray} {q3 : Bool} {q4 : qCatalog} {q5 : ByteArray} {kb1 : Nat} {kb2 : Nat} {kb3 : Nat} {kb4 : Nat} {w_q4 : W_qCatalog} {kb5 : Nat} (h_q4 : ok_qCatalog I q4 w_q4) (hm1 : (Bx kb1 [(Iv q1)] 3) ∈ Os) (hm2 : (Bx kb2 [(.string q2)] 9) ∈ Os) (hm3 : (Bx kb3 [(.bool q3)] 4) ∈ Os) (hm4 : (Bx kb4 (cs_qCatalog q4 w_q4) 29) ∈ Os) (hm5 : (Bx kb5 [(.string q5)] 9) ∈ Os) (hS : St E w I Os) {r : Bool} (hr : grants_has_1 p0 q1 q2 q3 q4 q5 = some r) :
    Calls P 79 #[(.agg (cs_qGrant p0).toArray), (Pt kb1 0), (Pt kb2 0), (Pt kb3 0), (Pt kb4 0), (Pt kb5 0)] w (fun e w' => ∃ I', e = .returned (.bool r) ∧ I.Le I' ∧ St E w' I' Os) := by
 refine calls_W (fn := Tryz.f79) rfl rfl rfl ?_
 unfold grants_has_1 at hr
 refine yd nL2 (yy hS (cs_qGrant p0) 67 rfl fun b1 w4 hS3 => ya 1 1 rfl (y0 nL27 (yc 0 1 [3] rfl (yg (hS3.rf m0) rfl (yg (rd_f (hS3.rd (List.Mem.tail _ hm1))) rfl (ya 3 2 rfl (yac (l1 := [5, 6, 7, 8, 9]) 17 ((p0.Priv == q1) && (sEq p0.Table q2)) ?_ ?_)))))))
 refine yr (p0.Priv == q1) (fun hc => ?_) (fun hc => ?_)
 exact yl 12 hc (yc 5 1 [2] rfl (yg (hS3.rf m0) rfl (yg (rd_f (hS3.rd (List.Mem.tail _ hm2))) rfl (ya 8 1 rfl (yh 9 17 (.bool (sEq p0.Table q2)) (WO.mk 12 hc (by rw [hc]; rfl)))))))
 refine yl 12 hc ?_
 iterate 4 refine yt ?_
 exact yh 9 17 (.bool false) (WO.mk 12 hc (by rw [hc]; rfl))
 refine ya 10 1 rfl ?_
 obtain ⟨q9, hx_q9, hr⟩ := bsm hr
 replace hx_q9 := sj hx_q9
 refine yac (l1 := [11, 12, 13, 14, 15, 16, 17]) 25 q9 ?_ ?_
 refine yr ((p0.Priv == q1) && (sEq p0.Table q2)) (fun hc => ?_) (fun hc => ?_)
 refine yl 18 hc (yc 11 1 [4] rfl (yg (hS3.rf m0) rfl (ya 13 1 rfl (yac (l1 := [14, 15, 16]) 24 (p0.Option || (!q3)) ?_ ?_))))
 refine yr p0.Option (fun hc => ?_) (fun hc => ?_)
 refine yl 21 hc ?_
 iterate 2 refine yt ?_
 exact yh 16 24 (.bool true) (WO.mk 21 hc (by rw [hc]; rfl))
 exact yl 21 hc (yg (rd_f (hS3.rd (List.Mem.tail _ hm3))) rfl (ya 15 1 rfl (yh 16 24 (.bool (!q3)) (WO.mk 21 hc (by rw [hc]; rfl)))))
 exact yh 17 25 (.bool (p0.Option || (!q3))) (WO.mk 18 hc (by rw [← hx_q9, hc]; rfl))
 refine yl 18 hc ?_
 iterate 6 refine yt ?_
 exact yh 17 25 (.bool false) (WO.mk 18 hc (by rw [← hx_q9, hc]; rfl))
 refine ya 18 1 rfl (bsk hr fun j14 hr1 hr => WO.jw (l1 := [19, 20, 21, 22, 23, 24, 25]) (J := (fun fr w => ∃ I16, fr = [(33, .bool j14)] ∧ I.Le I16 ∧ St E w I16 Os)) ?_ ?_)
 refine WO.cb hr1 (fun hc hr1 => ?_) (fun hc hr1 => ?_)
 refine yl 26 hc (yc 19 1 [2] rfl (yg (rd_f (hS3.rd (List.Mem.tail _ hm4))) rfl (yg (rd_f (hS3.rd (List.Mem.tail _ hm5))) rfl (yc 22 1 [0] rfl (yg (hS3.rf m0) rfl (bsk hr1 fun r23 hx_r18 hr1 => WO.c1 (member_Is_ok h_q4.Roles hS3 hx_r18) rfl fun I20 w19 hl21 hS22 => yh 25 33 (.bool r23) ?_))))))
 obtain rfl := sj hr1
 exact yw ⟨I20, rfl, hl21, hS22.drop⟩
 refine yl 26 hc ?_
 iterate 6 refine yt ?_
 refine yh 25 33 (.bool false) ?_
 obtain rfl := sj hr1
 exact yw ⟨I, rfl, lr, hS3.drop⟩
 rintro _ w26 ⟨I16, rfl, hl17, hS27⟩
 refine ya 26 1 rfl (yb (W.ret ?_))
 obtain rfl := sj hr
 exact yu ⟨I16, rfl, hl17, hS27⟩
noncomputable def grants_has (p0 : qCatalog) (p1 : List qGrant) (p2 : ByteArray) (p3 : Int) (p4 : ByteArray) (p5 : Bool) : Option Bool := (slices_ContainsFunc_qGrant p1 (fun (u0 : qGrant) => grants_has_1 u0 p3 p4 p5 p0 p2)).bind (fun r26 => some r26)
theorem grants_has_ok {p0 : qCatalog} {p1 : List qGrant} {p2 : ByteArray} {p3 : Int} {p4 : ByteArray} {p5 : Bool} {w_p0 : W_qCatalog} {a_p1 : Option Addr} {c_p1 : Nat} (h_p0 : ok_qCatalog I p0 w_p0) (h_p1 : RSl 5 R_qGrant I a_p1 c_p1 p1) (hS : St E w I Os) {r : Bool} (hr : grants_has p0 p1 p2 p3 p4 p5 = some r) :
    Calls P 44 #[(.agg (cs_qCatalog p0 w_p0).toArray), (Sl a_p1 p1 c_p1), (.string p2), (Iv p3), (.string p4), (.bool p5)] w (fun e w' => ∃ I', e = .returned (.bool r) ∧ I.Le I' ∧ St E w' I' Os) := by
 refine calls_W (fn := Tryz.f44) rfl rfl rfl ?_
 unfold grants_has at hr
 refine yd nL6 (yy hS (cs_qCatalog p0 w_p0) 29 rfl fun b1 w4 hS3 => yy hS3 [(.string p2)] 9 rfl fun b5 w8 hS7 => yy hS7 [(Iv p3)] 3 rfl fun b9 w12 hS11 => yy hS11 [(.string p4)] 9 rfl fun b13 w16 hS15 => yy hS15 [(.bool p5)] 4 rfl fun b17 w20 hS19 => ya 5 1 rfl (y0 nL4 (ya 0 1 rfl (yh 1 14 (.func (.func 79) #[] #[(Pt b9 0), (Pt b13 0), (Pt b17 0), (Pt b1 0), (Pt b5 0)]) (bsk hr fun r26 hx_r21 hr => WO.c1 (slices_ContainsFunc_qGrant_ok h_p1 (fun {F Ic wc} {_} hlc hSc  {rc} hrc => grants_has_1_ok (h_p0.mono hlc) (List.mem_append_right _ m2) (List.mem_append_right _ m1) (List.mem_append_right _ m0) (List.mem_append_right _ m4) (List.mem_append_right _ m3) hSc hrc) (fun _ _ => by kernel_rfl) hS19 hx_r21) rfl fun I23 w22 hl24 hS25 => ya 3 1 rfl (yb (W.ret ?_)))))))
 obtain rfl := sj hr
 exact yu ⟨I23, rfl, hl24, hS25.drop.drop.drop.drop.drop⟩
def grants_Held_1 (q0 : qCatalog) (q1 : List Bool) : Option (List qGrant) := (forE (fun (i5 : Nat) => fun (s4 : List qGrant) => (idx q0.Grants (i5 : Int)).bind (fun x14 => (idx q1 (i5 : Int)).bind (fun x21 => ((bif x21 then (app 64 s4 ([x14] : List qGrant)).bind (fun x34 => some x34) else some s4)).bind (fun (j22 : List qGrant) => some j22)))) q0.Grants.length 0 ([] : List qGrant)).bind (fun s4 => some s4)
theorem grants_Held_1_ok {q0 : qCatalog} {q1 : List Bool} {kb0 : Nat} {w_q0 : W_qCatalog} {kb1 : Nat} {a_q1 : Option Addr} {c_q1 : Nat} (h_q0 : ok_qCatalog I q0 w_q0) (h_q1 : RSl 1 RBool I a_q1 c_q1 q1) (hm0 : (Bx kb0 (cs_qCatalog q0 w_q0) 29) ∈ Os) (hm1 : (Bx kb1 [(Sl a_q1 q1 c_q1)] 90) ∈ Os) (hS : St E w I Os) {r : (List qGrant)} (hr : grants_Held_1 q0 q1 = some r) :
    Calls P 42 #[(Pt kb0 0), (Pt kb1 0)] w (fun e w' => ∃ (I' : Mem) (ra0 : Option Addr) (rc0 : Nat) (rC0 : Mem), e = .returned (Sl ra0 r rc0) ∧ I.Le I' ∧ St E w' I' (rC0 :: Os) ∧ OwnSl 67 5 R_qGrant I' rC0 ra0 rc0 r) := by
 refine calls_W (fn := Tryz.f42) rfl rfl rfl ?_
 unfold grants_Held_1 at hr
 refine yd [0] (yh 0 2 (.slice none 0 0) (y0 [0] (yh 0 3 (.slice none 0 0) (yb (yf (yd nL4 (yc 0 1 [3] rfl (yg (rd_f (hS.rd hm0)) rfl (ya 2 2 rfl (yb (W.block (bsk hr fun s4 hloop6 hr => have hlt12 := (h_q0.Grants).len_lt; W.wk (W.forE (m := q0.Grants.length) hloop6 (fun (i5 : Nat) => fun (s4 : List qGrant) fr w => ∃ I2 a_s4 c_s4 C_s4, fr = [(1, Pt kb1 0), (3, Sl a_s4 s4 c_s4), (7, Sl w_q0.Grants.a q0.Grants w_q0.Grants.c), (8, Nv q0.Grants.length), (9, Nv i5)] ∧ I.Le I2 ∧ St E w I2 ((C_s4) :: Os) ∧ OwnSl 67 5 R_qGrant I2 C_s4 a_s4 c_s4 s4) ⟨I, none, 0, Mem.no, rfl, lr, hS.no, OwnSl.nil⟩ ?_ ?_)))))))))))))
 rintro i5 s4 _ w9 hi13 ⟨I2, a_s4, c_s4, C_s4, rfl, hl3, hS10, h_s4⟩ x11 hr1
 refine yd [0] (ya 0 1 rfl (yb (yf (yah fun _ => yi (En.next (yf (W.block (yd nL6 (ya 0 1 rfl ?_)))))))))
 obtain ⟨x14, hr1, hb_x14, _, rfl, hc_x14⟩ := sl_ix ((RSl.mono h_q0.Grants hl3)) hr1
 refine y3 67 5 hb_x14 rfl (yak ((cs_qGrant x14)) hc_x14 0 hS10.rm rfl (yy hS10 (cs_qGrant z_qGrant) 67 rfl fun b15 w18 hS17 => ya 4 1 rfl (yx hS17 0 (cs_qGrant x14) fun w20 hS19 => y0 nL4 (yg (rd_f (hS19.rd (List.Mem.tail _ (List.Mem.tail _ hm1)))) rfl (ya 1 1 rfl ?_)))))
 obtain ⟨x21, hr1, hb_x21, _, rfl, hc_x21⟩ := sl_ix ((RSl.mono h_q1 hl3)) hr1
 refine y3 4 1 hb_x21 rfl (yaf hc_x21 hS19.rm rfl (yb (bsk hr1 fun j22 hr2 hr1 => W.jw (J := (fun fr w => ∃ I24 a_j22 c_j22 C_j22, fr = [(1, Pt kb1 0), (3, Sl a_j22 j22 c_j22), (7, Sl w_q0.Grants.a q0.Grants w_q0.Grants.c), (8, Nv q0.Grants.length), (9, Nv i5)] ∧ I2.Le I24 ∧ St E w I24 ((C_j22) :: Os) ∧ OwnSl 67 5 R_qGrant I24 C_j22 a_j22 c_j22 j22)) ?_ ?_)))
 refine W.cb hr2 (fun hc hr2 => ?_) (fun hc hr2 => ?_)
 refine yaa nL5 (ya 0 1 rfl (yv ((cs_qGrant x14)) (hS19.rf m0) rfl (y4 (rel := R_qGrant) (xs := ([x14] : List qGrant)) hS19 rfl (by kernel_rfl) rfl 67 5 [(cs_qGrant x14)] (by kernel_rfl) rfl ((Elr.cons rfl Elr.nil)) (fun _ _ _ => trivial) ?_)))
 intro a29 C27 w31 hS30 ho28
 have hS33 := hS30.front2
 obtain ⟨x34, hx_x34, hr2⟩ := bsm hr2
 obtain ⟨h0_x34, he_x34⟩ := app_some hx_x34
 refine yaj 67 64 (cs_qGrant z_qGrant) hS33 h_s4 ho28.sl (hS33.rd m1) h0_x34 he_x34 rfl fun a35 c36 w37 C38 hS39 ho40 => ya 4 1 rfl (WO.nil ?_)
 obtain rfl := sj hr2
 exact yq ⟨I2, a35, c36, C38, rfl, lr, hS39.front1.drop.front1.drop, ho40⟩
 refine yi ?_
 obtain rfl := sj hr2
 exact yq ⟨I2, a_s4, c_s4, C_s4, rfl, lr, hS19.drop, h_s4⟩
 rintro _ w46 ⟨I24, a_j22, c_j22, C_j22, rfl, hl25, hS47, h_j22⟩
 refine yk (En.next (yaa nL2 (yae i5 rfl (ya 1 1 rfl (WO.nil ?_)))))
 obtain rfl := sj hr1
 exact yq ⟨I24, a_j22, c_j22, C_j22, rfl, le, hS47, h_j22⟩
 rintro _ w48 ⟨I2, a_s4, c_s4, C_s4, rfl, hl3, hS49, h_s4⟩
 refine yd [0] (ya 0 1 rfl (yb (yf (yai fun _ => yz (ym (yn (yo (En.next (yd nL2 (ya 0 2 rfl (yb (W.ret ?_))))))))))))
 obtain rfl := sj hr
 exact yu ⟨I2, a_s4, c_s4, C_s4, rfl, hl3, hS49, h_s4⟩
noncomputable def grants_Held (p0 : qCatalog) : Option (List qGrant) := (mk 1 (p0.Grants.length : Int)).bind (fun n5 => (loopO (fun (s : Bool × (List Bool)) => match s with | (s21, s22) => (bif s21 then (grants_Held_1 p0 s22).bind (fun r38 => (forE (fun (i50 : Nat) => fun (s : Bool × (List Bool)) => match s with | (s48, s49) => (idx p0.Grants (i50 : Int)).bind (fun x59 => (catalog_Find p0 x59.Table).bind (fun (r71, r72) => (member_Find p0.Roles x59.To).bind (fun (r84, r85) => (idx s49 (i50 : Int)).bind (fun x92 => ((bif (((!x92) && r72) && r85) then (grants_Owns p0 x59.By x59.Table).bind (fun r106 => ((bif r106 then some true else (grants_has p0 r38 x59.By x59.Priv x59.Table true).bind (fun r119 => some r119))).bind (fun (j107 : Bool) => some j107)) else some false)).bind (fun (j97 : Bool) => ((bif j97 then (idx s49 (i50 : Int)).bind (fun x134 => some (true, (s49.set ((i50 : Int)).toNat true))) else some (s48, s49))).bind (fun ((s141, s142) : Bool × (List Bool)) => some (s141, s142)))))))) p0.Grants.length 0 (false, s22)).bind (fun (s48, s49) => some (.inl (s48, s49)))) else some (.inr s22))) (true, (List.replicate n5 false))).bind (fun (s150 : List Bool) => (grants_Held_1 p0 s150).bind (fun r159 => some r159)))
theorem grants_Held_ok {p0 : qCatalog} {w_p0 : W_qCatalog} (h_p0 : ok_qCatalog I p0 w_p0) (hS : St E w I Os) {r : (List qGrant)} (hr : grants_Held p0 = some r) :
    Calls P 18 #[(.agg (cs_qCatalog p0 w_p0).toArray)] w (fun e w' => ∃ (I' : Mem) (ra0 : Option Addr) (rc0 : Nat), e = .returned (Sl ra0 r rc0) ∧ I.Le I' ∧ St E w' I' Os ∧ RSl 5 R_qGrant I' ra0 rc0 r) := by
 refine calls_W (fn := Tryz.f18) rfl rfl rfl ?_
 unfold grants_Held at hr
 refine yd nL2 (yy hS (cs_qCatalog p0 w_p0) 29 rfl fun b1 w4 hS3 => yh 1 2 (.slice none 0 0) (y0 nL6 (yc 0 1 [3] rfl (yg (hS3.rf m0) rfl (ya 2 1 rfl ?_)))))
 obtain ⟨n5, hx_n5, hr⟩ := bsm hr
 obtain ⟨h0_n5, he_n5⟩ := mk_some hx_n5
 refine WO.make (rel := RBool) hS3 rfl (by kernel_rfl) rfl (by kernel_rfl) (T := 4) (sz := 1) (b := 1) (zs := #[(.bool false)]) (by kernel_rfl) rfl rfl n5 (congrArg (Value.int .i64) he_n5) (congrArg (Value.int .i64) he_n5) h0_n5 rfl (z0 := false) rfl (fun _ _ _ => trivial) ?_
 intro a6 w10 C7 hS9 ho8
 refine y7 16 rfl (show Value.slice a6 n5 n5 = Value.slice a6 (List.replicate n5 false).length n5 by simp only [List.length_replicate]) ?_
 refine yy hS9 [(.slice none 0 0)] 90 rfl fun b12 w15 hS14 => yx hS14 0 [(.slice a6 (List.replicate n5 false).length n5)] fun w17 hS16 => y0 nL2 (WO.vs 0 [(17, .func (.func 42) #[] #[(Pt b1 0), (Pt b12 0)]), (4, .func (.func 42) #[] #[(Pt b1 0), (Pt b12 0)])] (yb (yf (yd [0] (ya 0 1 rfl (yb (W.block (bsk hr fun t18 hloop23 hr => W.wk (yau hloop23 (fun (s : Bool × (List Bool)) fr w => match s with | (s21, s22) => ∃ I19 C_s22, fr = [(1, Pt b1 0), (3, Pt b12 0), (4, .func (.func 42) #[] #[(Pt b1 0), (Pt b12 0)]), (5, .bool s21)] ∧ I.Le I19 ∧ St E w I19 ((Bx b1 (cs_qCatalog p0 w_p0) 29) :: (Bx b12 [(Sl a6 s22 n5)] 90) :: (C_s22) :: Os) ∧ OwnSl 4 1 RBool I19 C_s22 a6 n5 s22) ⟨I, C7, rfl, lr, hS16.front1.front1.front2, ho8⟩ ?_)))))))))
 rintro ⟨s21, s22⟩ _ w27 ⟨I19, C_s22, rfl, hl20, hS28, h_s22⟩ x29 hr1 hext18
 refine yf (yd [0] (ya 0 1 rfl (yb (W.cb hr1 (fun hc hr1 => ?_) (fun hc hr1 => ?_)))))
 refine yi (En.next (W.block (yd [0] (ya 0 1 rfl (y0 nL3 (yh 0 19 (.func (.func 42) #[] #[(Pt b1 0), (Pt b12 0)]) (have hS30 := hS28.front2; have hp32 := (h_s22).publish hS30; bsk hr1 fun r38 hx_r33 hr1 => yab (grants_Held_1_ok (h_p0.mono (hl20.trans (yaw I19 C_s22))) hp32 m0 m1 hS30.publish hx_r33) ?_)))))))
 rintro _ w34 ⟨I35, a_r38, c_r38, C_r38, rfl, hl36, hS37, h_r38⟩
 have hS39 := ybb hS30 hl36 hS37
 have ho40 := ybd h_r38 I19 (fun hq => hq)
 refine ⟨_, rfl, trivial, ?_⟩
 obtain ⟨I41, hl42, hS44, hp43⟩ := y6 ho40 hS39
 refine ya 2 1 rfl (y0 nL4 (yc 0 1 [3] rfl (yg (hS44.rf m1) rfl (ya 2 2 rfl (yb (W.block ?_))))))
 obtain ⟨⟨s48, s49⟩, hloop51, hr1⟩ := bsm hr1
 have hlt57 := ((RSl.mono h_p0.Grants (hl20.trans hl42))).len_lt
 refine W.wk (W.forE (m := p0.Grants.length) hloop51 (fun (i50 : Nat) => fun (s : Bool × (List Bool)) fr w => match s with | (s48, s49) => ∃ I46 C_s49, fr = [(1, Pt b1 0), (3, Pt b12 0), (4, .func (.func 42) #[] #[(Pt b1 0), (Pt b12 0)]), (5, .bool s48), (6, Sl a_r38 r38 c_r38), (22, Sl w_p0.Grants.a p0.Grants w_p0.Grants.c), (23, Nv p0.Grants.length), (24, Nv i50)] ∧ I41.Le I46 ∧ St E w I46 ((Bx b1 (cs_qCatalog p0 w_p0) 29) :: (Bx b12 [(Sl a6 s49 n5)] 90) :: (C_s49) :: Os) ∧ OwnSl 4 1 RBool I46 C_s49 a6 n5 s49) ⟨I41, C_s22, rfl, lr, hS44.front2.front2, (OwnSl.mono h_s22 hl42)⟩ ?_ ?_)
 rintro i50 ⟨s48, s49⟩ _ w54 hi58 ⟨I46, C_s49, rfl, hl47, hS55, h_s49⟩ x56 hr2
 refine yd [0] (ya 0 1 rfl (yb (yf (yah fun _ => yi (En.next (yf (W.block (yd nL6 (ya 0 1 rfl ?_)))))))))
 obtain ⟨x59, hr2, hb_x59, _, rfl, hc_x59⟩ := sl_ix ((RSl.mono h_p0.Grants ((hl20.trans hl42).trans hl47))) hr2
 refine y3 67 5 hb_x59 rfl (yak ((cs_qGrant x59)) hc_x59 0 hS55.rm rfl (yy hS55 (cs_qGrant z_qGrant) 67 rfl fun b60 w63 hS62 => ya 4 1 rfl (yx hS62 0 (cs_qGrant x59) fun w65 hS64 => y0 nL10 (yv ((cs_qCatalog p0 w_p0)) (hS64.rf m1) rfl (yc 1 1 [2] rfl (yg (hS64.rf m0) rfl ?_))))))
 obtain ⟨⟨r71, r72⟩, hx_r66, hr2⟩ := bsm hr2
 refine yab (catalog_Find_ok (h_p0.mono le) hS64 hx_r66) ?_
 rintro _ w67 ⟨I68, w_r71, rfl, hl69, hS70, h_r71⟩
 refine ⟨_, rfl, trivial, ?_⟩
 refine ya 4 3 rfl (yy hS70 (cs_qTable z_qTable zw_qTable) 89 rfl fun b73 w76 hS75 => yx hS75 0 (cs_qTable r71 w_r71) fun w78 hS77 => ya 9 1 rfl (y0 nL11 (yc 0 1 [2] rfl (yg (hS77.rf m2) rfl (yc 2 1 [0] rfl (yg (hS77.rf m1) rfl ?_))))))
 obtain ⟨⟨r84, r85⟩, hx_r79, hr2⟩ := bsm hr2
 refine yab (member_Find_ok (RSl.mono h_p0.Roles le) hS77 hx_r79) ?_
 rintro _ w80 ⟨I81, w_r84, rfl, hl82, hS83, h_r84⟩
 refine ⟨_, rfl, trivial, ?_⟩
 refine ya 5 3 rfl (yy hS83 (cs_qRole z_qRole zw_qRole) 62 rfl fun b86 w89 hS88 => yx hS88 0 (cs_qRole r84 w_r84) fun w91 hS90 => ya 10 1 rfl (y0 nL30 (yg (hS90.rf m4) rfl (ya 1 1 rfl ?_))))
 obtain ⟨x92, hr2, hb_x92, _, rfl, hc_x92⟩ := sl_ix ((h_s49.mono (hl69.trans hl82)).sl) hr2
 refine y3 4 1 hb_x92 rfl (yaf hc_x92 (hS90.rf m5) rfl (ya 4 2 rfl (yac (l1 := [6, 7]) 51 ((!x92) && r72) ?_ ?_)))
 refine yr (!x92) (fun hc => ?_) (fun hc => ?_)
 exact yl 49 hc (ya 6 1 rfl (yh 7 51 (.bool r72) (WO.mk 49 hc (by rw [hc]; rfl))))
 refine yl 49 hc (yt ?_)
 exact yh 7 51 (.bool false) (WO.mk 49 hc (by rw [hc]; rfl))
 refine ya 8 1 rfl (yac (l1 := [9, 10]) 54 (((!x92) && r72) && r85) ?_ ?_)
 refine yr ((!x92) && r72) (fun hc => ?_) (fun hc => ?_)
 exact yl 52 hc (ya 9 1 rfl (yh 10 54 (.bool r85) (WO.mk 52 hc (by rw [hc]; rfl))))
 refine yl 52 hc (yt ?_)
 exact yh 10 54 (.bool false) (WO.mk 52 hc (by rw [hc]; rfl))
 refine ya 11 1 rfl (bsk hr2 fun j97 hr3 hr2 => WO.jw (l1 := [12, 13, 14, 15, 16, 17, 18, 19, 20, 21, 22, 23, 24, 25, 26, 27, 28, 29]) (J := (fun fr w => ∃ I99, fr = [(1, Pt b1 0), (3, Pt b12 0), (4, .func (.func 42) #[] #[(Pt b1 0), (Pt b12 0)]), (5, .bool s48), (6, Sl a_r38 r38 c_r38), (7, Nv i50), (22, Sl w_p0.Grants.a p0.Grants w_p0.Grants.c), (23, Nv p0.Grants.length), (24, Nv i50), (73, .bool j97)] ∧ I81.Le I99 ∧ St E w I99 ((Bx b1 (cs_qCatalog p0 w_p0) 29) :: (Bx b12 [(Sl a6 s49 n5)] 90) :: (C_s49) :: Os))) ?_ ?_)
 refine WO.cb hr3 (fun hc hr3 => ?_) (fun hc hr3 => ?_)
 refine yl 55 hc (yv ((cs_qCatalog p0 w_p0)) (hS90.rf m3) rfl (yc 13 1 [1] rfl (yg (hS90.rf m2) rfl (yc 15 1 [2] rfl (yg (hS90.rf m2) rfl (bsk hr3 fun r106 hx_r101 hr3 => WO.c1 (grants_Owns_ok (h_p0.mono le) hS90 hx_r101) rfl fun I103 w102 hl104 hS105 => ya 18 1 rfl (bsk hr3 fun j107 hr4 hr3 => WO.jw (l1 := [19, 20, 21, 22, 23, 24, 25, 26, 27, 28]) (J := (fun fr w => ∃ I109, fr = [(1, Pt b1 0), (3, Pt b12 0), (4, .func (.func 42) #[] #[(Pt b1 0), (Pt b12 0)]), (5, .bool s48), (6, Sl a_r38 r38 c_r38), (7, Nv i50), (22, Sl w_p0.Grants.a p0.Grants w_p0.Grants.c), (23, Nv p0.Grants.length), (24, Nv i50), (55, .bool true), (72, .bool j107)] ∧ I103.Le I109 ∧ St E w I109 ((Bx b1 (cs_qCatalog p0 w_p0) 29) :: (Bx b12 [(Sl a6 s49 n5)] 90) :: (C_s49) :: Os))) ?_ ?_)))))))
 refine WO.cb hr4 (fun hc hr4 => ?_) (fun hc hr4 => ?_)
 refine yl 62 hc ?_
 iterate 9 refine yt ?_
 refine yh 28 72 (.bool true) ?_
 obtain rfl := sj hr4
 exact yw ⟨I103, rfl, lr, hS105.drop.drop.drop⟩
 refine yl 62 hc (yv ((cs_qCatalog p0 w_p0)) (hS105.rf m3) rfl (yc 20 2 [1] rfl (yg (hS105.rf m2) rfl (yc 23 1 [3] rfl (yg (hS105.rf m2) rfl (yc 25 1 [2] rfl (yg (hS105.rf m2) rfl (bsk hr4 fun r119 hx_r114 hr4 => WO.c1 (grants_has_ok (h_p0.mono le) (RSl.mono hp43 le) hS105 hx_r114) rfl fun I116 w115 hl117 hS118 => yh 28 72 (.bool r119) ?_))))))))
 obtain rfl := sj hr4
 exact yw ⟨I116, rfl, hl117, hS118.drop.drop.drop⟩
 rintro _ w123 ⟨I109, rfl, hl110, hS124⟩
 refine yh 29 73 (.bool j107) ?_
 obtain rfl := sj hr3
 exact yw ⟨I109, rfl, le, hS124⟩
 refine yl 55 hc ?_
 iterate 17 refine yt ?_
 refine yh 29 73 (.bool false) ?_
 obtain rfl := sj hr3
 exact yw ⟨I81, rfl, lr, hS90.drop.drop.drop⟩
 rintro _ w128 ⟨I99, rfl, hl100, hS129⟩
 refine yb (bsk hr2 fun j130 hr3 hr2 => W.jw (J := (fun fr w => ∃ (s141 : Bool) (s142 : List Bool), ∃ I132 C_s142, (s141, s142) = j130 ∧ fr = [(1, Pt b1 0), (3, Pt b12 0), (4, .func (.func 42) #[] #[(Pt b1 0), (Pt b12 0)]), (5, .bool s141), (6, Sl a_r38 r38 c_r38), (22, Sl w_p0.Grants.a p0.Grants w_p0.Grants.c), (23, Nv p0.Grants.length), (24, Nv i50)] ∧ I99.Le I132 ∧ St E w I132 ((Bx b1 (cs_qCatalog p0 w_p0) 29) :: (Bx b12 [(Sl a6 s142 n5)] 90) :: (C_s142) :: Os) ∧ OwnSl 4 1 RBool I132 C_s142 a6 n5 s142)) ?_ ?_)
 refine W.cb hr3 (fun hc hr3 => ?_) (fun hc hr3 => ?_)
 refine yd nL4 (yg (hS129.rf m1) rfl (ya 1 1 rfl ?_))
 obtain ⟨x134, hr3, h0_x134, h1_x134, hx_x134, ha_x134, _, _, rfl, hc_x134⟩ := sl_at ((h_s49.mono ((hl69.trans hl82).trans hl100)).sl) hr3
 refine yaq 4 1 ha_x134 h0_x134 h1_x134 ?_
 refine yas hS129.front2 (OwnSl.mono h_s49 le) rfl (by kernel_rfl) rfl hx_x134 (u' := true) 0 rfl rfl (by kernel_rfl) rfl rfl (fun cs hrel => (by obtain rfl := hrel; exact rfl)) (fun _ _ _ => trivial) ?_
 intro w137 C138 hS136 ho139
 refine y7 74 rfl (show Value.slice a6 s49.length n5 = Value.slice a6 (s49.set ((i50 : Int)).toNat true).length n5 by simp only [List.length_set]) ?_
 have hS140 : St E w137 I99 ((C138) :: (Bx b1 (cs_qCatalog p0 w_p0) 29) :: (Bx b12 [(.slice a6 (s49.set ((i50 : Int)).toNat true).length n5)] 90) :: Os) := by have hq := hS136; simp only [List.length_set] at hq ⊢; exact hq
 exact yb (yaa [0] (ya 0 1 rfl (WO.nil (yq ⟨true, (s49.set ((i50 : Int)).toNat true), I99, C138, sj hr3, rfl, lr, hS140.front2.front2, ho139⟩))))
 exact yi (yq ⟨s48, s49, I99, C_s49, sj hr3, rfl, lr, hS129, (OwnSl.mono h_s49 le)⟩)
 rintro _ w145 ⟨s141, s142, I132, C_s142, rfl, rfl, hl133, hS146, h_s142⟩
 refine yk (En.next (yaa nL2 (yae i50 rfl (ya 1 1 rfl (WO.nil ?_)))))
 obtain rfl := sj hr2
 exact yq ⟨I132, C_s142, rfl, le, hS146, h_s142⟩
 rintro _ w147 ⟨I46, C_s49, rfl, hl47, hS148, h_s49⟩
 exact yd [0] (ya 0 1 rfl (yb (yf (yai fun _ => yz (ym (yn (yo (yk (yq ⟨(s48, s49), (sj hr1).symm, I46, C_s49, rfl, le, hS148, h_s49⟩)))))))))
 refine yz (ym (yn ?_))
 obtain rfl := hext18 _ (sj hr1).symm
 refine yo (En.next (yd nL3 (yh 0 78 (.func (.func 42) #[] #[(Pt b1 0), (Pt b12 0)]) (have hS169 := hS28.front2; have hp171 := (h_s22).publish hS169; bsk hr fun r177 hx_r172 hr => yab (grants_Held_1_ok (h_p0.mono (hl20.trans (yaw I19 C_s22))) hp171 m0 m1 hS169.publish hx_r172) ?_))))
 rintro _ w173 ⟨I174, a_r177, c_r177, C_r177, rfl, hl175, hS176, h_r177⟩
 have hS178 := ybb hS169 hl175 hS176
 have ho179 := ybd h_r177 I19 (fun hq => hq)
 refine ⟨_, rfl, trivial, ?_⟩
 obtain ⟨I180, hl181, hS183, hp182⟩ := y6 ho179 hS178
 refine ya 2 1 rfl (yb (W.ret ?_))
 obtain rfl := sj hr
 exact yu ⟨I180, a_r177, c_r177, rfl, le, hS183.drop.drop.drop, hp182⟩
noncomputable def grants_Trim (p0 : qCatalog) : Option qCatalog := (grants_Held p0).bind (fun r14 => some { p0 with Grants := r14 })
theorem grants_Trim_ok {p0 : qCatalog} {w_p0 : W_qCatalog} (h_p0 : ok_qCatalog I p0 w_p0) (hS : St E w I Os) {r : qCatalog} (hr : grants_Trim p0 = some r) :
    Calls P 20 #[(.agg (cs_qCatalog p0 w_p0).toArray)] w (fun e w' => ∃ I' w_rw0, e = .returned (.agg (cs_qCatalog r w_rw0).toArray) ∧ I.Le I' ∧ St E w' I' Os ∧ ok_qCatalog I' r w_rw0) := by
 refine calls_W (fn := Tryz.f20) rfl rfl rfl ?_
 unfold grants_Trim at hr
 refine yd nL2 (yy hS (cs_qCatalog p0 w_p0) 29 rfl fun b1 w4 hS3 => yy hS3 (cs_qCatalog z_qCatalog zw_qCatalog) 29 rfl fun b5 w8 hS7 => y0 nL4 (yv ((cs_qCatalog p0 w_p0)) (hS7.rf m1) rfl (bsk hr fun r14 hx_r9 hr => yab (grants_Held_ok h_p0 hS7 hx_r9) ?_)))
 rintro _ w10 ⟨I11, a_r14, c_r14, rfl, hl12, hS13, h_r14⟩
 refine ⟨_, rfl, trivial, ?_⟩
 refine yc 2 1 [3] rfl (yx hS13.front1 3 (cs_qCatalog ({ p0 with Grants := r14 }) ({ w_p0 with Grants := ⟨a_r14, c_r14⟩ })) fun w17 hS16 => y0 nL2 (yv ((cs_qCatalog ({ p0 with Grants := r14 }) ({ w_p0 with Grants := ⟨a_r14, c_r14⟩ }))) (hS16.rf m0) rfl (yx hS16.front1 0 (cs_qCatalog ({ p0 with Grants := r14 }) ({ w_p0 with Grants := ⟨a_r14, c_r14⟩ })) fun w20 hS19 => yb (W.ret ?_))))
 have hk23 : ok_qCatalog I11 ({ p0 with Grants := r14 }) ({ w_p0 with Grants := ⟨a_r14, c_r14⟩ }) := ⟨(RSl.mono h_p0.Tables hl12), (RSl.mono h_p0.Roles hl12), h_r14⟩
 obtain rfl := sj hr
 exact En.c1 _ (hS19.rd m0) ⟨I11, ({ w_p0 with Grants := ⟨a_r14, c_r14⟩ }), rfl, hl12, hS19.drop.drop, hk23⟩
noncomputable def grants_Make (p0 : qCatalog) (p1 : qStmt) (p2 : ByteArray) (p3 : Int) : Option (qCatalog × Int) := (bif ((decide (p1.Kind < 10)) || (decide (p1.Kind > 15))) then some (z_qCatalog, 2) else (member_Find p0.Roles p2).bind (fun (r25, r26) => (bif (!r26) then some (z_qCatalog, 4) else ((((bif (p1.Kind == 10) then some (p1.Kind == 10) else ((bif (p1.Kind == 11) then some (p1.Kind == 11) else some (p1.Kind == 12))).bind (fun (j63 : Bool) => some j63))).bind (fun (j54 : Bool) => (bif j54 then some (.inl ()) else (bif (p1.Kind == 13) then some (.inl ()) else (bif (p1.Kind == 14) then some (.inr (.inl ())) else some (.inr (.inr ()))))))).bind (fun (t : Unit ⊕ Unit ⊕ Unit) => match t with | (.inl ()) => (member_Is p0.Roles p2 (⟨#[114, 111, 111, 116]⟩ : ByteArray)).bind (fun r124 => (bif (!r124) then some (.inr (36, z_qCatalog, p0)) else none)) | (.inr (.inl ())) => none | (.inr (.inr ())) => (grants_take p0 p1 p2).bind (fun (r88, r89) => some (.inl (r89, z_qCatalog, { p0 with Grants := r88 }))))).bind (fun (t : (Int × qCatalog × qCatalog) ⊕ (Int × qCatalog × qCatalog)) => match t with | (.inl (s92, s93, s94)) => ((bif ((s92 == 0) && (decide (p0.Version ≥ p3))) then some 52 else some s92)).bind (fun (j145 : Int) => (bif (j145 != 0) then some (z_qCatalog, j145) else (grants_Trim ({ s94 with Version := (w64 (p0.Version + 1)) })).bind (fun r166 => some (r166, 0)))) | (.inr (s129, s130, s131)) => some (s130, s129)))))
theorem grants_Make_ok {p0 : qCatalog} {p1 : qStmt} {p2 : ByteArray} {p3 : Int} {w_p0 : W_qCatalog} {w_p1 : W_qStmt} (h_p0 : ok_qCatalog I p0 w_p0) (h_p1 : ok_qStmt I p1 w_p1) (hS : St E w I Os) {r : qCatalog × Int} (hr : grants_Make p0 p1 p2 p3 = some r) :
    Calls P 11 #[(.agg (cs_qCatalog p0 w_p0).toArray), (.agg (cs_qStmt p1 w_p1).toArray), (.string p2), (Iv p3)] w (fun e w' => ∃ I' w_rw0, e = .returned (.tuple #[(.agg (cs_qCatalog r.1 w_rw0).toArray), (Iv r.2)]) ∧ I.Le I' ∧ St E w' I' Os ∧ ok_qCatalog I' r.1 w_rw0) := by
 refine calls_W (fn := Tryz.f11) rfl rfl rfl ?_
 unfold grants_Make at hr
 refine yd nL4 (yy hS (cs_qCatalog p0 w_p0) 29 rfl fun b1 w4 hS3 => yy hS3 (cs_qStmt p1 w_p1) 44 rfl fun b5 w8 hS7 => yy hS7 (cs_qCatalog z_qCatalog zw_qCatalog) 29 rfl fun b9 w12 hS11 => ya 3 1 rfl (yb (yf (yd nL8 (yc 0 1 [0] rfl (yg (hS11.rf m1) rfl (ya 2 2 rfl (yac (l1 := [4, 5, 6, 7]) 21 ((decide (p1.Kind < 10)) || (decide (p1.Kind > 15))) ?_ ?_))))))))
 refine yr (decide (p1.Kind < 10)) (fun hc => ?_) (fun hc => ?_)
 refine yl 17 hc ?_
 iterate 3 refine yt ?_
 exact yh 7 21 (.bool true) (WO.mk 17 hc (by rw [hc]; rfl))
 exact yl 17 hc (yc 4 1 [0] rfl (yg (hS11.rf m1) rfl (ya 6 1 rfl (yh 7 21 (.bool (decide (p1.Kind > 15))) (WO.mk 17 hc (by rw [hc]; rfl))))))
 refine yb (W.cb hr (fun hc hr => ?_) (fun hc hr => ?_))
 refine yd nL3 (yh 0 22 (.agg (cs_qCatalog z_qCatalog zw_qCatalog).toArray) (yx hS11 0 (cs_qCatalog z_qCatalog zw_qCatalog) fun w16 hS15 => ya 2 1 rfl (yb (W.ret (ye ?_)))))
 obtain rfl := sj hr
 exact yan _ (hS15.rd m0) ⟨I, zw_qCatalog, rfl, lr, hS15.drop.drop.drop, zok_qCatalog⟩
 refine yi (En.next (yf (yd nL10 (yc 0 1 [2] rfl (yg (hS11.rf m2) rfl (ya 2 1 rfl ?_))))))
 obtain ⟨⟨r25, r26⟩, hx_r20, hr⟩ := bsm hr
 refine yab (member_Find_ok h_p0.Roles hS11 hx_r20) ?_
 rintro _ w21 ⟨I22, w_r25, rfl, hl23, hS24, h_r25⟩
 refine ⟨_, rfl, trivial, ?_⟩
 refine ya 4 3 rfl (yy hS24 (cs_qRole z_qRole zw_qRole) 62 rfl fun b27 w30 hS29 => yx hS29 0 (cs_qRole r25 w_r25) fun w32 hS31 => ya 9 1 rfl (y0 nL2 (ya 0 2 rfl (yb (W.cb hr (fun hc hr => ?_) (fun hc hr => ?_))))))
 refine yd nL3 (yh 0 32 (.agg (cs_qCatalog z_qCatalog zw_qCatalog).toArray) (yx hS31.front1 0 (cs_qCatalog z_qCatalog zw_qCatalog) fun w35 hS34 => ya 2 1 rfl (yb (W.ret (ye ?_)))))
 obtain rfl := sj hr
 exact yan _ (hS34.rd m0) ⟨I22, zw_qCatalog, rfl, hl23, hS34.drop.drop.drop.drop, zok_qCatalog⟩
 refine yi (En.next (yd nL3 (yv ((cs_qCatalog p0 w_p0)) (hS31.rf m3) rfl (yy hS31 (cs_qCatalog z_qCatalog zw_qCatalog) 29 rfl fun b40 w43 hS42 => yx hS42 0 (cs_qCatalog p0 w_p0) fun w45 hS44 => y0 [0] (ya 0 1 rfl (yb (yf (yd nL2 (yc 0 1 [0] rfl (yg (hS44.rf m3) rfl (yb (bsk hr fun j46 hr1 hr => W.jw (J := (fun fr w => ∃ (s92 : Int) (s93 : qCatalog) (s94 : qCatalog), ∃ I48 w_s93 w_s94, (.inl (s92, s93, s94)) = j46 ∧ fr = [(3, Iv p3), (4, Pt b1 0), (8, Pt b9 0), (12, Pt b40 0), (13, Iv s92)] ∧ I22.Le I48 ∧ St E w I48 ((Bx b1 (cs_qCatalog p0 w_p0) 29) :: (Bx b9 (cs_qCatalog s93 w_s93) 29) :: (Bx b40 (cs_qCatalog s94 w_s94) 29) :: Os) ∧ ok_qCatalog I48 s93 w_s93 ∧ ok_qCatalog I48 s94 w_s94)) ?_ ?_))))))))))))
 refine W.block (yf (W.block (yf (W.block (yf (bsk hr1 fun j50 hr2 hr1 => W.jw (J := (fun fr w => ∃ I52, (.inl ()) = j50 ∧ fr = [(2, .string p2), (3, Iv p3), (4, Pt b1 0), (5, Pt b5 0), (8, Pt b9 0), (12, Pt b40 0)] ∧ I22.Le I52 ∧ St E w I52 ((Bx b1 (cs_qCatalog p0 w_p0) 29) :: (Bx b5 (cs_qStmt p1 w_p1) 44) :: (Bx b9 (cs_qCatalog z_qCatalog zw_qCatalog) 29) :: (Bx b40 (cs_qCatalog p0 w_p0) 29) :: Os))) ?_ ?_))))))
 refine W.block (W.block (yf (yf (yf (yd nL2 (ya 0 2 rfl (yb (bsk hr2 fun j54 hr3 hr2 => W.jw (J := (fun fr w => ∃ I56, fr = [(2, .string p2), (3, Iv p3), (4, Pt b1 0), (5, Pt b5 0), (8, Pt b9 0), (12, Pt b40 0), (35, Iv p1.Kind), (36, .bool j54)] ∧ I22.Le I56 ∧ St E w I56 ((Bx b1 (cs_qCatalog p0 w_p0) 29) :: (Bx b5 (cs_qStmt p1 w_p1) 44) :: (Bx b9 (cs_qCatalog z_qCatalog zw_qCatalog) 29) :: (Bx b40 (cs_qCatalog p0 w_p0) 29) :: Os))) ?_ ?_))))))))
 refine W.cb hr3 (fun hc hr3 => ?_) (fun hc hr3 => ?_)
 refine yi ?_
 obtain rfl := sj hr3
 exact yq ⟨I22, rfl, lr, hS44.front1.drop.front1.front2.front3⟩
 refine yd nL2 (ya 0 2 rfl (yb (bsk hr3 fun j63 hr4 hr3 => W.jw (J := (fun fr w => ∃ I65, fr = [(2, .string p2), (3, Iv p3), (4, Pt b1 0), (5, Pt b5 0), (8, Pt b9 0), (12, Pt b40 0), (35, Iv p1.Kind), (36, .bool j63)] ∧ I22.Le I65 ∧ St E w I65 ((Bx b1 (cs_qCatalog p0 w_p0) 29) :: (Bx b5 (cs_qStmt p1 w_p1) 44) :: (Bx b9 (cs_qCatalog z_qCatalog zw_qCatalog) 29) :: (Bx b40 (cs_qCatalog p0 w_p0) 29) :: Os))) ?_ ?_)))
 refine W.cb hr4 (fun hc hr4 => ?_) (fun hc hr4 => ?_)
 refine yi ?_
 obtain rfl := sj hr4
 exact yq ⟨I22, rfl, lr, hS44.front1.drop.front1.front2.front3⟩
 refine yaa nL2 (ya 0 2 rfl (WO.nil ?_))
 obtain rfl := sj hr4
 exact yq ⟨I22, rfl, lr, hS44.front1.drop.front1.front2.front3⟩
 rintro _ w77 ⟨I65, rfl, hl66, hS78⟩
 obtain rfl := sj hr3
 exact yq ⟨I65, rfl, hl66, hS78⟩
 rintro _ w79 ⟨I56, rfl, hl57, hS80⟩
 refine En.next (W.cb hr2 (fun hc hr2 => ?_) (fun hc hr2 => ?_))
 exact yz (ym (ym (yo (yk (yq ⟨I56, sj hr2, rfl, hl57, hS80⟩)))))
 refine yi (En.next (yf (yd nL2 (ya 0 2 rfl (yb (W.cb hr2 (fun hc hr2 => ?_) (fun hc hr2 => ?_)))))))
 refine yz (ym (ym (yay rfl ?_)))
 exact yo (yq ⟨I56, sj hr2, rfl, hl57, hS80⟩)
 refine yi (En.next (yd nL2 (ya 0 2 rfl (yb (W.cb hr2 (fun hc hr2 => ?_) (fun hc hr2 => ?_))))))
 refine yz (ym (yay rfl ?_))
 refine yay rfl ?_
 refine yn ?_
 obtain rfl := sj hr2
 refine ym (yo (En.next (yd nL10 (yv ((cs_qCatalog p0 w_p0)) (hS80.rf m0) rfl (yv ((cs_qStmt p1 w_p1)) (hS80.rf m1) rfl (ya 2 1 rfl ?_))))))
 cases hr1
 refine yi (En.next (yz (yay rfl ?_)))
 refine yay rfl ?_
 refine yn ?_
 obtain rfl := sj hr2
 refine ym (yay rfl ?_)
 refine ym (yo (En.next (yd nL10 (yv ((cs_qCatalog p0 w_p0)) (hS80.rf m0) rfl (yv ((cs_qStmt p1 w_p1)) (hS80.rf m1) rfl (ya 2 1 rfl ?_))))))
 obtain ⟨⟨r107, r108⟩, hx_r102, hr1⟩ := bsm hr1
 refine yab (grants_take_ok (h_p0.mono le) (h_p1.mono le) hS80 hx_r102) ?_
 rintro _ w103 ⟨I104, a_r107, c_r107, rfl, hl105, hS106, h_r107⟩
 refine ⟨_, rfl, trivial, ?_⟩
 refine yc 4 4 [3] rfl (yx hS106.front3 3 (cs_qCatalog ({ p0 with Grants := r107 }) ({ w_p0 with Grants := ⟨a_r107, c_r107⟩ })) fun w111 hS110 => ya 9 1 rfl (yb (yz (yo ?_))))
 have hk112 : ok_qCatalog I104 ({ p0 with Grants := r107 }) ({ w_p0 with Grants := ⟨a_r107, c_r107⟩ }) := ⟨(RSl.mono h_p0.Tables ((hl23.trans hl57).trans hl105)), (RSl.mono h_p0.Roles ((hl23.trans hl57).trans hl105)), h_r107⟩
 exact yq ⟨r108, z_qCatalog, { p0 with Grants := r107 }, I104, zw_qCatalog, ({ w_p0 with Grants := ⟨a_r107, c_r107⟩ }), sj hr1, rfl, le, hS110.front2.drop.front2.front2, zok_qCatalog, hk112⟩
 rintro _ w117 ⟨I52, rfl, rfl, hl53, hS118⟩
 refine En.next (yf (yf (yd nL5 (yc 0 1 [2] rfl (yg (hS118.rf m0) rfl (ya 2 1 rfl (bsk hr1 fun r124 hx_r119 hr1 => WO.c1 (member_Is_ok (RSl.mono h_p0.Roles le) hS118 hx_r119) rfl fun I121 w120 hl122 hS123 => ya 4 1 rfl (yb (W.cb hr1 (fun hc hr1 => ?_) (fun hc hr1 => ?_))))))))))
 refine yd nL3 (yh 0 49 (.agg (cs_qCatalog z_qCatalog zw_qCatalog).toArray) (yx hS123.front2 0 (cs_qCatalog z_qCatalog zw_qCatalog) fun w127 hS126 => ya 2 1 rfl (yb (W.ret (ye (ye (yj (ye (yj (ye (yj (yp ?_))))))))))))
 obtain rfl := sj hr1
 refine ye ?_
 obtain rfl := sj hr
 exact yan _ (hS126.rd m0) ⟨I121, zw_qCatalog, rfl, le, hS126.drop.drop.drop.drop, zok_qCatalog⟩
 refine yi (En.next (yaa nL9 (yv ((cs_qCatalog p0 w_p0)) (hS123.rf m0) rfl (yv ((cs_qStmt p1 w_p1)) (hS123.rf m1) rfl ?_))))
 cases hr1
 rintro _ w141 ⟨s92, s93, s94, I48, w_s93, w_s94, rfl, rfl, hl49, hS142, h_s93, h_s94⟩
 refine En.next (yf (yd nL8 (ya 0 3 rfl (yac (l1 := [3, 4, 5, 6, 7]) 80 ((s92 == 0) && (decide (p0.Version ≥ p3))) ?_ ?_))))
 refine yr (s92 == 0) (fun hc => ?_) (fun hc => ?_)
 exact yl 75 hc (yc 3 1 [0] rfl (yg (hS142.rf m0) rfl (ya 5 2 rfl (yh 7 80 (.bool (decide (p0.Version ≥ p3))) (WO.mk 75 hc (by rw [hc]; rfl))))))
 refine yl 75 hc ?_
 iterate 4 refine yt ?_
 exact yh 7 80 (.bool false) (WO.mk 75 hc (by rw [hc]; rfl))
 refine yb (bsk hr fun j145 hr1 hr => W.jw (J := (fun fr w => ∃ I147, fr = [(4, Pt b1 0), (8, Pt b9 0), (12, Pt b40 0), (13, Iv j145)] ∧ I48.Le I147 ∧ St E w I147 ((Bx b1 (cs_qCatalog p0 w_p0) 29) :: (Bx b9 (cs_qCatalog s93 w_s93) 29) :: (Bx b40 (cs_qCatalog s94 w_s94) 29) :: Os))) ?_ ?_)
 refine W.cb hr1 (fun hc hr1 => ?_) (fun hc hr1 => ?_)
 refine yaa [0] (ya 0 1 rfl (WO.nil ?_))
 obtain rfl := sj hr1
 exact yq ⟨I48, rfl, lr, hS142⟩
 refine yi ?_
 obtain rfl := sj hr1
 exact yq ⟨I48, rfl, lr, hS142⟩
 rintro _ w149 ⟨I147, rfl, hl148, hS150⟩
 refine En.next (yf (yd nL2 (ya 0 2 rfl (yb (W.cb hr (fun hc hr => ?_) (fun hc hr => ?_))))))
 refine yd nL4 (yh 0 83 (.agg (cs_qCatalog z_qCatalog zw_qCatalog).toArray) (ya 1 1 rfl (yx hS150.front1 0 (cs_qCatalog z_qCatalog zw_qCatalog) fun w153 hS152 => ya 3 1 rfl (yb (W.ret (ye ?_))))))
 obtain rfl := sj hr
 exact yan _ (hS152.rd m0) ⟨I147, zw_qCatalog, rfl, le, hS152.drop.drop.drop, zok_qCatalog⟩
 refine yi (En.next (yd nL5 (yc 0 1 [0] rfl (yg (hS150.rf m0) rfl (yc 2 2 [0] rfl (yx hS150.front2 0 (cs_qCatalog ({ s94 with Version := (w64 (p0.Version + 1)) }) w_s94) fun w159 hS158 => y0 nL4 (yv ((cs_qCatalog ({ s94 with Version := (w64 (p0.Version + 1)) }) w_s94)) (hS158.rf m0) rfl ?_)))))))
 have hk160 : ok_qCatalog I147 ({ s94 with Version := (w64 (p0.Version + 1)) }) w_s94 := ⟨(RSl.mono h_s94.Tables hl148), (RSl.mono h_s94.Roles hl148), (RSl.mono h_s94.Grants hl148)⟩
 refine bsk hr fun r166 hx_r161 hr => yab (grants_Trim_ok hk160 hS158 hx_r161) ?_
 rintro _ w162 ⟨I163, w_r166, rfl, hl164, hS165, h_r166⟩
 refine ⟨_, rfl, trivial, ?_⟩
 refine yx hS165.front2 0 (cs_qCatalog r166 w_r166) fun w169 hS168 => ya 3 1 rfl (yb (W.ret ?_))
 obtain rfl := sj hr
 exact yan _ (hS168.rd m0) ⟨I163, w_r166, rfl, le, hS168.drop.drop.drop, h_r166⟩
noncomputable def grants_May (p0 : qCatalog) (p1 : ByteArray) (p2 : Int) (p3 : ByteArray) : Option Bool := (grants_Owns p0 p1 p3).bind (fun r12 => ((bif r12 then some true else (grants_Held p0).bind (fun r22 => (grants_has p0 r22 p1 p2 p3 false).bind (fun r28 => some r28)))).bind (fun (j13 : Bool) => some j13))
theorem grants_May_ok {p0 : qCatalog} {p1 : ByteArray} {p2 : Int} {p3 : ByteArray} {w_p0 : W_qCatalog} (h_p0 : ok_qCatalog I p0 w_p0) (hS : St E w I Os) {r : Bool} (hr : grants_May p0 p1 p2 p3 = some r) :
    Calls P 23 #[(.agg (cs_qCatalog p0 w_p0).toArray), (.string p1), (Iv p2), (.string p3)] w (fun e w' => ∃ I', e = .returned (.bool r) ∧ I.Le I' ∧ St E w' I' Os) := by
 refine calls_W (fn := Tryz.f23) rfl rfl rfl ?_
 unfold grants_May at hr
 refine yd nL2 (yy hS (cs_qCatalog p0 w_p0) 29 rfl fun b1 w4 hS3 => ya 1 1 rfl (yb (yf (have hS5 := hS3.drew; yat nL14 13 (KR.cons (hS5.rd m0) (KR.nil hS5.im)) ?_))))
 generalize World.drew _ = w6 at *
 refine yv ((cs_qCatalog p0 w_p0)) (rd_c m0 (hS5.rd m0)) rfl (ya 1 2 rfl (bsk hr fun r12 hx_r7 hr => yab (grants_Owns_ok h_p0 hS5 hx_r7) ?_))
 rintro _ w8 ⟨I9, rfl, hl10, hS11⟩
 refine ⟨_, rfl, (KR.cons (hS11.rd m0) (KR.nil (hS11.im.of_le hl10))), ?_⟩
 refine ya 4 1 rfl (bsk hr fun j13 hr1 hr => WO.jw (l1 := [5, 6, 7, 8, 9, 10, 11, 12]) (J := (fun fr w => ∃ I15, fr = [(21, .bool j13)] ∧ I9.Le I15 ∧ St E w I15 ((Bx b1 (cs_qCatalog p0 w_p0) 29) :: Os))) ?_ ?_)
 refine WO.cb hr1 (fun hc hr1 => ?_) (fun hc hr1 => ?_)
 refine yl 13 hc ?_
 iterate 7 refine yt ?_
 refine yh 12 21 (.bool true) ?_
 obtain rfl := sj hr1
 exact yw ⟨I9, rfl, lr, hS11⟩
 refine yl 13 hc (yv ((cs_qCatalog p0 w_p0)) (rd_c m0 (hS11.rd m0)) rfl (yv ((cs_qCatalog p0 w_p0)) (rd_c m0 (hS11.rd m0)) rfl (bsk hr1 fun r22 hx_r17 hr1 => yab (grants_Held_ok (h_p0.mono hl10) hS11 hx_r17) ?_)))
 rintro _ w18 ⟨I19, a_r22, c_r22, rfl, hl20, hS21, h_r22⟩
 refine ⟨_, rfl, (KR.cons (hS21.rd m0) (KR.nil (hS21.im.of_le le))), ?_⟩
 refine ya 8 3 rfl (bsk hr1 fun r28 hx_r23 hr1 => yab (grants_has_ok (h_p0.mono le) h_r22 hS21 hx_r23) ?_)
 rintro _ w24 ⟨I25, rfl, hl26, hS27⟩
 refine ⟨_, rfl, (KR.cons (hS27.rd m0) (KR.nil (hS27.im.of_le le))), ?_⟩
 refine yh 12 21 (.bool r28) ?_
 obtain rfl := sj hr1
 exact yw ⟨I25, rfl, le, hS27⟩
 rintro _ w29 ⟨I15, rfl, hl16, hS30⟩
 refine WO.tail rfl (ya 13 1 rfl (yb (W.ret ?_)))
 obtain rfl := sj hr
 exact yu ⟨I15, rfl, le, hS30.drop⟩
end Go.Proofs.YtdmapcjbbbifbaaGreat
