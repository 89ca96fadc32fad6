/- What functions of the program come to, each by a plain one. Conditions: none. -/
import Derived.Test.YtdmapcjbbbifbaaGreatF1
import Derived.Test.YtdmapcjbbbifbaaGreatProg
set_option maxRecDepth 100000
namespace Go.Proofs.YtdmapcjbbbifbaaGreat
open Go.Gv
set_option maxHeartbeats 1000000
variable {E w : World} {I : Mem} {Os : List Mem}
noncomputable def r19_Make (p0 : qCatalog) (p1 : qStmt) (p2 : ByteArray) (p3 : Int) : Option (qCatalog × Int) := (bif ((decide (p1.Kind < 10)) || (decide (p1.Kind > 15))) then some (z_qCatalog, 2) else (r18_At p0.Roles p2).bind (fun r25 => (bif (decide (r25 < 0)) then some (z_qCatalog, 4) else ((bif (decide (p1.Kind ≤ 13)) then (r18_Is p0.Roles p2 (⟨#[114, 111, 111, 116]⟩ : ByteArray)).bind (fun r46 => some (!r46)) else some false)).bind (fun (j37 : Bool) => ((bif j37 then some (.inl ((36 : Int), z_qCatalog, p0.Roles, p0.Grants)) else ((bif (decide (p1.Kind ≤ 13)) then (r19_roles p0 p1).bind (fun (r74, r75) => some (.inl (r75, z_qCatalog, r74, p0.Grants))) else ((bif (p1.Kind == 14) then (r19_given p0 p1 p2).bind (fun (r96, r97) => some (.inl (r97, z_qCatalog, r96))) else (r19_place p0 p1 p2).bind (fun r113 => (bif (decide (r113 < 0)) then some (.inr (4, z_qCatalog)) else (sub p0.Grants 0 r113).bind (fun x147 => (app 64 ([] : List qGrant) x147).bind (fun x150 => (sub p0.Grants (w64 (r113 + 1)) (p0.Grants.length : Int)).bind (fun x162 => (app 64 x150 x162).bind (fun x164 => some (.inl ((0 : Int), z_qCatalog, x164)))))))))).bind (fun (t : (Int × qCatalog × (List qGrant)) ⊕ (Int × qCatalog)) => match t with | (.inl (s101, s102, s103)) => some (.inl (s101, s102, p0.Roles, s103)) | (.inr (s118, s119)) => some (.inr (s118, s119))))).bind (fun (t : (Int × qCatalog × (List qRole) × (List qGrant)) ⊕ (Int × qCatalog)) => match t with | (.inl (s79, s80, s81, s82)) => some (.inl (s79, s80, s81, s82)) | (.inr (s121, s122)) => some (.inr (s121, s122))))).bind (fun (t : (Int × qCatalog × (List qRole) × (List qGrant)) ⊕ (Int × qCatalog)) => match t with | (.inl (s59, s60, s61, s62)) => ((bif ((s59 == 0) && (decide (p0.Version ≥ p3))) then some 52 else some s59)).bind (fun (j191 : Int) => (bif (j191 != 0) then some (z_qCatalog, j191) else (r19_Held ({ p0 with Version := (w64 (p0.Version + 1)), Roles := s61, Grants := s62 })).bind (fun r212 => some ({ p0 with Version := (w64 (p0.Version + 1)), Roles := s61, Grants := r212 }, 0)))) | (.inr (s124, s125)) => some (s125, s124))))))
theorem r19_Make_ok {p0 : qCatalog} {p1 : qStmt} {p2 : ByteArray} {p3 : Int} {w_p0 : W_qCatalog} {w_p1 : W_qStmt} (h_p0 : ok_qCatalog I p0 w_p0) (h_p1 : ok_qStmt I p1 w_p1) (hS : St E w I Os) {r : qCatalog × Int} (hr : r19_Make p0 p1 p2 p3 = some r) :
    Calls P 12 #[(.agg (cs_qCatalog p0 w_p0).toArray), (.agg (cs_qStmt p1 w_p1).toArray), (.string p2), (Iv p3)] w (fun e w' => ∃ I' w_rw0, e = .returned (.tuple #[(.agg (cs_qCatalog r.1 w_rw0).toArray), (Iv r.2)]) ∧ I.Le I' ∧ St E w' I' Os ∧ ok_qCatalog I' r.1 w_rw0) := by
 refine calls_W (fn := Tryz.f12) rfl rfl rfl ?_
 unfold r19_Make at hr
 refine yd nL4 (yy hS (cs_qCatalog p0 w_p0) 29 rfl fun b1 w4 hS3 => yy hS3 (cs_qStmt p1 w_p1) 44 rfl fun b5 w8 hS7 => yy hS7 (cs_qCatalog z_qCatalog zw_qCatalog) 29 rfl fun b9 w12 hS11 => ya 3 1 rfl (yb (yf (yd nL8 (yc 0 1 [0] rfl (yg (hS11.rf m1) rfl (ya 2 2 rfl (yac (l1 := [4, 5, 6, 7]) 20 ((decide (p1.Kind < 10)) || (decide (p1.Kind > 15))) ?_ ?_))))))))
 refine yr (decide (p1.Kind < 10)) (fun hc => ?_) (fun hc => ?_)
 refine yl 16 hc ?_
 iterate 3 refine yt ?_
 exact yh 7 20 (.bool true) (WO.mk 16 hc (by rw [hc]; rfl))
 exact yl 16 hc (yc 4 1 [0] rfl (yg (hS11.rf m1) rfl (ya 6 1 rfl (yh 7 20 (.bool (decide (p1.Kind > 15))) (WO.mk 16 hc (by rw [hc]; rfl))))))
 refine yb (W.cb hr (fun hc hr => ?_) (fun hc hr => ?_))
 refine yd nL3 (yh 0 21 (.agg (cs_qCatalog z_qCatalog zw_qCatalog).toArray) (yx hS11 0 (cs_qCatalog z_qCatalog zw_qCatalog) fun w16 hS15 => ya 2 1 rfl (yb (W.ret (ye ?_)))))
 obtain rfl := sj hr
 exact yan _ (hS15.rd m0) ⟨I, zw_qCatalog, rfl, lr, hS15.drop.drop.drop, zok_qCatalog⟩
 refine yi (En.next (yf (yd nL5 (yc 0 1 [2] rfl (yg (hS11.rf m2) rfl (ya 2 1 rfl (bsk hr fun r25 hx_r20 hr => WO.c1 (r18_At_ok h_p0.Roles hS11 hx_r20) rfl fun I22 w21 hl23 hS24 => ya 4 1 rfl (yb (W.cb hr (fun hc hr => ?_) (fun hc hr => ?_))))))))))
 refine yd nL3 (yh 0 27 (.agg (cs_qCatalog z_qCatalog zw_qCatalog).toArray) (yx hS24 0 (cs_qCatalog z_qCatalog zw_qCatalog) fun w27 hS26 => ya 2 1 rfl (yb (W.ret (ye ?_)))))
 obtain rfl := sj hr
 exact yan _ (hS26.rd m0) ⟨I22, zw_qCatalog, rfl, hl23, hS26.drop.drop.drop, zok_qCatalog⟩
 refine yi (En.next (yd nL3 (yv ((cs_qCatalog p0 w_p0)) (hS24.rf m2) rfl (yy hS24 (cs_qCatalog z_qCatalog zw_qCatalog) 29 rfl fun b31 w34 hS33 => yx hS33 0 (cs_qCatalog p0 w_p0) fun w36 hS35 => y0 [0] (ya 0 1 rfl (yb (yf (W.block (yd nL11 (yc 0 1 [0] rfl (yg (hS35.rf m2) rfl (ya 2 2 rfl (bsk hr fun j37 hr1 hr => WO.jw (l1 := [4, 5, 6, 7, 8, 9]) (J := (fun fr w => ∃ I39, fr = [(2, .string p2), (3, Iv p3), (4, Pt b1 0), (5, Pt b5 0), (8, Pt b9 0), (10, Pt b31 0), (11, Iv 0), (64, .bool j37)] ∧ I22.Le I39 ∧ St E w I39 ((Bx b1 (cs_qCatalog p0 w_p0) 29) :: (Bx b5 (cs_qStmt p1 w_p1) 44) :: (Bx b9 (cs_qCatalog z_qCatalog zw_qCatalog) 29) :: (Bx b31 (cs_qCatalog p0 w_p0) 29) :: Os))) ?_ ?_)))))))))))))
 refine WO.cb hr1 (fun hc hr1 => ?_) (fun hc hr1 => ?_)
 refine yl 58 hc (yc 4 1 [2] rfl (yg (hS35.rf m3) rfl (ya 6 1 rfl (bsk hr1 fun r46 hx_r41 hr1 => WO.c1 (r18_Is_ok (RSl.mono h_p0.Roles hl23) hS35 hx_r41) rfl fun I43 w42 hl44 hS45 => ya 8 1 rfl (yh 9 64 (.bool (!r46)) ?_)))))
 obtain rfl := sj hr1
 exact yw ⟨I43, rfl, hl44, hS45.front1.front2.front3⟩
 refine yl 58 hc ?_
 iterate 5 refine yt ?_
 refine yh 9 64 (.bool false) ?_
 obtain rfl := sj hr1
 exact yw ⟨I22, rfl, lr, hS35.front1.front2.front3⟩
 rintro _ w53 ⟨I39, rfl, hl40, hS54⟩
 refine ya 10 1 rfl (yb (bsk hr fun j55 hr1 hr => W.jw (J := (fun fr w => ∃ (s59 : Int) (s60 : qCatalog) (s61 : List qRole) (s62 : List qGrant), ∃ I57 w_s60 a_s61 c_s61 a_s62 c_s62, (.inl (s59, s60, s61, s62)) = j55 ∧ fr = [(3, Iv p3), (4, Pt b1 0), (8, Pt b9 0), (10, Pt b31 0), (11, Iv s59)] ∧ I39.Le I57 ∧ St E w I57 ((Bx b1 (cs_qCatalog p0 w_p0) 29) :: (Bx b9 (cs_qCatalog s60 w_s60) 29) :: (Bx b31 (cs_qCatalog ({ p0 with Roles := s61, Grants := s62 }) ({ w_p0 with Roles := ⟨a_s61, c_s61⟩, Grants := ⟨a_s62, c_s62⟩ })) 29) :: Os) ∧ ok_qCatalog I57 s60 w_s60 ∧ RSl 2 R_qRole I57 a_s61 c_s61 s61 ∧ RSl 5 R_qGrant I57 a_s62 c_s62 s62)) ?_ ?_))
 refine W.cb hr1 (fun hc hr1 => ?_) (fun hc hr1 => ?_)
 exact yaa [0] (ya 0 1 rfl (WO.nil (yq ⟨36, z_qCatalog, p0.Roles, p0.Grants, I39, zw_qCatalog, w_p0.Roles.a, w_p0.Roles.c, w_p0.Grants.a, w_p0.Grants.c, sj hr1, rfl, lr, hS54.front1.drop, zok_qCatalog, (RSl.mono h_p0.Roles le), (RSl.mono h_p0.Grants le)⟩)))
 refine yd nL4 (yc 0 1 [0] rfl (yg (hS54.rf m1) rfl (ya 2 2 rfl (yb (bsk hr1 fun j65 hr2 hr1 => W.jw (J := (fun fr w => ∃ (s79 : Int) (s80 : qCatalog) (s81 : List qRole) (s82 : List qGrant), ∃ I67 w_s80 a_s81 c_s81 a_s82 c_s82, (.inl (s79, s80, s81, s82)) = j65 ∧ fr = [(3, Iv p3), (4, Pt b1 0), (8, Pt b9 0), (10, Pt b31 0), (11, Iv s79)] ∧ I39.Le I67 ∧ St E w I67 ((Bx b1 (cs_qCatalog p0 w_p0) 29) :: (Bx b9 (cs_qCatalog s80 w_s80) 29) :: (Bx b31 (cs_qCatalog ({ p0 with Roles := s81, Grants := s82 }) ({ w_p0 with Roles := ⟨a_s81, c_s81⟩, Grants := ⟨a_s82, c_s82⟩ })) 29) :: Os) ∧ ok_qCatalog I67 s80 w_s80 ∧ RSl 2 R_qRole I67 a_s81 c_s81 s81 ∧ RSl 5 R_qGrant I67 a_s82 c_s82 s82)) ?_ ?_)))))
 refine W.cb hr2 (fun hc hr2 => ?_) (fun hc hr2 => ?_)
 refine yaa nL9 (yv ((cs_qCatalog p0 w_p0)) (hS54.rf m0) rfl (yv ((cs_qStmt p1 w_p1)) (hS54.rf m1) rfl ?_))
 obtain ⟨⟨r74, r75⟩, hx_r69, hr2⟩ := bsm hr2
 refine yab (r19_roles_ok (h_p0.mono le) (h_p1.mono le) hS54 hx_r69) ?_
 rintro _ w70 ⟨I71, a_r74, c_r74, rfl, hl72, hS73, h_r74⟩
 refine ⟨_, rfl, trivial, ?_⟩
 exact yc 3 4 [2] rfl (yx hS73.front3 2 (cs_qCatalog ({ p0 with Roles := r74 }) ({ w_p0 with Roles := ⟨a_r74, c_r74⟩ })) fun w78 hS77 => ya 8 1 rfl (WO.nil (yq ⟨r75, z_qCatalog, r74, p0.Grants, I71, zw_qCatalog, a_r74, c_r74, w_p0.Grants.a, w_p0.Grants.c, sj hr2, rfl, hl72, hS77.front2.drop.front2.front2, zok_qCatalog, h_r74, (RSl.mono h_p0.Grants le)⟩)))
 refine yd nL4 (yc 0 1 [0] rfl (yg (hS54.rf m1) rfl (ya 2 2 rfl (yb (bsk hr2 fun j87 hr3 hr2 => W.jw (J := (fun fr w => ∃ (s101 : Int) (s102 : qCatalog) (s103 : List qGrant), ∃ I89 w_s102 a_s103 c_s103, (.inl (s101, s102, s103)) = j87 ∧ fr = [(3, Iv p3), (4, Pt b1 0), (8, Pt b9 0), (10, Pt b31 0), (11, Iv s101)] ∧ I39.Le I89 ∧ St E w I89 ((Bx b1 (cs_qCatalog p0 w_p0) 29) :: (Bx b9 (cs_qCatalog s102 w_s102) 29) :: (Bx b31 (cs_qCatalog ({ p0 with Grants := s103 }) ({ w_p0 with Grants := ⟨a_s103, c_s103⟩ })) 29) :: Os) ∧ ok_qCatalog I89 s102 w_s102 ∧ RSl 5 R_qGrant I89 a_s103 c_s103 s103)) ?_ ?_)))))
 refine W.cb hr3 (fun hc hr3 => ?_) (fun hc hr3 => ?_)
 refine yaa nL10 (yv ((cs_qCatalog p0 w_p0)) (hS54.rf m0) rfl (yv ((cs_qStmt p1 w_p1)) (hS54.rf m1) rfl (ya 2 1 rfl ?_)))
 obtain ⟨⟨r96, r97⟩, hx_r91, hr3⟩ := bsm hr3
 refine yab (r19_given_ok (h_p0.mono le) (h_p1.mono le) hS54 hx_r91) ?_
 rintro _ w92 ⟨I93, a_r96, c_r96, rfl, hl94, hS95, h_r96⟩
 refine ⟨_, rfl, trivial, ?_⟩
 exact yc 4 4 [3] rfl (yx hS95.front3 3 (cs_qCatalog ({ p0 with Grants := r96 }) ({ w_p0 with Grants := ⟨a_r96, c_r96⟩ })) fun w100 hS99 => ya 9 1 rfl (WO.nil (yq ⟨r97, z_qCatalog, r96, I93, zw_qCatalog, a_r96, c_r96, sj hr3, rfl, hl94, hS99.front2.drop.front2.front2, zok_qCatalog, h_r96⟩)))
 refine yd nL5 (yv ((cs_qCatalog p0 w_p0)) (hS54.rf m0) rfl (yv ((cs_qStmt p1 w_p1)) (hS54.rf m1) rfl (ya 2 1 rfl (bsk hr3 fun r113 hx_r108 hr3 => WO.c1 (r19_place_ok (h_p0.mono le) (h_p1.mono le) hS54 hx_r108) rfl fun I110 w109 hl111 hS112 => ya 4 1 rfl (yb (yf (yd nL2 (ya 0 2 rfl (yb (W.cb hr3 (fun hc hr3 => ?_) (fun hc hr3 => ?_)))))))))))
 refine yd nL3 (yh 0 35 (.agg (cs_qCatalog z_qCatalog zw_qCatalog).toArray) (yx hS112.front2 0 (cs_qCatalog z_qCatalog zw_qCatalog) fun w116 hS115 => ya 2 1 rfl (yb (W.ret (ye (yp ?_))))))
 obtain rfl := sj hr3
 refine yp ?_
 obtain rfl := sj hr2
 refine yp ?_
 obtain rfl := sj hr1
 refine yj (ye ?_)
 obtain rfl := sj hr
 exact yan _ (hS115.rd m0) ⟨I110, zw_qCatalog, rfl, le, hS115.drop.drop.drop.drop, zok_qCatalog⟩
 refine yi (En.next (yd nL2 (yc 0 1 [3] rfl (yx hS112.front3 3 (cs_qCatalog ({ p0 with Grants := ([] : List qGrant) }) ({ w_p0 with Grants := ⟨none, 0⟩ })) fun w144 hS143 => yb (yf (have hS145 := hS143.drew; yat nL9 6 (KR.cons (hS145.rd m0) (KR.cons (hS145.rd m1) (KR.nil hS145.im))) ?_))))))
 generalize World.drew _ = w146 at *
 refine yc 0 1 [3] rfl (yg (rd_c m0 (hS145.rd m0)) rfl (yc 2 1 [3] rfl (yg (rd_c m1 (hS145.rd m1)) rfl (ya 4 1 rfl ?_))))
 obtain ⟨x147, hx_x147, hr3⟩ := bsm hr3
 obtain ⟨h0_x147, h1_x147, h2_x147, he_x147⟩ := sub_some hx_x147
 have hl_x147 : (r113 : Int) ≤ (w_p0.Grants.c : Int) := Int.le_trans h2_x147 (Int.ofNat_le.2 ((RSl.mono h_p0.Grants ((hl23.trans hl40).trans hl111))).le)
 refine WO.slice (e := 67) (sz := 5) rfl (by kernel_rfl) (by kernel_rfl) (by kernel_rfl) rfl (0 : Int) (r113 : Int) h0_x147 (.inl ⟨rfl, rfl⟩) (.inr ⟨_, _, rfl, rfl⟩) h1_x147 hl_x147 ?_
 obtain ⟨a_x147, c_x147, h_x147, ev_x147⟩ := sub_ok ((RSl.mono h_p0.Grants ((hl23.trans hl40).trans hl111))) h0_x147 h1_x147 h2_x147 he_x147
 refine y7 42 rfl ev_x147 ?_
 refine WO.tail rfl ?_
 have hS149 := hS145.no
 obtain ⟨x150, hx_x150, hr3⟩ := bsm hr3
 obtain ⟨h0_x150, he_x150⟩ := app_some hx_x150
 refine WO.append (e' := 67) (b := 64) (zs := (cs_qGrant z_qGrant).toArray) hS149 (OwnSl.nil (T := 67) (rel := R_qGrant) (I := I110)) rfl (by kernel_rfl) rfl (by kernel_rfl) (by kernel_rfl) (by kernel_rfl) rfl rfl rfl rfl h_x147 hS149.im h0_x150 he_x150 (fun _ _ _ => trivial) ?_
 intro a151 c152 w153 C154 hS155 ho156
 refine yc 7 1 [3] rfl (yx hS155.front1 3 (cs_qCatalog ({ p0 with Grants := x150 }) ({ w_p0 with Grants := ⟨a151, c152⟩ })) fun w159 hS158 => yb (have hS160 := hS158.drew; yat nL10 7 (KR.cons (hS160.rd m0) (KR.cons (hS160.rd m2) (KR.nil hS160.im))) ?_))
 generalize World.drew _ = w161 at *
 refine yc 0 1 [3] rfl (yg (rd_c m0 (hS160.rd m0)) rfl (yc 2 1 [3] rfl (yg (rd_c m1 (hS160.rd m2)) rfl (ya 4 2 rfl ?_))))
 obtain ⟨x162, hx_x162, hr3⟩ := bsm hr3
 obtain ⟨h0_x162, h1_x162, h2_x162, he_x162⟩ := sub_some hx_x162
 have hl_x162 : ((p0.Grants.length : Int) : Int) ≤ (w_p0.Grants.c : Int) := Int.le_trans h2_x162 (Int.ofNat_le.2 ((RSl.mono h_p0.Grants ((hl23.trans hl40).trans hl111))).le)
 refine WO.slice (e := 67) (sz := 5) rfl (by kernel_rfl) (by kernel_rfl) (by kernel_rfl) rfl ((w64 (r113 + 1)) : Int) ((p0.Grants.length : Int) : Int) h0_x162 (.inr ⟨_, _, rfl, rfl⟩) (.inl ⟨rfl, rfl⟩) h1_x162 hl_x162 ?_
 obtain ⟨a_x162, c_x162, h_x162, ev_x162⟩ := sub_ok ((RSl.mono h_p0.Grants ((hl23.trans hl40).trans hl111))) h0_x162 h1_x162 h2_x162 he_x162
 refine y7 51 rfl ev_x162 ?_
 refine WO.tail rfl ?_
 have hS163 := hS160.front1
 obtain ⟨x164, hx_x164, hr3⟩ := bsm hr3
 obtain ⟨h0_x164, he_x164⟩ := app_some hx_x164
 refine yaj 67 64 (cs_qGrant z_qGrant) hS163 ho156 h_x162 hS163.im h0_x164 he_x164 rfl fun a165 c166 w167 C168 hS169 ho170 => yc 8 1 [3] rfl (yx hS169.front1 3 (cs_qCatalog ({ p0 with Grants := x164 }) ({ w_p0 with Grants := ⟨a165, c166⟩ })) fun w173 hS172 => WO.nil ?_)
 obtain ⟨I175, hl176, hS178, hp177⟩ := y6 ho170 hS172.front1
 exact yq ⟨0, z_qCatalog, x164, I175, zw_qCatalog, a165, c166, sj hr3, rfl, le, hS178.front2.drop.front2.front2, zok_qCatalog, hp177⟩
 rintro _ w183 ⟨s101, s102, s103, I89, w_s102, a_s103, c_s103, rfl, rfl, hl90, hS184, h_s102, h_s103⟩
 exact yq ⟨s101, s102, p0.Roles, s103, I89, w_s102, w_p0.Roles.a, w_p0.Roles.c, a_s103, c_s103, sj hr2, rfl, hl90, hS184, h_s102, (RSl.mono h_p0.Roles le), h_s103⟩
 rintro _ w185 ⟨s79, s80, s81, s82, I67, w_s80, a_s81, c_s81, a_s82, c_s82, rfl, rfl, hl68, hS186, h_s80, h_s81, h_s82⟩
 exact yq ⟨s79, s80, s81, s82, I67, w_s80, a_s81, c_s81, a_s82, c_s82, sj hr1, rfl, hl68, hS186, h_s80, h_s81, h_s82⟩
 rintro _ w187 ⟨s59, s60, s61, s62, I57, w_s60, a_s61, c_s61, a_s62, c_s62, rfl, rfl, hl58, hS188, h_s60, h_s61, h_s62⟩
 refine yk (En.next (yf (yd nL8 (ya 0 3 rfl (yac (l1 := [3, 4, 5, 6, 7]) 95 ((s59 == 0) && (decide (p0.Version ≥ p3))) ?_ ?_)))))
 refine yr (s59 == 0) (fun hc => ?_) (fun hc => ?_)
 exact yl 90 hc (yc 3 1 [0] rfl (yg (hS188.rf m0) rfl (ya 5 2 rfl (yh 7 95 (.bool (decide (p0.Version ≥ p3))) (WO.mk 90 hc (by rw [hc]; rfl))))))
 refine yl 90 hc ?_
 iterate 4 refine yt ?_
 exact yh 7 95 (.bool false) (WO.mk 90 hc (by rw [hc]; rfl))
 refine yb (bsk hr fun j191 hr1 hr => W.jw (J := (fun fr w => ∃ I193, fr = [(4, Pt b1 0), (8, Pt b9 0), (10, Pt b31 0), (11, Iv j191)] ∧ I57.Le I193 ∧ St E w I193 ((Bx b1 (cs_qCatalog p0 w_p0) 29) :: (Bx b9 (cs_qCatalog s60 w_s60) 29) :: (Bx b31 (cs_qCatalog ({ p0 with Roles := s61, Grants := s62 }) ({ w_p0 with Roles := ⟨a_s61, c_s61⟩, Grants := ⟨a_s62, c_s62⟩ })) 29) :: Os))) ?_ ?_)
 refine W.cb hr1 (fun hc hr1 => ?_) (fun hc hr1 => ?_)
 refine yaa [0] (ya 0 1 rfl (WO.nil ?_))
 obtain rfl := sj hr1
 exact yq ⟨I57, rfl, lr, hS188⟩
 refine yi ?_
 obtain rfl := sj hr1
 exact yq ⟨I57, rfl, lr, hS188⟩
 rintro _ w195 ⟨I193, rfl, hl194, hS196⟩
 refine En.next (yf (yd nL2 (ya 0 2 rfl (yb (W.cb hr (fun hc hr => ?_) (fun hc hr => ?_))))))
 refine yd nL4 (yh 0 98 (.agg (cs_qCatalog z_qCatalog zw_qCatalog).toArray) (ya 1 1 rfl (yx hS196.front1 0 (cs_qCatalog z_qCatalog zw_qCatalog) fun w199 hS198 => ya 3 1 rfl (yb (W.ret (ye ?_))))))
 obtain rfl := sj hr
 exact yan _ (hS198.rd m0) ⟨I193, zw_qCatalog, rfl, le, hS198.drop.drop.drop, zok_qCatalog⟩
 refine yi (En.next (yd nL5 (yc 0 1 [0] rfl (yg (hS196.rf m0) rfl (yc 2 2 [0] rfl (yx hS196.front2 0 (cs_qCatalog ({ p0 with Version := (w64 (p0.Version + 1)), Roles := s61, Grants := s62 }) ({ w_p0 with Roles := ⟨a_s61, c_s61⟩, Grants := ⟨a_s62, c_s62⟩ })) fun w205 hS204 => y0 nL4 (yv ((cs_qCatalog ({ p0 with Version := (w64 (p0.Version + 1)), Roles := s61, Grants := s62 }) ({ w_p0 with Roles := ⟨a_s61, c_s61⟩, Grants := ⟨a_s62, c_s62⟩ }))) (hS204.rf m0) rfl ?_)))))))
 have hk206 : ok_qCatalog I193 ({ p0 with Version := (w64 (p0.Version + 1)), Roles := s61, Grants := s62 }) ({ w_p0 with Roles := ⟨a_s61, c_s61⟩, Grants := ⟨a_s62, c_s62⟩ }) := ⟨(RSl.mono h_p0.Tables (((hl23.trans hl40).trans hl58).trans hl194)), (RSl.mono h_s61 hl194), (RSl.mono h_s62 hl194)⟩
 refine bsk hr fun r212 hx_r207 hr => yab (r19_Held_ok hk206 hS204 hx_r207) ?_
 rintro _ w208 ⟨I209, a_r212, c_r212, rfl, hl210, hS211, h_r212⟩
 refine ⟨_, rfl, trivial, ?_⟩
 refine yc 2 1 [3] rfl (yx hS211 3 (cs_qCatalog ({ p0 with Version := (w64 (p0.Version + 1)), Roles := s61, Grants := r212 }) ({ w_p0 with Roles := ⟨a_s61, c_s61⟩, Grants := ⟨a_r212, c_r212⟩ })) fun w214 hS213 => y0 nL3 (yv ((cs_qCatalog ({ p0 with Version := (w64 (p0.Version + 1)), Roles := s61, Grants := r212 }) ({ w_p0 with Roles := ⟨a_s61, c_s61⟩, Grants := ⟨a_r212, c_r212⟩ }))) (hS213.rf m0) rfl (yx hS213.front2 0 (cs_qCatalog ({ p0 with Version := (w64 (p0.Version + 1)), Roles := s61, Grants := r212 }) ({ w_p0 with Roles := ⟨a_s61, c_s61⟩, Grants := ⟨a_r212, c_r212⟩ })) fun w217 hS216 => ya 2 1 rfl (yb (W.ret ?_)))))
 have hk221 : ok_qCatalog I209 ({ p0 with Version := (w64 (p0.Version + 1)), Roles := s61, Grants := r212 }) ({ w_p0 with Roles := ⟨a_s61, c_s61⟩, Grants := ⟨a_r212, c_r212⟩ }) := ⟨(RSl.mono h_p0.Tables ((((hl23.trans hl40).trans hl58).trans hl194).trans hl210)), (RSl.mono h_s61 (hl194.trans hl210)), h_r212⟩
 obtain rfl := sj hr
 exact yan _ (hS216.rd m0) ⟨I209, ({ w_p0 with Roles := ⟨a_s61, c_s61⟩, Grants := ⟨a_r212, c_r212⟩ }), rfl, le, hS216.drop.drop.drop, hk221⟩
def r17_without (p0 : qCatalog) (p1 : ByteArray) : Option qCatalog := (forE (fun (i21 : Nat) => fun (s20 : List qTable) => (idx p0.Tables (i21 : Int)).bind (fun x33 => ((bif (!sEq x33.Name p1) then (idx p0.Tables (i21 : Int)).bind (fun x40 => (app 112 s20 ([x40] : List qTable)).bind (fun x49 => some x49)) else some s20)).bind (fun (j34 : List qTable) => some j34))) p0.Tables.length 0 ([] : List qTable)).bind (fun s20 => some { p0 with Tables := s20 })
theorem r17_without_ok {p0 : qCatalog} {p1 : ByteArray} {w_p0 : W_qCatalog} (h_p0 : ok_qCatalog I p0 w_p0) (hS : St E w I Os) {r : qCatalog} (hr : r17_without p0 p1 = some r) :
    Calls P 50 #[(.agg (cs_qCatalog p0 w_p0).toArray), (.string p1)] w (fun e w' => ∃ I' w_rw0, e = .returned (.agg (cs_qCatalog r w_rw0).toArray) ∧ I.Le I' ∧ St E w' I' Os ∧ ok_qCatalog I' r w_rw0) := by
 refine calls_W (fn := Tryz.f50) rfl rfl rfl ?_
 unfold r17_without at hr
 refine yd nL2 (yy hS (cs_qCatalog p0 w_p0) 29 rfl fun b1 w4 hS3 => yy hS3 (cs_qCatalog z_qCatalog zw_qCatalog) 29 rfl fun b5 w8 hS7 => y0 nL3 (yv ((cs_qCatalog p0 w_p0)) (hS7.rf m1) rfl (yy hS7 (cs_qCatalog z_qCatalog zw_qCatalog) 29 rfl fun b9 w12 hS11 => yx hS11 0 (cs_qCatalog p0 w_p0) fun w14 hS13 => y0 nL2 (yc 0 1 [1] rfl (yx hS13 1 (cs_qCatalog ({ p0 with Tables := ([] : List qTable) }) ({ w_p0 with Tables := ⟨none, 0⟩ })) fun w16 hS15 => yb (yf (yd [0] (ya 0 1 rfl (yb (W.block (bsk hr fun s20 hloop22 hr => have hlt31 := (h_p0.Tables).len_lt; W.wk (W.forE (m := p0.Tables.length) hloop22 (fun (i21 : Nat) => fun (s20 : List qTable) fr w => ∃ I18 a_s20 c_s20 C_s20, fr = [(1, .string p1), (2, Pt b1 0), (4, Pt b5 0), (5, Pt b9 0), (6, Nv i21)] ∧ I.Le I18 ∧ St E w I18 ((Bx b1 (cs_qCatalog p0 w_p0) 29) :: (Bx b5 (cs_qCatalog z_qCatalog zw_qCatalog) 29) :: (Bx b9 (cs_qCatalog ({ p0 with Tables := s20 }) ({ w_p0 with Tables := ⟨a_s20, c_s20⟩ })) 29) :: (C_s20) :: Os) ∧ OwnSl 89 6 R_qTable I18 C_s20 a_s20 c_s20 s20) ⟨I, none, 0, Mem.no, rfl, lr, hS15.no.front1.front2.front3, OwnSl.nil⟩ ?_ ?_))))))))))))
 rintro i21 s20 _ w28 hi32 ⟨I18, a_s20, c_s20, C_s20, rfl, hl19, hS29, h_s20⟩ x30 hr1
 refine yf (yd nL5 (yc 0 2 [1] rfl (yg (hS29.rf m0) rfl (ya 3 2 rfl (yb (yah fun _ => yi (En.next (yf (W.block (yd nL8 (yc 0 1 [1] rfl (yg (hS29.rf m0) rfl (ya 2 1 rfl ?_)))))))))))))
 obtain ⟨x33, hr1, hb_x33, _, ⟨w_x33, rfl, h_x33⟩, hc_x33⟩ := sl_ix ((RSl.mono h_p0.Tables hl19)) hr1
 refine y3 89 6 hb_x33 rfl (yc 4 1 [0] rfl (yaf hc_x33 hS29.rm rfl (ya 6 2 rfl (yb (bsk hr1 fun j34 hr2 hr1 => W.jw (J := (fun fr w => ∃ I36 a_j34 c_j34 C_j34, fr = [(1, .string p1), (2, Pt b1 0), (4, Pt b5 0), (5, Pt b9 0), (6, Nv i21)] ∧ I18.Le I36 ∧ St E w I36 ((Bx b1 (cs_qCatalog p0 w_p0) 29) :: (Bx b5 (cs_qCatalog z_qCatalog zw_qCatalog) 29) :: (Bx b9 (cs_qCatalog ({ p0 with Tables := j34 }) ({ w_p0 with Tables := ⟨a_j34, c_j34⟩ })) 29) :: (C_j34) :: Os) ∧ OwnSl 89 6 R_qTable I36 C_j34 a_j34 c_j34 j34)) ?_ ?_)))))
 refine W.cb hr2 (fun hc hr2 => ?_) (fun hc hr2 => ?_)
 have hS38 := hS29.drew
 refine yat nL11 8 (KR.cons (hS38.rd m0) (KR.cons (hS38.rd m2) (KR.nil hS38.im))) ?_
 generalize World.drew _ = w39 at *
 refine yc 0 1 [1] rfl (yg (rd_c m1 (hS38.rd m2)) rfl (yc 2 1 [1] rfl (yg (rd_c m0 (hS38.rd m0)) rfl (ya 4 1 rfl ?_))))
 obtain ⟨x40, hr2, hb_x40, _, ⟨w_x40, rfl, h_x40⟩, hc_x40⟩ := sl_ix ((RSl.mono h_p0.Tables hl19)) hr2
 refine y3 89 6 hb_x40 rfl (yak ((cs_qTable x40 w_x40)) hc_x40 0 (rd_i hS38.im) rfl (y4 (rel := R_qTable) (xs := ([x40] : List qTable)) hS38 rfl (by kernel_rfl) rfl 89 6 [(cs_qTable x40 w_x40)] (by kernel_rfl) rfl ((Elr.cons ⟨w_x40, rfl, h_x40⟩ Elr.nil)) (fun C42 w46 hS45 => (KR.cons (hS45.rd m1) (KR.cons (hS45.rd m3) (KR.nil hS45.im)))) ?_))
 intro a44 C42 w46 hS45 ho43
 refine WO.tail rfl ?_
 have hS48 := hS45.front4
 obtain ⟨x49, hx_x49, hr2⟩ := bsm hr2
 obtain ⟨h0_x49, he_x49⟩ := app_some hx_x49
 refine yaj 89 112 (cs_qTable z_qTable zw_qTable) hS48 h_s20 ho43.sl (hS48.rd m1) h0_x49 he_x49 rfl fun a50 c51 w52 C53 hS54 ho55 => yc 9 1 [1] rfl (yx hS54.front1.drop.front3 1 (cs_qCatalog ({ p0 with Tables := x49 }) ({ w_p0 with Tables := ⟨a50, c51⟩ })) fun w60 hS59 => WO.nil ?_)
 obtain rfl := sj hr2
 exact yq ⟨I18, a50, c51, C53, rfl, lr, hS59.front1.front1.front3.front3, ho55⟩
 refine yi ?_
 obtain rfl := sj hr2
 exact yq ⟨I18, a_s20, c_s20, C_s20, rfl, lr, hS29, h_s20⟩
 rintro _ w65 ⟨I36, a_j34, c_j34, C_j34, rfl, hl37, hS66, h_j34⟩
 refine yk (En.next (yaa nL3 (ya 0 1 rfl (yae i21 rfl (ya 2 1 rfl (WO.nil ?_))))))
 obtain rfl := sj hr1
 exact yq ⟨I36, a_j34, c_j34, C_j34, rfl, le, hS66, h_j34⟩
 rintro _ w67 ⟨I18, a_s20, c_s20, C_s20, rfl, hl19, hS68, h_s20⟩
 refine yf (yd nL5 (yc 0 2 [1] rfl (yg (hS68.rf m0) rfl (ya 3 2 rfl (yb (yai fun _ => yz (ym (yn (yo (En.next (yd nL2 (yv ((cs_qCatalog ({ p0 with Tables := s20 }) ({ w_p0 with Tables := ⟨a_s20, c_s20⟩ }))) (hS68.rf m2) rfl ?_))))))))))))
 obtain ⟨I70, hl71, hS73, hp72⟩ := y6 h_s20 hS68.front3
 refine yx hS73.front1 0 (cs_qCatalog ({ p0 with Tables := s20 }) ({ w_p0 with Tables := ⟨a_s20, c_s20⟩ })) fun w76 hS75 => yb (W.ret ?_)
 have hk80 : ok_qCatalog I70 ({ p0 with Tables := s20 }) ({ w_p0 with Tables := ⟨a_s20, c_s20⟩ }) := ⟨hp72, (RSl.mono h_p0.Roles (hl19.trans hl71)), (RSl.mono h_p0.Grants (hl19.trans hl71))⟩
 obtain rfl := sj hr
 exact En.c1 _ (hS75.rd m0) ⟨I70, ({ w_p0 with Tables := ⟨a_s20, c_s20⟩ }), rfl, le, hS75.drop.drop.drop, hk80⟩
def r17_alike (p0 : List ByteArray) (p1 : List ByteArray) : Option Bool := (bif ((p0.length : Int) != (p1.length : Int)) then some false else (forN (fun (i4 : Nat) => fun (_s : Unit) => (forE (fun (i16 : Nat) => fun (s : Int × Int) => match s with | (s14, s15) => (idx p0 (i16 : Int)).bind (fun x25 => (idx p0 (i4 : Int)).bind (fun x26 => ((bif (sEq x25 x26) then some (w64 (s14 + 1)) else some s14)).bind (fun (j27 : Int) => (idx p1 (i16 : Int)).bind (fun x35 => (idx p0 (i4 : Int)).bind (fun x36 => ((bif (sEq x35 x36) then some (w64 (s15 + 1)) else some s15)).bind (fun (j37 : Int) => some (j27, j37)))))))) p0.length 0 (0, 0)).bind (fun (s14, s15) => (bif (s14 != s15) then some (.inr false) else some (.inl ())))) p0.length 0 ()).bind (fun (t : Unit ⊕ (Bool)) => match t with | .inl _ => some true | .inr s46 => some s46))
theorem r17_alike_ok {p0 : List ByteArray} {p1 : List ByteArray} {a_p0 : Option Addr} {c_p0 : Nat} {a_p1 : Option Addr} {c_p1 : Nat} (h_p0 : RSl 1 RStr I a_p0 c_p0 p0) (h_p1 : RSl 1 RStr I a_p1 c_p1 p1) (hS : St E w I Os) {r : Bool} (hr : r17_alike p0 p1 = some r) :
    Calls P 83 #[(Sl a_p0 p0 c_p0), (Sl a_p1 p1 c_p1)] w (fun e w' => ∃ I', e = .returned (.bool r) ∧ I.Le I' ∧ St E w' I' Os) := by
 refine calls_W (fn := Tryz.f83) rfl rfl rfl ?_
 unfold r17_alike at hr
 refine yd [0] (ya 0 1 rfl (yb (yf (yd nL5 (ya 0 5 rfl (yb (W.cb hr (fun hc hr => ?_) (fun hc hr => ?_))))))))
 refine yd [0] (ya 0 1 rfl (yb (W.ret (ye ?_))))
 obtain rfl := sj hr
 exact yu ⟨I, rfl, lr, hS⟩
 refine yi (En.next (yf (yd [0] (ya 0 1 rfl (yb (W.block (bsk hr fun t1 hloop5 hr => have hlt9 := (h_p0).len_lt; W.wk (W.forN (m := p0.length) hloop5 (fun (i4 : Nat) => fun (_s : Unit) fr w => ∃ I2, fr = [(0, Sl a_p0 p0 c_p0), (1, Sl a_p1 p1 c_p1), (5, Nv i4)] ∧ I.Le I2 ∧ St E w I2 Os) ⟨I, rfl, lr, hS⟩ ?_ ?_))))))))
 rintro i4 _ _ w6 hi10 ⟨I2, rfl, hl3, hS7⟩ x8 hr1 hext1
 refine yf (yd nL4 (ya 0 4 rfl (yb (yah fun _ => yi (En.next (yf (W.block (yd nL2 (ya 0 2 rfl (yb (yf (yd [0] (ya 0 1 rfl (yb (W.block ?_)))))))))))))))
 obtain ⟨⟨s14, s15⟩, hloop17, hr1⟩ := bsm hr1
 have hlt21 := ((RSl.mono h_p0 hl3)).len_lt
 refine W.wk (W.forE (m := p0.length) hloop17 (fun (i16 : Nat) => fun (s : Int × Int) fr w => match s with | (s14, s15) => ∃ I12, fr = [(0, Sl a_p0 p0 c_p0), (1, Sl a_p1 p1 c_p1), (5, Nv i4), (6, Iv s14), (7, Iv s15), (8, Nv i16)] ∧ I2.Le I12 ∧ St E w I12 Os) ⟨I2, rfl, lr, hS7⟩ ?_ ?_)
 rintro i16 ⟨s14, s15⟩ _ w18 hi22 ⟨I12, rfl, hl13, hS19⟩ x20 hr2
 refine yf (yd nL4 (ya 0 4 rfl (yb (yah fun _ => yi (En.next (yf (W.block (yf (yf (have hS23 := hS19.drew; yat nL9 8 (KR.nil hS23.im) ?_))))))))))
 generalize World.drew _ = w24 at *
 refine ya 0 2 rfl ?_
 obtain ⟨x25, hr2, hb_x25, _, rfl, hc_x25⟩ := sl_ix ((RSl.mono h_p0 (hl3.trans hl13))) hr2
 refine y3 9 1 hb_x25 rfl (yaf hc_x25 (rd_i hS23.im) rfl (ya 4 2 rfl ?_))
 obtain ⟨x26, hr2, hb_x26, _, rfl, hc_x26⟩ := sl_ix ((RSl.mono h_p0 (hl3.trans hl13))) hr2
 refine y3 9 1 hb_x26 rfl (yaf hc_x26 (rd_i hS23.im) rfl (WO.tail rfl (ya 8 1 rfl (yb (bsk hr2 fun j27 hr3 hr2 => W.jw (J := (fun fr w => ∃ I29, fr = [(0, Sl a_p0 p0 c_p0), (1, Sl a_p1 p1 c_p1), (5, Nv i4), (6, Iv j27), (7, Iv s15), (8, Nv i16)] ∧ I12.Le I29 ∧ St E w I29 Os)) ?_ ?_)))))
 refine W.cb hr3 (fun hc hr3 => ?_) (fun hc hr3 => ?_)
 refine yaa nL3 (ya 0 3 rfl (WO.nil ?_))
 obtain rfl := sj hr3
 exact yq ⟨I12, rfl, lr, hS23⟩
 refine yi ?_
 obtain rfl := sj hr3
 exact yq ⟨I12, rfl, lr, hS23⟩
 rintro _ w31 ⟨I29, rfl, hl30, hS32⟩
 refine En.next (yf (have hS33 := hS32.drew; yat nL9 8 (KR.nil hS33.im) ?_))
 generalize World.drew _ = w34 at *
 refine ya 0 2 rfl ?_
 obtain ⟨x35, hr2, hb_x35, _, rfl, hc_x35⟩ := sl_ix ((RSl.mono h_p1 ((hl3.trans hl13).trans hl30))) hr2
 refine y3 9 1 hb_x35 rfl (yaf hc_x35 (rd_i hS33.im) rfl (ya 4 2 rfl ?_))
 obtain ⟨x36, hr2, hb_x36, _, rfl, hc_x36⟩ := sl_ix ((RSl.mono h_p0 ((hl3.trans hl13).trans hl30))) hr2
 refine y3 9 1 hb_x36 rfl (yaf hc_x36 (rd_i hS33.im) rfl (WO.tail rfl (ya 8 1 rfl (yb (bsk hr2 fun j37 hr3 hr2 => W.jw (J := (fun fr w => ∃ I39, fr = [(0, Sl a_p0 p0 c_p0), (1, Sl a_p1 p1 c_p1), (5, Nv i4), (6, Iv j27), (7, Iv j37), (8, Nv i16)] ∧ I29.Le I39 ∧ St E w I39 Os)) ?_ ?_)))))
 refine W.cb hr3 (fun hc hr3 => ?_) (fun hc hr3 => ?_)
 refine yaa nL3 (ya 0 3 rfl (WO.nil ?_))
 obtain rfl := sj hr3
 exact yq ⟨I29, rfl, lr, hS33⟩
 refine yi ?_
 obtain rfl := sj hr3
 exact yq ⟨I29, rfl, lr, hS33⟩
 rintro _ w41 ⟨I39, rfl, hl40, hS42⟩
 refine yk (En.next (yaa nL3 (ya 0 1 rfl (yae i16 rfl (ya 2 1 rfl (WO.nil ?_))))))
 obtain rfl := sj hr2
 exact yq ⟨I39, rfl, le, hS42⟩
 rintro _ w43 ⟨I12, rfl, hl13, hS44⟩
 refine yf (yd nL4 (ya 0 4 rfl (yb (yai fun _ => yz (ym (yn (yo (En.next (yd nL3 (ya 0 3 rfl (yb (W.cb hr1 (fun hc hr1 => ?_) (fun hc hr1 => ?_)))))))))))))
 refine yd [0] (ya 0 1 rfl (yb (W.ret (yj (ye (yp ?_))))))
 obtain rfl := hext1 _ (sj hr1).symm
 refine yj (ye ?_)
 obtain rfl := sj hr
 exact yu ⟨I12, rfl, le, hS44⟩
 exact yi (yk (En.next (yaa nL3 (ya 0 1 rfl (yae i4 rfl (ya 2 1 rfl (WO.nil (yq ⟨(), (sj hr1).symm, I12, rfl, le, hS44⟩))))))))
 rintro _ _ w47 ⟨I2, rfl, hl3, hS48⟩ he
 cases he
 refine yf (yd nL4 (ya 0 4 rfl (yb (yai fun _ => yz (ym (yn (yo (En.next (yd [0] (ya 0 1 rfl (yb (W.ret ?_))))))))))))
 obtain rfl := sj hr
 exact yu ⟨I2, rfl, hl3, hS48⟩
def r17_Copy (p0 : qTable) : Option qTable := (app 32 ([] : List qColumn) p0.Cols).bind (fun x17 => (app 176 ([] : List qCons) p0.Cons).bind (fun x29 => (app 40 ([] : List qIndex) p0.Idx).bind (fun x41 => some { p0 with Cols := x17, Cons := x29, Idx := x41 })))
theorem r17_Copy_ok {p0 : qTable} {w_p0 : W_qTable} (h_p0 : ok_qTable I p0 w_p0) (hS : St E w I Os) {r : qTable} (hr : r17_Copy p0 = some r) :
    Calls P 85 #[(.agg (cs_qTable p0 w_p0).toArray)] w (fun e w' => ∃ (I' : Mem) (w_rw0 : W_qTable) (rC0_3 : Mem) (rC0_4 : Mem) (rC0_5 : Mem), e = .returned (.agg (cs_qTable r w_rw0).toArray) ∧ I.Le I' ∧ St E w' I' (rC0_3 :: rC0_4 :: rC0_5 :: Os) ∧ OwnSl 73 3 R_qColumn I' rC0_3 w_rw0.Cols.a w_rw0.Cols.c r.Cols ∧ OwnSl 100 12 R_qCons I' rC0_4 w_rw0.Cons.a w_rw0.Cons.c r.Cons ∧ OwnSl 124 2 R_qIndex I' rC0_5 w_rw0.Idx.a w_rw0.Idx.c r.Idx) := by
 refine calls_W (fn := Tryz.f85) rfl rfl rfl ?_
 unfold r17_Copy at hr
 refine yd nL2 (yy hS (cs_qTable p0 w_p0) 89 rfl fun b1 w4 hS3 => yy hS3 (cs_qTable z_qTable zw_qTable) 89 rfl fun b5 w8 hS7 => y0 nL9 (yc 0 1 [0] rfl (yg (hS7.rf m1) rfl (yc 2 1 [1] rfl (yg (hS7.rf m1) rfl (yc 4 1 [2] rfl (yg (hS7.rf m1) rfl (yh 6 10 (.agg (cs_qTable ({ p0 with Cols := ([] : List qColumn), Cons := ([] : List qCons), Idx := ([] : List qIndex) }) (⟨⟨none, 0⟩, ⟨none, 0⟩, ⟨none, 0⟩⟩ : W_qTable)).toArray) (yy hS7 (cs_qTable z_qTable zw_qTable) 89 rfl fun b9 w12 hS11 => yx hS11 0 (cs_qTable ({ p0 with Cols := ([] : List qColumn), Cons := ([] : List qCons), Idx := ([] : List qIndex) }) (⟨⟨none, 0⟩, ⟨none, 0⟩, ⟨none, 0⟩⟩ : W_qTable)) fun w14 hS13 => y0 nL7 (yc 0 1 [3] rfl (yg (hS13.rf m0) rfl (yc 2 1 [3] rfl (yg (hS13.rf m2) rfl ?_)))))))))))))
 have hS16 := hS13.no
 obtain ⟨x17, hx_x17, hr⟩ := bsm hr
 obtain ⟨h0_x17, he_x17⟩ := app_some hx_x17
 refine WO.append (e' := 73) (b := 32) (zs := (cs_qColumn z_qColumn).toArray) hS16 (OwnSl.nil (T := 73) (rel := R_qColumn) (I := I)) rfl (by kernel_rfl) rfl (by kernel_rfl) (by kernel_rfl) (by kernel_rfl) rfl rfl rfl rfl h_p0.Cols hS16.im h0_x17 he_x17 (fun _ _ _ => trivial) ?_
 intro a18 c19 w20 C21 hS22 ho23
 refine yc 5 1 [3] rfl (yx hS22.front1 3 (cs_qTable ({ p0 with Cols := x17, Cons := ([] : List qCons), Idx := ([] : List qIndex) }) (⟨⟨a18, c19⟩, ⟨none, 0⟩, ⟨none, 0⟩⟩ : W_qTable)) fun w26 hS25 => y0 nL7 (yc 0 1 [4] rfl (yg (hS25.rf m0) rfl (yc 2 1 [4] rfl (yg (hS25.rf m3) rfl ?_)))))
 have hS28 := hS25.no
 obtain ⟨x29, hx_x29, hr⟩ := bsm hr
 obtain ⟨h0_x29, he_x29⟩ := app_some hx_x29
 refine WO.append (e' := 100) (b := 176) (zs := (cs_qCons z_qCons zw_qCons).toArray) hS28 (OwnSl.nil (T := 100) (rel := R_qCons) (I := I)) rfl (by kernel_rfl) rfl (by kernel_rfl) (by kernel_rfl) (by kernel_rfl) rfl rfl rfl rfl h_p0.Cons hS28.im h0_x29 he_x29 (fun _ _ _ => trivial) ?_
 intro a30 c31 w32 C33 hS34 ho35
 refine yc 5 1 [4] rfl (yx hS34.front1 4 (cs_qTable ({ p0 with Cols := x17, Cons := x29, Idx := ([] : List qIndex) }) (⟨⟨a18, c19⟩, ⟨a30, c31⟩, ⟨none, 0⟩⟩ : W_qTable)) fun w38 hS37 => y0 nL7 (yc 0 1 [5] rfl (yg (hS37.rf m0) rfl (yc 2 1 [5] rfl (yg (hS37.rf m4) rfl ?_)))))
 have hS40 := hS37.no
 obtain ⟨x41, hx_x41, hr⟩ := bsm hr
 obtain ⟨h0_x41, he_x41⟩ := app_some hx_x41
 refine WO.append (e' := 124) (b := 40) (zs := (cs_qIndex z_qIndex zw_qIndex).toArray) hS40 (OwnSl.nil (T := 124) (rel := R_qIndex) (I := I)) rfl (by kernel_rfl) rfl (by kernel_rfl) (by kernel_rfl) (by kernel_rfl) rfl rfl rfl rfl h_p0.Idx hS40.im h0_x41 he_x41 (fun _ _ _ => trivial) ?_
 intro a42 c43 w44 C45 hS46 ho47
 refine yc 5 1 [5] rfl (yx hS46.front1 5 (cs_qTable ({ p0 with Cols := x17, Cons := x29, Idx := x41 }) (⟨⟨a18, c19⟩, ⟨a30, c31⟩, ⟨a42, c43⟩⟩ : W_qTable)) fun w50 hS49 => y0 nL2 (yv ((cs_qTable ({ p0 with Cols := x17, Cons := x29, Idx := x41 }) (⟨⟨a18, c19⟩, ⟨a30, c31⟩, ⟨a42, c43⟩⟩ : W_qTable))) (hS49.rf m0) rfl (yx hS49.front4 0 (cs_qTable ({ p0 with Cols := x17, Cons := x29, Idx := x41 }) (⟨⟨a18, c19⟩, ⟨a30, c31⟩, ⟨a42, c43⟩⟩ : W_qTable)) fun w53 hS52 => yb (W.ret ?_))))
 obtain rfl := sj hr
 exact En.c1 _ (hS52.rd m0) ⟨I, (⟨⟨a18, c19⟩, ⟨a30, c31⟩, ⟨a42, c43⟩⟩ : W_qTable), C21, C33, C45, rfl, lr, hS52.drop.drop.front3.drop.front1.front2, ho23, ho35, ho47⟩
noncomputable def r17_pointed (p0 : qTable) (p1 : ByteArray) (p2 : ByteArray) : Option (qTable × Bool) := (r17_Copy p0).bind (fun r14 => (loopO (fun (s : Bool × Int × (List qCons)) => match s with | (s34, s35, s36) => (bif (decide (s35 < (s36.length : Int))) then (idx s36 s35).bind (fun x46 => ((bif (x46.Kind == 3) then (idx s36 s35).bind (fun x51 => some (sEq x51.Table p1)) else some false)).bind (fun (j47 : Bool) => ((bif j47 then (idx s36 s35).bind (fun x58 => some (true, (s36.set (s35).toNat ({ x58 with Table := p2 })))) else some (s34, s36))).bind (fun ((s66, s67) : Bool × (List qCons)) => some (.inl (s66, (w64 (s35 + 1)), s67))))) else some (.inr (s34, s36)))) (false, 0, r14.Cons)).bind (fun ((s73, s74) : Bool × (List qCons)) => some ({ r14 with Cols := r14.Cols, Cons := s74, Idx := r14.Idx }, s73)))
theorem r17_pointed_ok {p0 : qTable} {p1 : ByteArray} {p2 : ByteArray} {w_p0 : W_qTable} (h_p0 : ok_qTable I p0 w_p0) (hS : St E w I Os) {r : qTable × Bool} (hr : r17_pointed p0 p1 p2 = some r) :
    Calls P 84 #[(.agg (cs_qTable p0 w_p0).toArray), (.string p1), (.string p2)] w (fun e w' => ∃ I' w_rw0, e = .returned (.tuple #[(.agg (cs_qTable r.1 w_rw0).toArray), (.bool r.2)]) ∧ I.Le I' ∧ St E w' I' Os ∧ ok_qTable I' r.1 w_rw0) := by
 refine calls_W (fn := Tryz.f84) rfl rfl rfl ?_
 unfold r17_pointed at hr
 refine yd nL3 (yy hS (cs_qTable p0 w_p0) 89 rfl fun b1 w4 hS3 => yy hS3 (cs_qTable z_qTable zw_qTable) 89 rfl fun b5 w8 hS7 => ya 2 1 rfl (y0 nL4 (yv ((cs_qTable p0 w_p0)) (hS7.rf m1) rfl (bsk hr fun r14 hx_r9 hr => yab (r17_Copy_ok h_p0 hS7 hx_r9) ?_))))
 rintro _ w10 ⟨I11, w_r14, C_r14_3, C_r14_4, C_r14_5, rfl, hl12, hS13, h_r14_3, h_r14_4, h_r14_5⟩
 refine ⟨_, rfl, trivial, ?_⟩
 refine yy hS13 (cs_qTable z_qTable zw_qTable) 89 rfl ?_
 intro b15 w18 hS17
 obtain ⟨I20, hl21, hS23, hp22⟩ := y6 h_r14_3 hS17.front1
 obtain ⟨I25, hl26, hS28, hp27⟩ := y6 (h_r14_5.mono hl21) hS23.front2
 refine yx hS28 0 (cs_qTable ({ r14 with Cols := r14.Cols, Cons := r14.Cons, Idx := r14.Idx }) (⟨⟨w_r14.Cols.a, w_r14.Cols.c⟩, ⟨w_r14.Cons.a, w_r14.Cons.c⟩, ⟨w_r14.Idx.a, w_r14.Idx.c⟩⟩ : W_qTable)) fun w30 hS29 => y0 [0] (ya 0 1 rfl (yb (yf (yd [0] (ya 0 1 rfl (yb (W.block (bsk hr fun t31 hloop37 hr => W.wk (yau hloop37 (fun (s : Bool × Int × (List qCons)) fr w => match s with | (s34, s35, s36) => ∃ I32 C_s36, fr = [(1, .string p1), (2, .string p2), (6, Pt b5 0), (8, Pt b15 0), (9, .bool s34), (10, Iv s35)] ∧ I25.Le I32 ∧ St E w I32 ((Bx b5 (cs_qTable z_qTable zw_qTable) 89) :: (Bx b15 (cs_qTable ({ r14 with Cols := r14.Cols, Cons := s36, Idx := r14.Idx }) (⟨⟨w_r14.Cols.a, w_r14.Cols.c⟩, ⟨w_r14.Cons.a, w_r14.Cons.c⟩, ⟨w_r14.Idx.a, w_r14.Idx.c⟩⟩ : W_qTable)) 89) :: (C_s36) :: Os) ∧ OwnSl 100 12 R_qCons I32 C_s36 w_r14.Cons.a w_r14.Cons.c s36) ⟨I25, C_r14_4, rfl, lr, hS29.front3.drop.front1.front1.front2, (OwnSl.mono h_r14_4 le)⟩ ?_)))))))))
 rintro ⟨s34, s35, s36⟩ _ w43 ⟨I32, C_s36, rfl, hl33, hS44, h_s36⟩ x45 hr1 hext31
 refine yf (yd nL5 (yc 0 2 [4] rfl (yg (hS44.rf m1) rfl (ya 3 2 rfl (yb (W.cb hr1 (fun hc hr1 => ?_) (fun hc hr1 => ?_)))))))
 refine yi (En.next (yf (W.block (yd nL17 (yc 0 1 [4] rfl (yg (hS44.rf m1) rfl (ya 2 1 rfl ?_)))))))
 obtain ⟨x46, hr1, hb_x46, _, ⟨w_x46, rfl, h_x46⟩, hc_x46⟩ := sl_ix (h_s36.sl) hr1
 refine y3 100 12 hb_x46 rfl (yc 4 1 [1] rfl (yal hc_x46 1 (hS44.rf m2) rfl (ya 6 2 rfl (bsk hr1 fun j47 hr2 hr1 => WO.jw (l1 := [8, 9, 10, 11, 12, 13, 14, 15, 16]) (J := (fun fr w => ∃ I49, fr = [(1, .string p1), (2, .string p2), (6, Pt b5 0), (8, Pt b15 0), (9, .bool s34), (10, Iv s35), (36, .bool j47)] ∧ I32.Le I49 ∧ St E w I49 ((Bx b5 (cs_qTable z_qTable zw_qTable) 89) :: (Bx b15 (cs_qTable ({ r14 with Cols := r14.Cols, Cons := s36, Idx := r14.Idx }) (⟨⟨w_r14.Cols.a, w_r14.Cols.c⟩, ⟨w_r14.Cons.a, w_r14.Cons.c⟩, ⟨w_r14.Idx.a, w_r14.Idx.c⟩⟩ : W_qTable)) 89) :: (C_s36) :: Os))) ?_ ?_))))
 refine WO.cb hr2 (fun hc hr2 => ?_) (fun hc hr2 => ?_)
 refine yl 27 hc (yc 8 1 [4] rfl (yg (hS44.rf m1) rfl (ya 10 1 rfl ?_)))
 obtain ⟨x51, hr2, hb_x51, _, ⟨w_x51, rfl, h_x51⟩, hc_x51⟩ := sl_ix (h_s36.sl) hr2
 refine y3 100 12 hb_x51 rfl (yc 12 1 [10] rfl (yal hc_x51 10 (hS44.rf m2) rfl (ya 14 2 rfl (yh 16 36 (.bool (sEq x51.Table p1)) ?_))))
 obtain rfl := sj hr2
 exact yw ⟨I32, rfl, lr, hS44⟩
 refine yl 27 hc ?_
 iterate 8 refine yt ?_
 refine yh 16 36 (.bool false) ?_
 obtain rfl := sj hr2
 exact yw ⟨I32, rfl, lr, hS44⟩
 rintro _ w52 ⟨I49, rfl, hl50, hS53⟩
 refine yb (bsk hr1 fun j54 hr2 hr1 => W.jw (J := (fun fr w => ∃ (s66 : Bool) (s67 : List qCons), ∃ I56 C_s67, (s66, s67) = j54 ∧ fr = [(1, .string p1), (2, .string p2), (6, Pt b5 0), (8, Pt b15 0), (9, .bool s66), (10, Iv s35)] ∧ I49.Le I56 ∧ St E w I56 ((Bx b5 (cs_qTable z_qTable zw_qTable) 89) :: (Bx b15 (cs_qTable ({ r14 with Cols := r14.Cols, Cons := s67, Idx := r14.Idx }) (⟨⟨w_r14.Cols.a, w_r14.Cols.c⟩, ⟨w_r14.Cons.a, w_r14.Cons.c⟩, ⟨w_r14.Idx.a, w_r14.Idx.c⟩⟩ : W_qTable)) 89) :: (C_s67) :: Os) ∧ OwnSl 100 12 R_qCons I56 C_s67 w_r14.Cons.a w_r14.Cons.c s67)) ?_ ?_)
 refine W.cb hr2 (fun hc hr2 => ?_) (fun hc hr2 => ?_)
 refine yd nL7 (yc 0 1 [4] rfl (yg (hS53.rf m1) rfl (ya 2 2 rfl ?_)))
 obtain ⟨x58, hr2, h0_x58, h1_x58, hx_x58, ha_x58, _, _, ⟨w_x58, rfl, h_x58⟩, hc_x58⟩ := sl_at ((h_s36.mono hl50).sl) hr2
 refine yaq 100 12 ha_x58 h0_x58 h1_x58 ?_
 refine yc 5 1 [10] rfl ?_
 have hk64 : ok_qCons I49 ({ x58 with Table := p2 }) w_x58 := ⟨h_x58.Cols, h_x58.Check, h_x58.Refs⟩
 refine yas hS53.front2 (OwnSl.mono h_s36 hl50) rfl (by kernel_rfl) rfl hx_x58 (u' := { x58 with Table := p2 }) 10 rfl rfl (by kernel_rfl) rfl rfl (fun cs hrel => (by obtain ⟨w_zz, rfl, h_zz⟩ := hrel; exact ⟨w_zz, rfl, { h_zz with }⟩)) (fun _ _ _ => trivial) ?_
 intro w61 C62 hS60 ho63
 refine y7 38 rfl (show Value.slice w_r14.Cons.a s36.length w_r14.Cons.c = Value.slice w_r14.Cons.a (s36.set (s35).toNat ({ x58 with Table := p2 })).length w_r14.Cons.c by simp only [List.length_set]) ?_
 have hS65 : St E w61 I49 ((C62) :: (Bx b5 (cs_qTable z_qTable zw_qTable) 89) :: (Bx b15 (cs_qTable ({ r14 with Cols := r14.Cols, Cons := (s36.set (s35).toNat ({ x58 with Table := p2 })), Idx := r14.Idx }) (⟨⟨w_r14.Cols.a, w_r14.Cols.c⟩, ⟨w_r14.Cons.a, w_r14.Cons.c⟩, ⟨w_r14.Idx.a, w_r14.Idx.c⟩⟩ : W_qTable)) 89) :: Os) := by have hq := hS60; simp only [cs_qTable, List.length_set] at hq ⊢; exact hq
 exact yb (yaa [0] (ya 0 1 rfl (WO.nil (yq ⟨true, (s36.set (s35).toNat ({ x58 with Table := p2 })), I49, C62, sj hr2, rfl, lr, hS65.front2.front2, ho63⟩))))
 exact yi (yq ⟨s34, s36, I49, C_s36, sj hr2, rfl, lr, hS53, (OwnSl.mono h_s36 hl50)⟩)
 rintro _ w70 ⟨s66, s67, I56, C_s67, rfl, rfl, hl57, hS71, h_s67⟩
 exact yk (En.next (yaa nL3 (ya 0 3 rfl (WO.nil (yq ⟨(s66, (w64 (s35 + 1)), s67), (sj hr1).symm, I56, C_s67, rfl, le, hS71, h_s67⟩)))))
 refine yz (ym (yn ?_))
 obtain rfl := hext31 _ (sj hr1).symm
 refine yo (En.next (yd nL4 (yv ((cs_qTable ({ r14 with Cols := r14.Cols, Cons := s36, Idx := r14.Idx }) (⟨⟨w_r14.Cols.a, w_r14.Cols.c⟩, ⟨w_r14.Cons.a, w_r14.Cons.c⟩, ⟨w_r14.Idx.a, w_r14.Idx.c⟩⟩ : W_qTable))) (hS44.rf m1) rfl (ya 1 1 rfl ?_))))
 obtain ⟨I88, hl89, hS91, hp90⟩ := y6 h_s36 hS44.front2
 refine yx hS91 0 (cs_qTable ({ r14 with Cols := r14.Cols, Cons := s36, Idx := r14.Idx }) (⟨⟨w_r14.Cols.a, w_r14.Cols.c⟩, ⟨w_r14.Cons.a, w_r14.Cons.c⟩, ⟨w_r14.Idx.a, w_r14.Idx.c⟩⟩ : W_qTable)) fun w93 hS92 => ya 3 1 rfl (yb (W.ret ?_))
 have hk96 : ok_qTable I88 ({ r14 with Cols := r14.Cols, Cons := s36, Idx := r14.Idx }) (⟨⟨w_r14.Cols.a, w_r14.Cols.c⟩, ⟨w_r14.Cons.a, w_r14.Cons.c⟩, ⟨w_r14.Idx.a, w_r14.Idx.c⟩⟩ : W_qTable) := ⟨(RSl.mono hp22 ((hl26.trans hl33).trans hl89)), hp90, (RSl.mono hp27 (hl33.trans hl89))⟩
 obtain rfl := sj hr
 exact yan _ (hS92.rd m0) ⟨I88, (⟨⟨w_r14.Cols.a, w_r14.Cols.c⟩, ⟨w_r14.Cons.a, w_r14.Cons.c⟩, ⟨w_r14.Idx.a, w_r14.Idx.c⟩⟩ : W_qTable), rfl, le, hS92.drop.drop, hk96⟩
noncomputable def r17_renamed (p0 : qCatalog) (p1 : qTable) (p2 : ByteArray) : Option (qCatalog × qTable) := (r17_pointed p1 p1.Name p2).bind (fun (r22, r23) => (forE (fun (i46 : Nat) => fun (s45 : List qTable) => ((idx p0.Tables (i46 : Int)).bind (fun x67 => (r17_pointed x67 p1.Name p2).bind (fun (r77, r78) => some (r77, r78)))).bind (fun ((s81, s82) : qTable × Bool) => ((bif s82 then some { s81 with Version := (w64 (p0.Version + 1)) } else some s81)).bind (fun (j115 : qTable) => (idx p0.Tables (i46 : Int)).bind (fun x135 => ((bif (!sEq x135.Name p1.Name) then (app 112 s45 ([j115] : List qTable)).bind (fun x148 => some x148) else some s45)).bind (fun (j136 : List qTable) => some j136))))) p0.Tables.length 0 ([] : List qTable)).bind (fun s45 => (forE (fun (i179 : Nat) => fun (s178 : List qGrant) => (idx p0.Grants (i179 : Int)).bind (fun x195 => ((bif (sEq x195.Table p1.Name) then some { x195 with Table := p2 } else some x195)).bind (fun (j202 : qGrant) => (app 64 s178 ([j202] : List qGrant)).bind (fun x236 => some x236)))) p0.Grants.length 0 ([] : List qGrant)).bind (fun s178 => some ({ p0 with Tables := s45, Grants := s178 }, { r22 with Name := p2 }))))
theorem r17_renamed_ok {p0 : qCatalog} {p1 : qTable} {p2 : ByteArray} {w_p0 : W_qCatalog} {w_p1 : W_qTable} (h_p0 : ok_qCatalog I p0 w_p0) (h_p1 : ok_qTable I p1 w_p1) (hS : St E w I Os) {r : qCatalog × qTable} (hr : r17_renamed p0 p1 p2 = some r) :
    Calls P 52 #[(.agg (cs_qCatalog p0 w_p0).toArray), (.agg (cs_qTable p1 w_p1).toArray), (.string p2)] w (fun e w' => ∃ I' w_rw0 w_rw1, e = .returned (.tuple #[(.agg (cs_qCatalog r.1 w_rw0).toArray), (.agg (cs_qTable r.2 w_rw1).toArray)]) ∧ I.Le I' ∧ St E w' I' Os ∧ ok_qCatalog I' r.1 w_rw0 ∧ ok_qTable I' r.2 w_rw1) := by
 refine calls_W (fn := Tryz.f52) rfl rfl rfl ?_
 unfold r17_renamed at hr
 refine yd nL4 (yy hS (cs_qCatalog p0 w_p0) 29 rfl fun b1 w4 hS3 => yy hS3 (cs_qTable p1 w_p1) 89 rfl fun b5 w8 hS7 => yy hS7 (cs_qCatalog z_qCatalog zw_qCatalog) 29 rfl fun b9 w12 hS11 => yy hS11 (cs_qTable z_qTable zw_qTable) 89 rfl fun b13 w16 hS15 => y0 nL11 (yv ((cs_qTable p1 w_p1)) (hS15.rf m2) rfl (yc 1 1 [0] rfl (yg (hS15.rf m2) rfl (ya 3 1 rfl ?_)))))
 obtain ⟨⟨r22, r23⟩, hx_r17, hr⟩ := bsm hr
 refine yab (r17_pointed_ok h_p1 hS15 hx_r17) ?_
 rintro _ w18 ⟨I19, w_r22, rfl, hl20, hS21, h_r22⟩
 refine ⟨_, rfl, trivial, ?_⟩
 refine ya 5 3 rfl (yy hS21 (cs_qTable z_qTable zw_qTable) 89 rfl fun b24 w27 hS26 => yx hS26 0 (cs_qTable r22 w_r22) fun w29 hS28 => ya 10 1 rfl (y0 nL3 (yc 0 2 [0] rfl (yx hS28 0 (cs_qTable ({ r22 with Name := p2 }) w_r22) fun w31 hS30 => y0 nL3 (yv ((cs_qCatalog p0 w_p0)) (hS30.rf m4) rfl (yy hS30 (cs_qCatalog z_qCatalog zw_qCatalog) 29 rfl fun b32 w35 hS34 => yx hS34 0 (cs_qCatalog p0 w_p0) fun w37 hS36 => y0 nL2 (yc 0 1 [1] rfl (yx hS36 1 (cs_qCatalog ({ p0 with Tables := ([] : List qTable) }) ({ w_p0 with Tables := ⟨none, 0⟩ })) fun w39 hS38 => y0 nL2 (yc 0 1 [3] rfl (yx hS38 3 (cs_qCatalog ({ p0 with Tables := ([] : List qTable), Grants := ([] : List qGrant) }) ({ w_p0 with Tables := ⟨none, 0⟩, Grants := ⟨none, 0⟩ })) fun w41 hS40 => yb (yf (yd [0] (ya 0 1 rfl (yb (W.block (bsk hr fun s45 hloop47 hr => have hlt59 := ((RSl.mono h_p0.Tables hl20)).len_lt; W.wk (W.forE (m := p0.Tables.length) hloop47 (fun (i46 : Nat) => fun (s45 : List qTable) fr w => ∃ I43 a_s45 c_s45 C_s45, fr = [(2, .string p2), (3, Pt b1 0), (4, Pt b5 0), (6, Pt b9 0), (7, Pt b13 0), (8, Pt b24 0), (10, Pt b32 0), (11, Nv i46)] ∧ I19.Le I43 ∧ St E w I43 ((Bx b1 (cs_qCatalog p0 w_p0) 29) :: (Bx b5 (cs_qTable p1 w_p1) 89) :: (Bx b9 (cs_qCatalog z_qCatalog zw_qCatalog) 29) :: (Bx b13 (cs_qTable z_qTable zw_qTable) 89) :: (Bx b24 (cs_qTable ({ r22 with Name := p2 }) w_r22) 89) :: (Bx b32 (cs_qCatalog ({ p0 with Tables := s45, Grants := ([] : List qGrant) }) ({ w_p0 with Tables := ⟨a_s45, c_s45⟩, Grants := ⟨none, 0⟩ })) 29) :: (C_s45) :: Os) ∧ OwnSl 89 6 R_qTable I43 C_s45 a_s45 c_s45 s45) ⟨I19, none, 0, Mem.no, rfl, lr, hS40.no.front1.front2.front3.front4.front5.front6, OwnSl.nil⟩ ?_ ?_)))))))))))))))))
 rintro i46 s45 _ w56 hi60 ⟨I43, a_s45, c_s45, C_s45, rfl, hl44, hS57, h_s45⟩ x58 hr1
 refine yf (yd nL5 (yc 0 2 [1] rfl (yg (hS57.rf m0) rfl (ya 3 2 rfl (yb (yah fun _ => yi (En.next (yf (W.block (yf (bsk hr1 fun j61 hr2 hr1 => W.jw (J := (fun fr w => ∃ (s81 : qTable) (s82 : Bool), ∃ I63 w_s81 b_s81, (s81, s82) = j61 ∧ fr = [(2, .string p2), (3, Pt b1 0), (4, Pt b5 0), (6, Pt b9 0), (7, Pt b13 0), (8, Pt b24 0), (10, Pt b32 0), (11, Nv i46), (12, Pt b_s81 0), (13, .bool s82)] ∧ I43.Le I63 ∧ St E w I63 ((Bx b1 (cs_qCatalog p0 w_p0) 29) :: (Bx b5 (cs_qTable p1 w_p1) 89) :: (Bx b9 (cs_qCatalog z_qCatalog zw_qCatalog) 29) :: (Bx b13 (cs_qTable z_qTable zw_qTable) 89) :: (Bx b24 (cs_qTable ({ r22 with Name := p2 }) w_r22) 89) :: (Bx b32 (cs_qCatalog ({ p0 with Tables := s45, Grants := ([] : List qGrant) }) ({ w_p0 with Tables := ⟨a_s45, c_s45⟩, Grants := ⟨none, 0⟩ })) 29) :: (Bx b_s81 (cs_qTable s81 w_s81) 89) :: (C_s45) :: Os) ∧ ok_qTable I63 s81 w_s81)) ?_ ?_)))))))))))
 have hS65 := hS57.drew
 refine W.draws (.split 12 8 (.leaf [0, 1, 2, 3, 4, 5, 6, 7, 12, 8, 9, 10, 11, 13, 14]) (.leaf nL15)) 13 (KR I43 [Bx b1 (cs_qCatalog p0 w_p0) 29, Bx b5 (cs_qTable p1 w_p1) 89]) qR (.ords nL15 [0, 1, 2, 3, 4, 5, 6, 7, 8, 9, 10, 12, 13, 11, 14] (by kernel_rfl) (by kernel_rfl) (by kernel_rfl) (by kernel_rfl) (by kernel_rfl)) (by kernel_rfl) (KR.cons (hS65.rd m0) (KR.cons (hS65.rd m1) (KR.nil hS65.im))) ?_
 generalize World.drew _ = w66 at *
 refine ⟨?_, ?_⟩
 show WO _ _ _ _ _ _ _ [0, 1, 2, 3, 4, 5, 6, 7, 12, 8, 9, 10, 11, 13, 14] _ _
 refine yc 0 1 [1] rfl (yg (rd_c m0 (hS65.rd m0)) rfl (ya 2 1 rfl ?_))
 obtain ⟨x67, hr2, hb_x67, _, ⟨w_x67, rfl, h_x67⟩, hc_x67⟩ := sl_ix ((RSl.mono h_p0.Tables (hl20.trans hl44))) hr2
 refine y3 89 6 hb_x67 rfl (yak ((cs_qTable x67 w_x67)) hc_x67 0 (rd_i hS65.im) rfl (yc 5 1 [0] rfl (yg (rd_c m1 (hS65.rd m1)) rfl (ya 7 1 rfl (ya7 hS65 rfl (by kernel_rfl) rfl (.cells (cs_qTable z_qTable zw_qTable).toArray 89 (0, 0)) (fun b => .pointer (some ⟨b, 0, none⟩)) (by kernel_rfl) (fun b68 w71 hS70 => (KR.cons (hS70.rd m1) (KR.cons (hS70.rd m2) (KR.nil hS70.im)))) ?_)))))
 intro b68 w71 hS70
 obtain ⟨⟨r77, r78⟩, hx_r72, hr2⟩ := bsm hr2
 refine yab (r17_pointed_ok h_x67 hS70 hx_r72) ?_
 rintro _ w73 ⟨I74, w_r77, rfl, hl75, hS76, h_r77⟩
 refine ⟨_, rfl, (KR.cons (hS76.rd m1) (KR.cons (hS76.rd m2) (KR.nil (hS76.im.of_le hl75)))), ?_⟩
 exact ya 9 3 rfl (WO.tail rfl (yx hS76 0 (cs_qTable r77 w_r77) fun w80 hS79 => ya 14 1 rfl (WO.nil (yq ⟨r77, r78, I74, w_r77, b68, sj hr2, rfl, hl75, hS79.front7.front1.front7.front7.front7.front7.front7.front7, h_r77⟩))))
 show WO _ _ _ _ _ _ _ nL15 _ _
 refine yc 0 1 [1] rfl (yg (rd_c m0 (hS65.rd m0)) rfl (ya 2 1 rfl ?_))
 obtain ⟨x91, hr2, hb_x91, _, ⟨w_x91, rfl, h_x91⟩, hc_x91⟩ := sl_ix ((RSl.mono h_p0.Tables (hl20.trans hl44))) hr2
 refine y3 89 6 hb_x91 rfl (yak ((cs_qTable x91 w_x91)) hc_x91 0 (rd_i hS65.im) rfl (yc 5 1 [0] rfl (yg (rd_c m1 (hS65.rd m1)) rfl (ya 7 1 rfl ?_))))
 obtain ⟨⟨r97, r98⟩, hx_r92, hr2⟩ := bsm hr2
 refine yab (r17_pointed_ok h_x91 hS65 hx_r92) ?_
 rintro _ w93 ⟨I94, w_r97, rfl, hl95, hS96, h_r97⟩
 refine ⟨_, rfl, (KR.cons (hS96.rd m0) (KR.cons (hS96.rd m1) (KR.nil (hS96.im.of_le hl95)))), ?_⟩
 refine ya 9 3 rfl (ya7 hS96 rfl (by kernel_rfl) rfl (.cells (cs_qTable z_qTable zw_qTable).toArray 89 (0, 0)) (fun b => .pointer (some ⟨b, 0, none⟩)) (by kernel_rfl) (fun b99 w102 hS101 => (KR.cons (hS101.rd m1) (KR.cons (hS101.rd m2) (KR.nil (hS101.im.of_le hl95))))) ?_)
 intro b99 w102 hS101
 exact WO.tail rfl (yx hS101 0 (cs_qTable r97 w_r97) fun w104 hS103 => ya 14 1 rfl (WO.nil (yq ⟨r97, r98, I94, w_r97, b99, sj hr2, rfl, hl95, hS103.front7.front1.front7.front7.front7.front7.front7.front7, h_r97⟩)))
 rintro _ w113 ⟨s81, s82, I63, w_s81, b_s81, rfl, rfl, hl64, hS114, h_s81⟩
 refine En.next (yf (yd [0] (ya 0 1 rfl (yb (bsk hr1 fun j115 hr2 hr1 => W.jw (J := (fun fr w => ∃ I117 w_j115, fr = [(2, .string p2), (3, Pt b1 0), (4, Pt b5 0), (6, Pt b9 0), (7, Pt b13 0), (8, Pt b24 0), (10, Pt b32 0), (11, Nv i46), (12, Pt b_s81 0)] ∧ I63.Le I117 ∧ St E w I117 ((Bx b1 (cs_qCatalog p0 w_p0) 29) :: (Bx b5 (cs_qTable p1 w_p1) 89) :: (Bx b9 (cs_qCatalog z_qCatalog zw_qCatalog) 29) :: (Bx b13 (cs_qTable z_qTable zw_qTable) 89) :: (Bx b24 (cs_qTable ({ r22 with Name := p2 }) w_r22) 89) :: (Bx b32 (cs_qCatalog ({ p0 with Tables := s45, Grants := ([] : List qGrant) }) ({ w_p0 with Tables := ⟨a_s45, c_s45⟩, Grants := ⟨none, 0⟩ })) 29) :: (Bx b_s81 (cs_qTable j115 w_j115) 89) :: (C_s45) :: Os) ∧ ok_qTable I117 j115 w_j115)) ?_ ?_)))))
 refine W.cb hr2 (fun hc hr2 => ?_) (fun hc hr2 => ?_)
 refine yaa nL5 (yc 0 1 [0] rfl (yg (hS114.rf m0) rfl (yc 2 2 [2] rfl (yx hS114.front6 2 (cs_qTable ({ s81 with Version := (w64 (p0.Version + 1)) }) w_s81) fun w121 hS120 => WO.nil ?_))))
 have hk122 : ok_qTable I63 ({ s81 with Version := (w64 (p0.Version + 1)) }) w_s81 := ⟨h_s81.Cols, h_s81.Cons, h_s81.Idx⟩
 obtain rfl := sj hr2
 exact yq ⟨I63, w_s81, rfl, lr, hS120.front7.front1.front7.front7.front7.front7.front7.front7, hk122⟩
 refine yi ?_
 obtain rfl := sj hr2
 exact yq ⟨I63, w_s81, rfl, lr, hS114, h_s81⟩
 rintro _ w131 ⟨I117, w_j115, rfl, hl118, hS132, h_j115⟩
 refine En.next (yf (have hS133 := hS132.drew; yat nL9 8 (KR.cons (hS133.rd m0) (KR.cons (hS133.rd m1) (KR.nil hS133.im))) ?_))
 generalize World.drew _ = w134 at *
 refine yc 0 1 [1] rfl (yg (rd_c m0 (hS133.rd m0)) rfl (ya 2 1 rfl ?_))
 obtain ⟨x135, hr1, hb_x135, _, ⟨w_x135, rfl, h_x135⟩, hc_x135⟩ := sl_ix ((RSl.mono h_p0.Tables (((hl20.trans hl44).trans hl64).trans hl118))) hr1
 refine y3 89 6 hb_x135 rfl (yc 4 1 [0] rfl (yaf hc_x135 (rd_i hS133.im) rfl (yc 6 1 [0] rfl (yg (rd_c m1 (hS133.rd m1)) rfl (WO.tail rfl (ya 8 1 rfl (yb (bsk hr1 fun j136 hr2 hr1 => W.jw (J := (fun fr w => ∃ I138 a_j136 c_j136 C_j136, fr = [(2, .string p2), (3, Pt b1 0), (4, Pt b5 0), (6, Pt b9 0), (7, Pt b13 0), (8, Pt b24 0), (10, Pt b32 0), (11, Nv i46)] ∧ I117.Le I138 ∧ St E w I138 ((Bx b1 (cs_qCatalog p0 w_p0) 29) :: (Bx b5 (cs_qTable p1 w_p1) 89) :: (Bx b9 (cs_qCatalog z_qCatalog zw_qCatalog) 29) :: (Bx b13 (cs_qTable z_qTable zw_qTable) 89) :: (Bx b24 (cs_qTable ({ r22 with Name := p2 }) w_r22) 89) :: (Bx b32 (cs_qCatalog ({ p0 with Tables := j136, Grants := ([] : List qGrant) }) ({ w_p0 with Tables := ⟨a_j136, c_j136⟩, Grants := ⟨none, 0⟩ })) 29) :: (C_j136) :: Os) ∧ OwnSl 89 6 R_qTable I138 C_j136 a_j136 c_j136 j136)) ?_ ?_))))))))
 refine W.cb hr2 (fun hc hr2 => ?_) (fun hc hr2 => ?_)
 refine yaa nL7 (yc 0 1 [1] rfl (yg (hS133.rf m5) rfl (yv ((cs_qTable j115 w_j115)) (hS133.rf m6) rfl (y4 (rel := R_qTable) (xs := ([j115] : List qTable)) hS133 rfl (by kernel_rfl) rfl 89 6 [(cs_qTable j115 w_j115)] (by kernel_rfl) rfl ((Elr.cons ⟨w_j115, rfl, h_j115⟩ Elr.nil)) (fun _ _ _ => trivial) ?_))))
 intro a143 C141 w145 hS144 ho142
 have hS147 := hS144.front8
 obtain ⟨x148, hx_x148, hr2⟩ := bsm hr2
 obtain ⟨h0_x148, he_x148⟩ := app_some hx_x148
 refine yaj 89 112 (cs_qTable z_qTable zw_qTable) hS147 (OwnSl.mono h_s45 le) ho142.sl (hS147.rd m1) h0_x148 he_x148 rfl fun a149 c150 w151 C152 hS153 ho154 => yc 5 1 [1] rfl (yx hS153.front1.drop.front6 1 (cs_qCatalog ({ p0 with Tables := x148, Grants := ([] : List qGrant) }) ({ w_p0 with Tables := ⟨a149, c150⟩, Grants := ⟨none, 0⟩ })) fun w159 hS158 => WO.nil ?_)
 obtain rfl := sj hr2
 exact yq ⟨I117, a149, c150, C152, rfl, lr, hS158.front7.drop.front1.front1.front6.front6.front6.front6.front6, ho154⟩
 refine yi ?_
 obtain rfl := sj hr2
 exact yq ⟨I117, a_s45, c_s45, C_s45, rfl, lr, hS133.front6.drop, (OwnSl.mono h_s45 le)⟩
 rintro _ w171 ⟨I138, a_j136, c_j136, C_j136, rfl, hl139, hS172, h_j136⟩
 refine yk (En.next (yaa nL3 (ya 0 1 rfl (yae i46 rfl (ya 2 1 rfl (WO.nil ?_))))))
 obtain rfl := sj hr1
 exact yq ⟨I138, a_j136, c_j136, C_j136, rfl, le, hS172, h_j136⟩
 rintro _ w173 ⟨I43, a_s45, c_s45, C_s45, rfl, hl44, hS174, h_s45⟩
 refine yf (yd nL5 (yc 0 2 [1] rfl (yg (hS174.rf m0) rfl (ya 3 2 rfl (yb (yai fun _ => yz (ym (yn (yo (En.next (yf (yd [0] (ya 0 1 rfl (yb (W.block (bsk hr fun s178 hloop180 hr => have hlt193 := ((RSl.mono h_p0.Grants (hl20.trans hl44))).len_lt; W.wk (W.forE (m := p0.Grants.length) hloop180 (fun (i179 : Nat) => fun (s178 : List qGrant) fr w => ∃ I176 a_s178 c_s178 C_s178, fr = [(2, .string p2), (3, Pt b1 0), (4, Pt b5 0), (6, Pt b9 0), (7, Pt b13 0), (8, Pt b24 0), (10, Pt b32 0), (14, Nv i179)] ∧ I43.Le I176 ∧ St E w I176 ((Bx b1 (cs_qCatalog p0 w_p0) 29) :: (Bx b5 (cs_qTable p1 w_p1) 89) :: (Bx b9 (cs_qCatalog z_qCatalog zw_qCatalog) 29) :: (Bx b13 (cs_qTable z_qTable zw_qTable) 89) :: (Bx b24 (cs_qTable ({ r22 with Name := p2 }) w_r22) 89) :: (Bx b32 (cs_qCatalog ({ p0 with Tables := s45, Grants := s178 }) ({ w_p0 with Tables := ⟨a_s45, c_s45⟩, Grants := ⟨a_s178, c_s178⟩ })) 29) :: (C_s45) :: (C_s178) :: Os) ∧ OwnSl 67 5 R_qGrant I176 C_s178 a_s178 c_s178 s178) ⟨I43, none, 0, Mem.no, rfl, lr, hS174.no.front7.front7.front7.front7.front7.front7.front7, OwnSl.nil⟩ ?_ ?_)))))))))))))))))
 rintro i179 s178 _ w190 hi194 ⟨I176, a_s178, c_s178, C_s178, rfl, hl177, hS191, h_s178⟩ x192 hr1
 refine yf (yd nL5 (yc 0 2 [3] rfl (yg (hS191.rf m0) rfl (ya 3 2 rfl (yb (yah fun _ => yi (En.next (yf (W.block (yd nL7 (yc 0 1 [3] rfl (yg (hS191.rf m0) rfl (ya 2 1 rfl ?_)))))))))))))
 obtain ⟨x195, hr1, hb_x195, _, rfl, hc_x195⟩ := sl_ix ((RSl.mono h_p0.Grants ((hl20.trans hl44).trans hl177))) hr1
 refine y3 67 5 hb_x195 rfl (yak ((cs_qGrant x195)) hc_x195 0 hS191.rm rfl (yy hS191 (cs_qGrant z_qGrant) 67 rfl fun b196 w199 hS198 => yx hS198 0 (cs_qGrant x195) fun w201 hS200 => yb (yf (yd nL5 (yc 0 1 [2] rfl (yg (hS200.rf m0) rfl (yc 2 1 [0] rfl (yg (hS200.rf m2) rfl (ya 4 1 rfl (yb (bsk hr1 fun j202 hr2 hr1 => W.jw (J := (fun fr w => ∃ I204, fr = [(2, .string p2), (3, Pt b1 0), (4, Pt b5 0), (6, Pt b9 0), (7, Pt b13 0), (8, Pt b24 0), (10, Pt b32 0), (14, Nv i179), (15, Pt b196 0)] ∧ I176.Le I204 ∧ St E w I204 ((Bx b1 (cs_qCatalog p0 w_p0) 29) :: (Bx b5 (cs_qTable p1 w_p1) 89) :: (Bx b9 (cs_qCatalog z_qCatalog zw_qCatalog) 29) :: (Bx b13 (cs_qTable z_qTable zw_qTable) 89) :: (Bx b24 (cs_qTable ({ r22 with Name := p2 }) w_r22) 89) :: (Bx b32 (cs_qCatalog ({ p0 with Tables := s45, Grants := s178 }) ({ w_p0 with Tables := ⟨a_s45, c_s45⟩, Grants := ⟨a_s178, c_s178⟩ })) 29) :: (Bx b196 (cs_qGrant j202) 67) :: (C_s45) :: (C_s178) :: Os))) ?_ ?_)))))))))))
 refine W.cb hr2 (fun hc hr2 => ?_) (fun hc hr2 => ?_)
 refine yaa nL3 (yc 0 2 [2] rfl (yx hS200 2 (cs_qGrant ({ x195 with Table := p2 })) fun w207 hS206 => WO.nil ?_))
 obtain rfl := sj hr2
 exact yq ⟨I176, rfl, lr, hS206.front8.front8.front2.front8.front8.front8.front8.front8.front8⟩
 refine yi ?_
 obtain rfl := sj hr2
 exact yq ⟨I176, rfl, lr, hS200.front8.front8.front2.front8.front8.front8.front8.front8.front8⟩
 rintro _ w226 ⟨I204, rfl, hl205, hS227⟩
 refine En.next (yaa nL7 (yc 0 1 [3] rfl (yg (hS227.rf m5) rfl (yv ((cs_qGrant j202)) (hS227.rf m6) rfl (y4 (rel := R_qGrant) (xs := ([j202] : List qGrant)) hS227 rfl (by kernel_rfl) rfl 67 5 [(cs_qGrant j202)] (by kernel_rfl) rfl ((Elr.cons rfl Elr.nil)) (fun _ _ _ => trivial) ?_)))))
 intro a231 C229 w233 hS232 ho230
 have hS235 := hS232.front9
 obtain ⟨x236, hx_x236, hr1⟩ := bsm hr1
 obtain ⟨h0_x236, he_x236⟩ := app_some hx_x236
 refine yaj 67 64 (cs_qGrant z_qGrant) hS235 (OwnSl.mono h_s178 hl205) ho230.sl (hS235.rd m1) h0_x236 he_x236 rfl fun a237 c238 w239 C240 hS241 ho242 => yc 5 1 [3] rfl (yx hS241.front1.drop.front6 3 (cs_qCatalog ({ p0 with Tables := s45, Grants := x236 }) ({ w_p0 with Tables := ⟨a_s45, c_s45⟩, Grants := ⟨a237, c238⟩ })) fun w247 hS246 => WO.nil (yk (En.next (yaa nL3 (ya 0 1 rfl (yae i179 rfl (ya 2 1 rfl (WO.nil ?_))))))))
 obtain rfl := sj hr1
 exact yq ⟨I204, a237, c238, C240, rfl, le, hS246.front7.drop.front1.front7.front2.front7.front7.front7.front7.front7, ho242⟩
 rintro _ w258 ⟨I176, a_s178, c_s178, C_s178, rfl, hl177, hS259, h_s178⟩
 refine yf (yd nL5 (yc 0 2 [3] rfl (yg (hS259.rf m0) rfl (ya 3 2 rfl (yb (yai fun _ => yz (ym (yn (yo (En.next (yf (have hS260 := hS259.drew; ya6 (l := nL4) (by kernel_rfl) 3 (KR I176 [Bx b24 (cs_qTable ({ r22 with Name := p2 }) w_r22) 89, Bx b32 (cs_qCatalog ({ p0 with Tables := s45, Grants := s178 }) ({ w_p0 with Tables := ⟨a_s45, c_s45⟩, Grants := ⟨a_s178, c_s178⟩ })) 29]) qR (.ords nL4 [0, 2, 1, 3] (by kernel_rfl) (by kernel_rfl) (by kernel_rfl) (by kernel_rfl) (by kernel_rfl)) (by kernel_rfl) (KR.cons (hS260.rd m4) (KR.cons (hS260.rd m5) (KR.nil hS260.im))) ?_))))))))))))
 generalize World.drew _ = w261 at *
 refine yv ((cs_qCatalog ({ p0 with Tables := s45, Grants := s178 }) ({ w_p0 with Tables := ⟨a_s45, c_s45⟩, Grants := ⟨a_s178, c_s178⟩ }))) (rd_c m1 (hS260.rd m5)) rfl (yv ((cs_qTable ({ r22 with Name := p2 }) w_r22)) (rd_c m0 (hS260.rd m4)) rfl ?_)
 obtain ⟨I263, hl264, hS266, hp265⟩ := y6 (h_s45.mono hl177) hS260.front6
 obtain ⟨I268, hl269, hS271, hp270⟩ := y6 (h_s178.mono hl264) hS266.front6
 refine ya8 hS271.front2 rfl (by kernel_rfl) rfl 0 rfl rfl (by kernel_rfl) (by kernel_rfl) (by kernel_rfl) ((cs_qCatalog ({ p0 with Tables := s45, Grants := s178 }) ({ w_p0 with Tables := ⟨a_s45, c_s45⟩, Grants := ⟨a_s178, c_s178⟩ })).toArray) (by kernel_rfl) (fun w274 hS273 => (KR.cons (hS273.rd m4) (KR.cons (hS273.rd m5) (KR.nil (hS273.im.of_le le))))) ?_
 intro w274 hS273
 refine WO.tail rfl (yx hS273.front3 0 (cs_qTable ({ r22 with Name := p2 }) w_r22) fun w277 hS276 => yb (W.ret ?_))
 have hk284 : ok_qCatalog I268 ({ p0 with Tables := s45, Grants := s178 }) ({ w_p0 with Tables := ⟨a_s45, c_s45⟩, Grants := ⟨a_s178, c_s178⟩ }) := ⟨(RSl.mono hp265 hl269), (RSl.mono h_p0.Roles ((((hl20.trans hl44).trans hl177).trans hl264).trans hl269)), hp270⟩
 have hk285 : ok_qTable I268 ({ r22 with Name := p2 }) w_r22 := ⟨(RSl.mono h_r22.Cols (((hl44.trans hl177).trans hl264).trans hl269)), (RSl.mono h_r22.Cons (((hl44.trans hl177).trans hl264).trans hl269)), (RSl.mono h_r22.Idx (((hl44.trans hl177).trans hl264).trans hl269))⟩
 obtain rfl := sj hr
 exact En.retc2 rfl (.agg (cs_qCatalog ({ p0 with Tables := s45, Grants := s178 }) ({ w_p0 with Tables := ⟨a_s45, c_s45⟩, Grants := ⟨a_s178, c_s178⟩ })).toArray) (.agg (cs_qTable ({ r22 with Name := p2 }) w_r22).toArray) ⟨_, _, rfl, run_loadVarN (cs := (cs_qCatalog ({ p0 with Tables := s45, Grants := s178 }) ({ w_p0 with Tables := ⟨a_s45, c_s45⟩, Grants := ⟨a_s178, c_s178⟩ }))) (by kernel_rfl) (by kernel_rfl) (cells_one (hS276.rd m1) (by kernel_rfl))⟩ ⟨_, _, rfl, run_loadVarN (cs := (cs_qTable ({ r22 with Name := p2 }) w_r22)) (by kernel_rfl) (by kernel_rfl) (cells_one (hS276.rd m0) (by kernel_rfl))⟩ ⟨I268, ({ w_p0 with Tables := ⟨a_s45, c_s45⟩, Grants := ⟨a_s178, c_s178⟩ }), w_r22, rfl, le, hS276.drop.drop.drop.drop.drop.drop, hk284, hk285⟩
def r14_Names (p0 : qTable) : Option ((List ByteArray) × (List ByteArray)) := (forE (fun (i9 : Nat) => fun (s8 : List ByteArray) => (idx p0.Cols (i9 : Int)).bind (fun x19 => (app 16 s8 ([x19.Name] : List ByteArray)).bind (fun x28 => some x28))) p0.Cols.length 0 ([] : List ByteArray)).bind (fun s8 => (forE (fun (i44 : Nat) => fun (s43 : List ByteArray) => (idx p0.Cons (i44 : Int)).bind (fun x55 => (app 16 s43 ([x55.Name] : List ByteArray)).bind (fun x64 => some x64))) p0.Cons.length 0 ([] : List ByteArray)).bind (fun s43 => (forE (fun (i81 : Nat) => fun (s80 : List ByteArray) => (idx p0.Idx (i81 : Int)).bind (fun x88 => (app 16 s80 ([x88.Name] : List ByteArray)).bind (fun x97 => some x97))) p0.Idx.length 0 s43).bind (fun s80 => some (s8, s80))))
theorem r14_Names_ok {p0 : qTable} {w_p0 : W_qTable} (h_p0 : ok_qTable I p0 w_p0) (hS : St E w I Os) {r : (List ByteArray) × (List ByteArray)} (hr : r14_Names p0 = some r) :
    Calls P 86 #[(.agg (cs_qTable p0 w_p0).toArray)] w (fun e w' => ∃ (I' : Mem) (ra0 : Option Addr) (rc0 : Nat) (ra1 : Option Addr) (rc1 : Nat), e = .returned (.tuple #[(Sl ra0 r.1 rc0), (Sl ra1 r.2 rc1)]) ∧ I.Le I' ∧ St E w' I' Os ∧ RSl 1 RStr I' ra0 rc0 r.1 ∧ RSl 1 RStr I' ra1 rc1 r.2) := by
 refine calls_W (fn := Tryz.f86) rfl rfl rfl ?_
 unfold r14_Names at hr
 refine yd nL3 (yy hS (cs_qTable p0 w_p0) 89 rfl fun b1 w4 hS3 => WO.vs 1 [(2, .slice none 0 0), (3, .slice none 0 0)] (y0 nL2 (WO.vs 0 [(4, .slice none 0 0), (5, .slice none 0 0)] (yb (yf (yd [0] (ya 0 1 rfl (yb (W.block (bsk hr fun s8 hloop10 hr => have hlt17 := (h_p0.Cols).len_lt; W.wk (W.forE (m := p0.Cols.length) hloop10 (fun (i9 : Nat) => fun (s8 : List ByteArray) fr w => ∃ I6 a_s8 c_s8 C_s8, fr = [(1, Pt b1 0), (4, Sl a_s8 s8 c_s8), (5, .slice none 0 0), (6, Nv i9)] ∧ I.Le I6 ∧ St E w I6 ((Bx b1 (cs_qTable p0 w_p0) 89) :: (C_s8) :: Os) ∧ OwnSl 9 1 RStr I6 C_s8 a_s8 c_s8 s8) ⟨I, none, 0, Mem.no, rfl, lr, hS3.no.front1, OwnSl.nil⟩ ?_ ?_)))))))))))
 rintro i9 s8 _ w14 hi18 ⟨I6, a_s8, c_s8, C_s8, rfl, hl7, hS15, h_s8⟩ x16 hr1
 refine yf (yd nL5 (yc 0 2 [3] rfl (yg (hS15.rf m0) rfl (ya 3 2 rfl (yb (yah fun _ => yi (En.next (yf (W.block (yaa nL10 (yc 0 2 [3] rfl (yg (hS15.rf m0) rfl (ya 3 1 rfl ?_)))))))))))))
 obtain ⟨x19, hr1, hb_x19, _, rfl, hc_x19⟩ := sl_ix ((RSl.mono h_p0.Cols hl7)) hr1
 refine y3 73 3 hb_x19 rfl (yc 5 1 [0] rfl (yaf hc_x19 hS15.rm rfl (y4 (rel := RStr) (xs := ([x19.Name] : List ByteArray)) hS15 rfl (by kernel_rfl) rfl 9 1 [[(.string x19.Name)]] (by kernel_rfl) rfl ((Elr.cons rfl Elr.nil)) (fun _ _ _ => trivial) ?_)))
 intro a23 C21 w25 hS24 ho22
 have hS27 := hS24.front2
 obtain ⟨x28, hx_x28, hr1⟩ := bsm hr1
 obtain ⟨h0_x28, he_x28⟩ := app_some hx_x28
 refine yaj 9 16 [(.string (⟨#[]⟩ : ByteArray))] hS27 h_s8 ho22.sl (hS27.rd m1) h0_x28 he_x28 rfl fun a29 c30 w31 C32 hS33 ho34 => ya 9 1 rfl (WO.nil (yk (En.next (yaa nL3 (ya 0 1 rfl (yae i9 rfl (ya 2 1 rfl (WO.nil ?_))))))))
 obtain rfl := sj hr1
 exact yq ⟨I6, a29, c30, C32, rfl, hl7, hS33.front1.drop.front1, ho34⟩
 rintro _ w38 ⟨I6, a_s8, c_s8, C_s8, rfl, hl7, hS39, h_s8⟩
 refine yf (yd nL5 (yc 0 2 [3] rfl (yg (hS39.rf m0) rfl (ya 3 2 rfl (yb (yai fun _ => yz (ym (yn (yo (En.next (yf (yd [0] (ya 0 1 rfl (yb (W.block (bsk hr fun s43 hloop45 hr => have hlt53 := ((RSl.mono h_p0.Cons hl7)).len_lt; W.wk (W.forE (m := p0.Cons.length) hloop45 (fun (i44 : Nat) => fun (s43 : List ByteArray) fr w => ∃ I41 a_s43 c_s43 C_s43, fr = [(1, Pt b1 0), (4, Sl a_s8 s8 c_s8), (5, Sl a_s43 s43 c_s43), (7, Nv i44)] ∧ I6.Le I41 ∧ St E w I41 ((Bx b1 (cs_qTable p0 w_p0) 89) :: (C_s8) :: (C_s43) :: Os) ∧ OwnSl 9 1 RStr I41 C_s43 a_s43 c_s43 s43) ⟨I6, none, 0, Mem.no, rfl, lr, hS39.no.front2.front2, OwnSl.nil⟩ ?_ ?_)))))))))))))))))
 rintro i44 s43 _ w50 hi54 ⟨I41, a_s43, c_s43, C_s43, rfl, hl42, hS51, h_s43⟩ x52 hr1
 refine yf (yd nL5 (yc 0 2 [4] rfl (yg (hS51.rf m0) rfl (ya 3 2 rfl (yb (yah fun _ => yi (En.next (yf (W.block (yaa nL10 (yc 0 2 [4] rfl (yg (hS51.rf m0) rfl (ya 3 1 rfl ?_)))))))))))))
 obtain ⟨x55, hr1, hb_x55, _, ⟨w_x55, rfl, h_x55⟩, hc_x55⟩ := sl_ix ((RSl.mono h_p0.Cons (hl7.trans hl42))) hr1
 refine y3 100 12 hb_x55 rfl (yc 5 1 [0] rfl (yaf hc_x55 hS51.rm rfl (y4 (rel := RStr) (xs := ([x55.Name] : List ByteArray)) hS51 rfl (by kernel_rfl) rfl 9 1 [[(.string x55.Name)]] (by kernel_rfl) rfl ((Elr.cons rfl Elr.nil)) (fun _ _ _ => trivial) ?_)))
 intro a59 C57 w61 hS60 ho58
 have hS63 := hS60.front3
 obtain ⟨x64, hx_x64, hr1⟩ := bsm hr1
 obtain ⟨h0_x64, he_x64⟩ := app_some hx_x64
 refine yaj 9 16 [(.string (⟨#[]⟩ : ByteArray))] hS63 h_s43 ho58.sl (hS63.rd m1) h0_x64 he_x64 rfl fun a65 c66 w67 C68 hS69 ho70 => ya 9 1 rfl (WO.nil (yk (En.next (yaa nL3 (ya 0 1 rfl (yae i44 rfl (ya 2 1 rfl (WO.nil ?_))))))))
 obtain rfl := sj hr1
 exact yq ⟨I41, a65, c66, C68, rfl, hl42, hS69.front1.drop.front2.front2, ho70⟩
 rintro _ w75 ⟨I41, a_s43, c_s43, C_s43, rfl, hl42, hS76, h_s43⟩
 refine yf (yd nL5 (yc 0 2 [4] rfl (yg (hS76.rf m0) rfl (ya 3 2 rfl (yb (yai fun _ => yz (ym (yn (yo (En.next (yf (yd [0] (ya 0 1 rfl (yb (W.block (bsk hr fun s80 hloop82 hr => have hlt86 := ((RSl.mono h_p0.Idx (hl7.trans hl42))).len_lt; W.wk (W.forE (m := p0.Idx.length) hloop82 (fun (i81 : Nat) => fun (s80 : List ByteArray) fr w => ∃ I78 a_s80 c_s80 C_s80, fr = [(1, Pt b1 0), (4, Sl a_s8 s8 c_s8), (5, Sl a_s80 s80 c_s80), (8, Nv i81)] ∧ I41.Le I78 ∧ St E w I78 ((Bx b1 (cs_qTable p0 w_p0) 89) :: (C_s8) :: (C_s80) :: Os) ∧ OwnSl 9 1 RStr I78 C_s80 a_s80 c_s80 s80) ⟨I41, a_s43, c_s43, C_s43, rfl, lr, hS76, h_s43⟩ ?_ ?_)))))))))))))))))
 rintro i81 s80 _ w83 hi87 ⟨I78, a_s80, c_s80, C_s80, rfl, hl79, hS84, h_s80⟩ x85 hr1
 refine yf (yd nL5 (yc 0 2 [5] rfl (yg (hS84.rf m0) rfl (ya 3 2 rfl (yb (yah fun _ => yi (En.next (yf (W.block (yaa nL10 (yc 0 2 [5] rfl (yg (hS84.rf m0) rfl (ya 3 1 rfl ?_)))))))))))))
 obtain ⟨x88, hr1, hb_x88, _, ⟨w_x88, rfl, h_x88⟩, hc_x88⟩ := sl_ix ((RSl.mono h_p0.Idx ((hl7.trans hl42).trans hl79))) hr1
 refine y3 124 2 hb_x88 rfl (yc 5 1 [0] rfl (yaf hc_x88 hS84.rm rfl (y4 (rel := RStr) (xs := ([x88.Name] : List ByteArray)) hS84 rfl (by kernel_rfl) rfl 9 1 [[(.string x88.Name)]] (by kernel_rfl) rfl ((Elr.cons rfl Elr.nil)) (fun _ _ _ => trivial) ?_)))
 intro a92 C90 w94 hS93 ho91
 have hS96 := hS93.front3
 obtain ⟨x97, hx_x97, hr1⟩ := bsm hr1
 obtain ⟨h0_x97, he_x97⟩ := app_some hx_x97
 refine yaj 9 16 [(.string (⟨#[]⟩ : ByteArray))] hS96 h_s80 ho91.sl (hS96.rd m1) h0_x97 he_x97 rfl fun a98 c99 w100 C101 hS102 ho103 => ya 9 1 rfl (WO.nil (yk (En.next (yaa nL3 (ya 0 1 rfl (yae i81 rfl (ya 2 1 rfl (WO.nil ?_))))))))
 obtain rfl := sj hr1
 exact yq ⟨I78, a98, c99, C101, rfl, hl79, hS102.front1.drop.front2.front2, ho103⟩
 rintro _ w108 ⟨I78, a_s80, c_s80, C_s80, rfl, hl79, hS109, h_s80⟩
 refine yf (yd nL5 (yc 0 2 [5] rfl (yg (hS109.rf m0) rfl (ya 3 2 rfl (yb (yai fun _ => yz (ym (yn (yo (En.next (yd nL4 (ya 0 2 rfl ?_))))))))))))
 obtain ⟨I111, hl112, hS114, hp113⟩ := y6 (h_s8.mono (hl42.trans hl79)) hS109.front1
 refine ya 2 1 rfl ?_
 obtain ⟨I116, hl117, hS119, hp118⟩ := y6 (h_s80.mono hl112) hS114.front1
 refine ya 3 1 rfl (yb (W.ret ?_))
 obtain rfl := sj hr
 exact yam ⟨I116, a_s8, c_s8, a_s80, c_s80, rfl, le, hS119.drop, (RSl.mono hp113 hl117), hp118⟩
def r14_Col (p0 : qTable) (p1 : ByteArray) : Option Int := (forN (fun (i8 : Nat) => fun (_s : Unit) => (idx p0.Cols (i8 : Int)).bind (fun x15 => (bif (sEq x15.Name p1) then some (.inr (i8 : Int)) else some (.inl ())))) p0.Cols.length 0 ()).bind (fun (t : Unit ⊕ (Int)) => match t with | .inl _ => some (-1) | .inr s17 => some s17)
theorem r14_Col_ok {p0 : qTable} {p1 : ByteArray} {w_p0 : W_qTable} (h_p0 : ok_qTable I p0 w_p0) (hS : St E w I Os) {r : Int} (hr : r14_Col p0 p1 = some r) :
    Calls P 87 #[(.agg (cs_qTable p0 w_p0).toArray), (.string p1)] w (fun e w' => ∃ I', e = .returned (Iv r) ∧ I.Le I' ∧ St E w' I' Os) := by
 refine calls_W (fn := Tryz.f87) rfl rfl rfl ?_
 unfold r14_Col at hr
 refine yd nL2 (yy hS (cs_qTable p0 w_p0) 89 rfl fun b1 w4 hS3 => ya 1 1 rfl (yb (yf (yd [0] (ya 0 1 rfl (yb (W.block (bsk hr fun t5 hloop9 hr => have hlt13 := (h_p0.Cols).len_lt; W.wk (W.forN (m := p0.Cols.length) hloop9 (fun (i8 : Nat) => fun (_s : Unit) fr w => ∃ I6, fr = [(1, .string p1), (2, Pt b1 0), (5, Nv i8)] ∧ I.Le I6 ∧ St E w I6 ((Bx b1 (cs_qTable p0 w_p0) 89) :: Os)) ⟨I, rfl, lr, hS3⟩ ?_ ?_)))))))))
 rintro i8 _ _ w10 hi14 ⟨I6, rfl, hl7, hS11⟩ x12 hr1 hext5
 refine yf (yd nL5 (yc 0 2 [3] rfl (yg (hS11.rf m0) rfl (ya 3 2 rfl (yb (yah fun _ => yi (En.next (yf (W.block (yd nL8 (yc 0 1 [3] rfl (yg (hS11.rf m0) rfl (ya 2 1 rfl ?_)))))))))))))
 obtain ⟨x15, hr1, hb_x15, _, rfl, hc_x15⟩ := sl_ix ((RSl.mono h_p0.Cols hl7)) hr1
 refine y3 73 3 hb_x15 rfl (yc 4 1 [0] rfl (yaf hc_x15 hS11.rm rfl (ya 6 2 rfl (yb (W.cb hr1 (fun hc hr1 => ?_) (fun hc hr1 => ?_))))))
 refine yd nL2 (ya 0 2 rfl (yb (W.ret (yj (ye (yp ?_))))))
 obtain rfl := hext5 _ (sj hr1).symm
 refine yj (ye ?_)
 obtain rfl := sj hr
 exact yu ⟨I6, rfl, hl7, hS11.drop⟩
 exact yi (yk (En.next (yaa nL3 (ya 0 1 rfl (yae i8 rfl (ya 2 1 rfl (WO.nil (yq ⟨(), (sj hr1).symm, I6, rfl, hl7, hS11⟩))))))))
 rintro _ _ w20 ⟨I6, rfl, hl7, hS21⟩ he
 cases he
 refine yf (yd nL5 (yc 0 2 [3] rfl (yg (hS21.rf m0) rfl (ya 3 2 rfl (yb (yai fun _ => yz (ym (yn (yo (En.next (yd [0] (ya 0 1 rfl (yb (W.ret ?_))))))))))))))
 obtain rfl := sj hr
 exact yu ⟨I6, rfl, hl7, hS21.drop⟩
def r14_lists (p0 : qTable) : Option (List (List ByteArray)) := (forE (fun (i9 : Nat) => fun (s8 : List (List ByteArray)) => (idx p0.Cons (i9 : Int)).bind (fun x19 => (app 24 s8 ([x19.Cols] : List (List ByteArray))).bind (fun x28 => some x28))) p0.Cons.length 0 ([] : List (List ByteArray))).bind (fun s8 => (forE (fun (i44 : Nat) => fun (s43 : List (List ByteArray)) => (idx p0.Idx (i44 : Int)).bind (fun x51 => (app 24 s43 ([x51.Cols] : List (List ByteArray))).bind (fun x60 => some x60))) p0.Idx.length 0 s8).bind (fun s43 => some s43))
theorem r14_lists_ok {p0 : qTable} {w_p0 : W_qTable} (h_p0 : ok_qTable I p0 w_p0) (hS : St E w I Os) {r : (List (List ByteArray))} (hr : r14_lists p0 = some r) :
    Calls P 122 #[(.agg (cs_qTable p0 w_p0).toArray)] w (fun e w' => ∃ (I' : Mem) (ra0 : Option Addr) (rc0 : Nat), e = .returned (Sl ra0 r rc0) ∧ I.Le I' ∧ St E w' I' Os ∧ RSl 1 (RSlC 1 RStr) I' ra0 rc0 r) := by
 refine calls_W (fn := Tryz.f122) rfl rfl rfl ?_
 unfold r14_lists at hr
 refine yd nL2 (yy hS (cs_qTable p0 w_p0) 89 rfl fun b1 w4 hS3 => yh 1 2 (.slice none 0 0) (y0 [0] (yh 0 3 (.slice none 0 0) (yb (yf (yd [0] (ya 0 1 rfl (yb (W.block (bsk hr fun s8 hloop10 hr => have hlt17 := (h_p0.Cons).len_lt; W.wk (W.forE (m := p0.Cons.length) hloop10 (fun (i9 : Nat) => fun (s8 : List (List ByteArray)) fr w => ∃ I6 a_s8 c_s8 C_s8, fr = [(1, Pt b1 0), (3, Sl a_s8 s8 c_s8), (4, Nv i9)] ∧ I.Le I6 ∧ St E w I6 ((Bx b1 (cs_qTable p0 w_p0) 89) :: (C_s8) :: Os) ∧ OwnSl 33 1 (RSlC 1 RStr) I6 C_s8 a_s8 c_s8 s8) ⟨I, none, 0, Mem.no, rfl, lr, hS3.no.front1, OwnSl.nil⟩ ?_ ?_)))))))))))
 rintro i9 s8 _ w14 hi18 ⟨I6, a_s8, c_s8, C_s8, rfl, hl7, hS15, h_s8⟩ x16 hr1
 refine yf (yd nL5 (yc 0 2 [4] rfl (yg (hS15.rf m0) rfl (ya 3 2 rfl (yb (yah fun _ => yi (En.next (yf (W.block (yaa nL10 (yc 0 2 [4] rfl (yg (hS15.rf m0) rfl (ya 3 1 rfl ?_)))))))))))))
 obtain ⟨x19, hr1, hb_x19, _, ⟨w_x19, rfl, h_x19⟩, hc_x19⟩ := sl_ix ((RSl.mono h_p0.Cons hl7)) hr1
 refine y3 100 12 hb_x19 rfl (yc 5 1 [2] rfl (yal hc_x19 2 hS15.rm rfl (y4 (rel := (RSlC 1 RStr)) (xs := ([x19.Cols] : List (List ByteArray))) hS15 rfl (by kernel_rfl) rfl 33 1 [[(Sl w_x19.Cols.a x19.Cols w_x19.Cols.c)]] (by kernel_rfl) rfl ((Elr.cons ⟨w_x19.Cols.a, w_x19.Cols.c, rfl, h_x19.Cols⟩ Elr.nil)) (fun _ _ _ => trivial) ?_)))
 intro a23 C21 w25 hS24 ho22
 have hS27 := hS24.front2
 obtain ⟨x28, hx_x28, hr1⟩ := bsm hr1
 obtain ⟨h0_x28, he_x28⟩ := app_some hx_x28
 refine yaj 33 24 [(.slice none 0 0)] hS27 h_s8 ho22.sl (hS27.rd m1) h0_x28 he_x28 rfl fun a29 c30 w31 C32 hS33 ho34 => ya 9 1 rfl (WO.nil (yk (En.next (yaa nL3 (ya 0 1 rfl (yae i9 rfl (ya 2 1 rfl (WO.nil ?_))))))))
 obtain rfl := sj hr1
 exact yq ⟨I6, a29, c30, C32, rfl, hl7, hS33.front1.drop.front1, ho34⟩
 rintro _ w38 ⟨I6, a_s8, c_s8, C_s8, rfl, hl7, hS39, h_s8⟩
 refine yf (yd nL5 (yc 0 2 [4] rfl (yg (hS39.rf m0) rfl (ya 3 2 rfl (yb (yai fun _ => yz (ym (yn (yo (En.next (yf (yd [0] (ya 0 1 rfl (yb (W.block (bsk hr fun s43 hloop45 hr => have hlt49 := ((RSl.mono h_p0.Idx hl7)).len_lt; W.wk (W.forE (m := p0.Idx.length) hloop45 (fun (i44 : Nat) => fun (s43 : List (List ByteArray)) fr w => ∃ I41 a_s43 c_s43 C_s43, fr = [(1, Pt b1 0), (3, Sl a_s43 s43 c_s43), (5, Nv i44)] ∧ I6.Le I41 ∧ St E w I41 ((Bx b1 (cs_qTable p0 w_p0) 89) :: (C_s43) :: Os) ∧ OwnSl 33 1 (RSlC 1 RStr) I41 C_s43 a_s43 c_s43 s43) ⟨I6, a_s8, c_s8, C_s8, rfl, lr, hS39, h_s8⟩ ?_ ?_)))))))))))))))))
 rintro i44 s43 _ w46 hi50 ⟨I41, a_s43, c_s43, C_s43, rfl, hl42, hS47, h_s43⟩ x48 hr1
 refine yf (yd nL5 (yc 0 2 [5] rfl (yg (hS47.rf m0) rfl (ya 3 2 rfl (yb (yah fun _ => yi (En.next (yf (W.block (yaa nL10 (yc 0 2 [5] rfl (yg (hS47.rf m0) rfl (ya 3 1 rfl ?_)))))))))))))
 obtain ⟨x51, hr1, hb_x51, _, ⟨w_x51, rfl, h_x51⟩, hc_x51⟩ := sl_ix ((RSl.mono h_p0.Idx (hl7.trans hl42))) hr1
 refine y3 124 2 hb_x51 rfl (yc 5 1 [1] rfl (yal hc_x51 1 hS47.rm rfl (y4 (rel := (RSlC 1 RStr)) (xs := ([x51.Cols] : List (List ByteArray))) hS47 rfl (by kernel_rfl) rfl 33 1 [[(Sl w_x51.Cols.a x51.Cols w_x51.Cols.c)]] (by kernel_rfl) rfl ((Elr.cons ⟨w_x51.Cols.a, w_x51.Cols.c, rfl, h_x51.Cols⟩ Elr.nil)) (fun _ _ _ => trivial) ?_)))
 intro a55 C53 w57 hS56 ho54
 have hS59 := hS56.front2
 obtain ⟨x60, hx_x60, hr1⟩ := bsm hr1
 obtain ⟨h0_x60, he_x60⟩ := app_some hx_x60
 refine yaj 33 24 [(.slice none 0 0)] hS59 h_s43 ho54.sl (hS59.rd m1) h0_x60 he_x60 rfl fun a61 c62 w63 C64 hS65 ho66 => ya 9 1 rfl (WO.nil (yk (En.next (yaa nL3 (ya 0 1 rfl (yae i44 rfl (ya 2 1 rfl (WO.nil ?_))))))))
 obtain rfl := sj hr1
 exact yq ⟨I41, a61, c62, C64, rfl, hl42, hS65.front1.drop.front1, ho66⟩
 rintro _ w70 ⟨I41, a_s43, c_s43, C_s43, rfl, hl42, hS71, h_s43⟩
 refine yf (yd nL5 (yc 0 2 [5] rfl (yg (hS71.rf m0) rfl (ya 3 2 rfl (yb (yai fun _ => yz (ym (yn (yo (En.next (yd nL2 (ya 0 1 rfl ?_))))))))))))
 obtain ⟨I73, hl74, hS76, hp75⟩ := y6 h_s43 hS71.front1
 refine ya 1 1 rfl (yb (W.ret ?_))
 obtain rfl := sj hr
 exact yu ⟨I73, a_s43, c_s43, rfl, le, hS76.drop, hp75⟩
def r10_Parts_fu : Nat → qExpr → Option (List qExpr)
  | 0, _ => none
  | fu + 1, p0 => (forE (fun (i16 : Nat) => fun (s15 : List qExpr) => (idx p0.Kids (i16 : Int)).bind (fun x24 => (r10_Parts_fu fu x24).bind (fun r30 => (app 88 s15 r30).bind (fun x32 => some x32)))) p0.Kids.length 0 ([p0] : List qExpr)).bind (fun s15 => some s15)
noncomputable def r10_Parts (p0 : qExpr) : Option (List qExpr) := anyFuel (fun fu => r10_Parts_fu fu p0)
theorem r10_Parts_fu_ok : ∀ (fu : Nat) {E w : World} {I : Mem} {Os : List Mem} {p0 : qExpr} {w_p0 : W_qExpr} (h_p0 : ok_qExpr I p0 w_p0) (hS : St E w I Os) {r : (List qExpr)} (hr : r10_Parts_fu fu p0 = some r),
    Calls P 152 #[(.agg (cs_qExpr p0 w_p0).toArray)] w (fun e w' => ∃ (I' : Mem) (ra0 : Option Addr) (rc0 : Nat), e = .returned (Sl ra0 r rc0) ∧ I.Le I' ∧ St E w' I' Os ∧ RSl 7 Q_qExpr I' ra0 rc0 r) := by
 intro fu
 induction fu with
 | zero => intro E w I Os p0 w_p0 h_p0 hS r hr; cases hr
 | succ fu ih =>
 intro E w I Os p0 w_p0 h_p0 hS r hr
 refine calls_W (fn := Tryz.f152) rfl rfl rfl ?_
 unfold r10_Parts_fu at hr
 refine yd nL2 (yy hS (cs_qExpr p0 w_p0) 39 rfl fun b1 w4 hS3 => yh 1 2 (.slice none 0 0) (y0 nL3 (yv ((cs_qExpr p0 w_p0)) (hS3.rf m0) rfl (y4 (rel := Q_qExpr) (xs := ([p0] : List qExpr)) hS3 rfl (by kernel_rfl) rfl 39 7 [(cs_qExpr p0 w_p0)] (by kernel_rfl) rfl ((Elr.cons (Q_qExpr_iff.2 ⟨w_p0, rfl, h_p0⟩) Elr.nil)) (fun _ _ _ => trivial) ?_))))
 intro a8 C6 w10 hS9 ho7
 refine ya 2 1 rfl (yb (yf (yd [0] (ya 0 1 rfl (yb (W.block (bsk hr fun s15 hloop17 hr => have hlt22 := (h_p0.Kids).len_lt; W.wk (W.forE (m := p0.Kids.length) hloop17 (fun (i16 : Nat) => fun (s15 : List qExpr) fr w => ∃ I13 a_s15 c_s15 C_s15, fr = [(1, Pt b1 0), (3, Sl a_s15 s15 c_s15), (4, Nv i16)] ∧ I.Le I13 ∧ St E w I13 ((Bx b1 (cs_qExpr p0 w_p0) 39) :: (C_s15) :: Os) ∧ OwnSl 39 7 Q_qExpr I13 C_s15 a_s15 c_s15 s15) ⟨I, a8, 1, C6, rfl, lr, hS9.front1, ho7⟩ ?_ ?_))))))))
 rintro i16 s15 _ w19 hi23 ⟨I13, a_s15, c_s15, C_s15, rfl, hl14, hS20, h_s15⟩ x21 hr1
 refine yf (yd nL5 (yc 0 2 [6] rfl (yg (hS20.rf m0) rfl (ya 3 2 rfl (yb (yah fun _ => yi (En.next (yf (W.block (yaa nL9 (yc 0 2 [6] rfl (yg (hS20.rf m0) rfl (ya 3 1 rfl ?_)))))))))))))
 obtain ⟨x24, hx_x24, hr1⟩ := bsm hr1
 obtain ⟨h0_x24, h1_x24, hx_x24⟩ := idx_some hx_x24
 obtain ⟨ha_x24, cs_x24, hn_x24, hr_x24, hc_x24⟩ := ((RSl.mono h_p0.Kids hl14)).el _ _ hx_x24
 obtain ⟨w_x24, rfl, h_x24⟩ := Q_qExpr_iff.1 hr_x24
 refine yaq 39 7 ha_x24 h0_x24 h1_x24 ?_
 refine yak ((cs_qExpr x24 w_x24)) hc_x24 0 hS20.rm rfl (bsk hr1 fun r30 hx_r25 hr1 => yab (ih h_x24 hS20 hx_r25) ?_)
 rintro _ w26 ⟨I27, a_r30, c_r30, rfl, hl28, hS29, h_r30⟩
 refine ⟨_, rfl, trivial, ?_⟩
 have hS31 := hS29.front1
 obtain ⟨x32, hx_x32, hr1⟩ := bsm hr1
 obtain ⟨h0_x32, he_x32⟩ := app_some hx_x32
 refine yaj 39 88 (cs_qExpr z_qExpr zw_qExpr) hS31 (OwnSl.mono h_s15 hl28) h_r30 hS31.im h0_x32 he_x32 rfl fun a33 c34 w35 C36 hS37 ho38 => ya 8 1 rfl (WO.nil (yk (En.next (yaa nL3 (ya 0 1 rfl (yae i16 rfl (ya 2 1 rfl (WO.nil ?_))))))))
 obtain rfl := sj hr1
 exact yq ⟨I27, a33, c34, C36, rfl, le, hS37.front1, ho38⟩
 rintro _ w40 ⟨I13, a_s15, c_s15, C_s15, rfl, hl14, hS41, h_s15⟩
 refine yf (yd nL5 (yc 0 2 [6] rfl (yg (hS41.rf m0) rfl (ya 3 2 rfl (yb (yai fun _ => yz (ym (yn (yo (En.next (yd nL2 (ya 0 1 rfl ?_))))))))))))
 obtain ⟨I43, hl44, hS46, hp45⟩ := y6 h_s15 hS41.front1
 refine ya 1 1 rfl (yb (W.ret ?_))
 obtain rfl := sj hr
 exact yu ⟨I43, a_s15, c_s15, rfl, le, hS46.drop, hp45⟩
theorem r10_Parts_ok {p0 : qExpr} {w_p0 : W_qExpr} (h_p0 : ok_qExpr I p0 w_p0) (hS : St E w I Os) {r : (List qExpr)} (hr : r10_Parts p0 = some r) :
    Calls P 152 #[(.agg (cs_qExpr p0 w_p0).toArray)] w (fun e w' => ∃ (I' : Mem) (ra0 : Option Addr) (rc0 : Nat), e = .returned (Sl ra0 r rc0) ∧ I.Le I' ∧ St E w' I' Os ∧ RSl 7 Q_qExpr I' ra0 rc0 r) := by
 obtain ⟨fu, hf⟩ := anyFuel_some hr
 exact r10_Parts_fu_ok fu h_p0 hS hf
noncomputable def r10_Names (p0 : qExpr) : Option (List ByteArray) := (r10_Parts p0).bind (fun r10 => (forE (fun (i15 : Nat) => fun (s14 : List ByteArray) => (idx r10 (i15 : Int)).bind (fun x26 => (forE (fun (i31 : Nat) => fun (s30 : Bool) => ((bif s30 then some true else (idx s14 (i31 : Int)).bind (fun x44 => (idx r10 (i15 : Int)).bind (fun x45 => some (sEq x44 x45.Name))))).bind (fun (j40 : Bool) => some j40)) s14.length 0 (x26.Kind != 2)).bind (fun s30 => ((bif (!s30) then (idx r10 (i15 : Int)).bind (fun x54 => (app 16 s14 ([x54.Name] : List ByteArray)).bind (fun x63 => some x63)) else some s14)).bind (fun (j50 : List ByteArray) => some j50)))) r10.length 0 ([] : List ByteArray)).bind (fun s14 => some s14))
theorem r10_Names_ok {p0 : qExpr} {w_p0 : W_qExpr} (h_p0 : ok_qExpr I p0 w_p0) (hS : St E w I Os) {r : (List ByteArray)} (hr : r10_Names p0 = some r) :
    Calls P 123 #[(.agg (cs_qExpr p0 w_p0).toArray)] w (fun e w' => ∃ (I' : Mem) (ra0 : Option Addr) (rc0 : Nat), e = .returned (Sl ra0 r rc0) ∧ I.Le I' ∧ St E w' I' Os ∧ RSl 1 RStr I' ra0 rc0 r) := by
 refine calls_W (fn := Tryz.f123) rfl rfl rfl ?_
 unfold r10_Names at hr
 refine yd nL2 (yy hS (cs_qExpr p0 w_p0) 39 rfl fun b1 w4 hS3 => yh 1 2 (.slice none 0 0) (y0 nL3 (yv ((cs_qExpr p0 w_p0)) (hS3.rf m0) rfl (bsk hr fun r10 hx_r5 hr => yab (r10_Parts_ok h_p0 hS3 hx_r5) ?_))))
 rintro _ w6 ⟨I7, a_r10, c_r10, rfl, hl8, hS9, h_r10⟩
 refine ⟨_, rfl, trivial, ?_⟩
 refine ya 2 1 rfl (y0 [0] (yh 0 4 (.slice none 0 0) (yb (yf (yd [0] (ya 0 1 rfl (yb (W.block (bsk hr fun s14 hloop16 hr => have hlt24 := (h_r10).len_lt; W.wk (W.forE (m := r10.length) hloop16 (fun (i15 : Nat) => fun (s14 : List ByteArray) fr w => ∃ I12 a_s14 c_s14 C_s14, fr = [(3, Sl a_r10 r10 c_r10), (4, Sl a_s14 s14 c_s14), (5, Nv i15)] ∧ I7.Le I12 ∧ St E w I12 ((C_s14) :: Os) ∧ OwnSl 9 1 RStr I12 C_s14 a_s14 c_s14 s14) ⟨I7, none, 0, Mem.no, rfl, lr, hS9.no.front1.drop, OwnSl.nil⟩ ?_ ?_))))))))))
 rintro i15 s14 _ w21 hi25 ⟨I12, a_s14, c_s14, C_s14, rfl, hl13, hS22, h_s14⟩ x23 hr1
 refine yf (yd nL4 (ya 0 4 rfl (yb (yah fun _ => yi (En.next (yf (W.block (yd nL7 (ya 0 2 rfl ?_)))))))))
 obtain ⟨x26, hx_x26, hr1⟩ := bsm hr1
 obtain ⟨h0_x26, h1_x26, hx_x26⟩ := idx_some hx_x26
 obtain ⟨ha_x26, cs_x26, hn_x26, hr_x26, hc_x26⟩ := ((RSl.mono h_r10 hl13)).el _ _ hx_x26
 obtain ⟨w_x26, rfl, h_x26⟩ := Q_qExpr_iff.1 hr_x26
 refine yaq 39 7 ha_x26 h0_x26 h1_x26 ?_
 refine yc 3 1 [0] rfl (yaf hc_x26 hS22.rm rfl (ya 5 2 rfl (yb (yf (yd [0] (ya 0 1 rfl (yb (W.block (bsk hr1 fun s30 hloop32 hr1 => have hlt36 := (h_s14.sl).len_lt; W.wk (W.forE (m := s14.length) hloop32 (fun (i31 : Nat) => fun (s30 : Bool) fr w => ∃ I28, fr = [(3, Sl a_r10 r10 c_r10), (4, Sl a_s14 s14 c_s14), (5, Nv i15), (6, .bool s30), (7, Nv i31)] ∧ I12.Le I28 ∧ St E w I28 ((C_s14) :: Os)) ⟨I12, rfl, lr, hS22⟩ ?_ ?_))))))))))
 rintro i31 s30 _ w33 hi37 ⟨I28, rfl, hl29, hS34⟩ x35 hr2
 refine yf (yd nL4 (ya 0 4 rfl (yb (yah fun _ => yi (En.next (yf (W.block (have hS38 := hS34.drew; yat nL14 13 (KR.cons (hS38.rd m0) (KR.nil hS38.im)) ?_))))))))
 generalize World.drew _ = w39 at *
 refine ya 0 2 rfl (bsk hr2 fun j40 hr3 hr2 => WO.jw (l1 := [2, 3, 4, 5, 6, 7, 8, 9, 10, 11, 12]) (J := (fun fr w => ∃ I42, fr = [(3, Sl a_r10 r10 c_r10), (4, Sl a_s14 s14 c_s14), (5, Nv i15), (7, Nv i31), (40, .bool j40)] ∧ I28.Le I42 ∧ St E w I42 ((C_s14) :: Os))) ?_ ?_)
 refine WO.cb hr3 (fun hc hr3 => ?_) (fun hc hr3 => ?_)
 refine yl 29 hc ?_
 iterate 10 refine yt ?_
 refine yh 12 40 (.bool true) ?_
 obtain rfl := sj hr3
 exact yw ⟨I28, rfl, lr, hS38⟩
 refine yl 29 hc (ya 2 2 rfl ?_)
 obtain ⟨x44, hr3, hb_x44, _, rfl, hc_x44⟩ := sl_ix ((h_s14.mono hl29).sl) hr3
 refine y3 9 1 hb_x44 rfl (yaf hc_x44 (rd_c m0 (hS38.rd m0)) rfl (ya 6 2 rfl ?_))
 obtain ⟨x45, hx_x45, hr3⟩ := bsm hr3
 obtain ⟨h0_x45, h1_x45, hx_x45⟩ := idx_some hx_x45
 obtain ⟨ha_x45, cs_x45, hn_x45, hr_x45, hc_x45⟩ := ((RSl.mono h_r10 (hl13.trans hl29))).el _ _ hx_x45
 obtain ⟨w_x45, rfl, h_x45⟩ := Q_qExpr_iff.1 hr_x45
 refine yaq 39 7 ha_x45 h0_x45 h1_x45 ?_
 refine yc 9 1 [5] rfl (yal hc_x45 5 (rd_i hS38.im) rfl (ya 11 1 rfl (yh 12 40 (.bool (sEq x44 x45.Name)) ?_)))
 obtain rfl := sj hr3
 exact yw ⟨I28, rfl, lr, hS38⟩
 rintro _ w46 ⟨I42, rfl, hl43, hS47⟩
 refine WO.tail rfl (ya 13 1 rfl (WO.nil (yk (En.next (yaa nL3 (ya 0 1 rfl (yae i31 rfl (ya 2 1 rfl (WO.nil ?_)))))))))
 obtain rfl := sj hr2
 exact yq ⟨I42, rfl, le, hS47⟩
 rintro _ w48 ⟨I28, rfl, hl29, hS49⟩
 refine yf (yd nL4 (ya 0 4 rfl (yb (yai fun _ => yz (ym (yn (yo (En.next (yd nL2 (ya 0 2 rfl (yb (bsk hr1 fun j50 hr2 hr1 => W.jw (J := (fun fr w => ∃ I52 a_j50 c_j50 C_j50, fr = [(3, Sl a_r10 r10 c_r10), (4, Sl a_j50 j50 c_j50), (5, Nv i15)] ∧ I28.Le I52 ∧ St E w I52 ((C_j50) :: Os) ∧ OwnSl 9 1 RStr I52 C_j50 a_j50 c_j50 j50)) ?_ ?_))))))))))))
 refine W.cb hr2 (fun hc hr2 => ?_) (fun hc hr2 => ?_)
 refine yaa nL9 (ya 0 3 rfl ?_)
 obtain ⟨x54, hx_x54, hr2⟩ := bsm hr2
 obtain ⟨h0_x54, h1_x54, hx_x54⟩ := idx_some hx_x54
 obtain ⟨ha_x54, cs_x54, hn_x54, hr_x54, hc_x54⟩ := ((RSl.mono h_r10 (hl13.trans hl29))).el _ _ hx_x54
 obtain ⟨w_x54, rfl, h_x54⟩ := Q_qExpr_iff.1 hr_x54
 refine yaq 39 7 ha_x54 h0_x54 h1_x54 ?_
 refine yc 4 1 [5] rfl (yal hc_x54 5 hS49.rm rfl (y4 (rel := RStr) (xs := ([x54.Name] : List ByteArray)) hS49 rfl (by kernel_rfl) rfl 9 1 [[(.string x54.Name)]] (by kernel_rfl) rfl ((Elr.cons rfl Elr.nil)) (fun _ _ _ => trivial) ?_))
 intro a58 C56 w60 hS59 ho57
 have hS62 := hS59.front1
 obtain ⟨x63, hx_x63, hr2⟩ := bsm hr2
 obtain ⟨h0_x63, he_x63⟩ := app_some hx_x63
 refine yaj 9 16 [(.string (⟨#[]⟩ : ByteArray))] hS62 (OwnSl.mono h_s14 hl29) ho57.sl (hS62.rd m1) h0_x63 he_x63 rfl fun a64 c65 w66 C67 hS68 ho69 => ya 8 1 rfl (WO.nil ?_)
 obtain rfl := sj hr2
 exact yq ⟨I28, a64, c65, C67, rfl, lr, hS68.front1.drop, ho69⟩
 refine yi ?_
 obtain rfl := sj hr2
 exact yq ⟨I28, a_s14, c_s14, C_s14, rfl, lr, hS49, (OwnSl.mono h_s14 hl29)⟩
 rintro _ w72 ⟨I52, a_j50, c_j50, C_j50, rfl, hl53, hS73, h_j50⟩
 refine yk (En.next (yaa nL3 (ya 0 1 rfl (yae i15 rfl (ya 2 1 rfl (WO.nil ?_))))))
 obtain rfl := sj hr1
 exact yq ⟨I52, a_j50, c_j50, C_j50, rfl, le, hS73, h_j50⟩
 rintro _ w74 ⟨I12, a_s14, c_s14, C_s14, rfl, hl13, hS75, h_s14⟩
 refine yf (yd nL4 (ya 0 4 rfl (yb (yai fun _ => yz (ym (yn (yo (En.next (yd nL2 (ya 0 1 rfl ?_))))))))))
 obtain ⟨I76, hl77, hS79, hp78⟩ := y6 h_s14 hS75
 refine ya 1 1 rfl (yb (W.ret ?_))
 obtain rfl := sj hr
 exact yu ⟨I76, a_s14, c_s14, rfl, le, hS79, hp78⟩
noncomputable def r14_Used (p0 : qTable) : Option (List ByteArray) := (r14_lists p0).bind (fun r10 => (forE (fun (i15 : Nat) => fun (s14 : List ByteArray) => (idx r10 (i15 : Int)).bind (fun x25 => (app 16 s14 x25).bind (fun x27 => some x27))) r10.length 0 ([] : List ByteArray)).bind (fun s14 => (forE (fun (i41 : Nat) => fun (s40 : List ByteArray) => (idx p0.Cons (i41 : Int)).bind (fun x48 => ((bif (x48.Kind == 2) then (idx p0.Cons (i41 : Int)).bind (fun x53 => (r10_Names x53.Check).bind (fun r59 => (app 16 s40 r59).bind (fun x61 => some x61))) else some s40)).bind (fun (j49 : List ByteArray) => some j49))) p0.Cons.length 0 s14).bind (fun s40 => some s40)))
theorem r14_Used_ok {p0 : qTable} {w_p0 : W_qTable} (h_p0 : ok_qTable I p0 w_p0) (hS : St E w I Os) {r : (List ByteArray)} (hr : r14_Used p0 = some r) :
    Calls P 88 #[(.agg (cs_qTable p0 w_p0).toArray)] w (fun e w' => ∃ (I' : Mem) (ra0 : Option Addr) (rc0 : Nat), e = .returned (Sl ra0 r rc0) ∧ I.Le I' ∧ St E w' I' Os ∧ RSl 1 RStr I' ra0 rc0 r) := by
 refine calls_W (fn := Tryz.f88) rfl rfl rfl ?_
 unfold r14_Used at hr
 refine yd nL2 (yy hS (cs_qTable p0 w_p0) 89 rfl fun b1 w4 hS3 => yh 1 2 (.slice none 0 0) (y0 nL3 (yv ((cs_qTable p0 w_p0)) (hS3.rf m0) rfl (bsk hr fun r10 hx_r5 hr => yab (r14_lists_ok h_p0 hS3 hx_r5) ?_))))
 rintro _ w6 ⟨I7, a_r10, c_r10, rfl, hl8, hS9, h_r10⟩
 refine ⟨_, rfl, trivial, ?_⟩
 refine ya 2 1 rfl (y0 [0] (yh 0 4 (.slice none 0 0) (yb (yf (yd [0] (ya 0 1 rfl (yb (W.block (bsk hr fun s14 hloop16 hr => have hlt23 := (h_r10).len_lt; W.wk (W.forE (m := r10.length) hloop16 (fun (i15 : Nat) => fun (s14 : List ByteArray) fr w => ∃ I12 a_s14 c_s14 C_s14, fr = [(1, Pt b1 0), (3, Sl a_r10 r10 c_r10), (4, Sl a_s14 s14 c_s14), (5, Nv i15)] ∧ I7.Le I12 ∧ St E w I12 ((Bx b1 (cs_qTable p0 w_p0) 89) :: (C_s14) :: Os) ∧ OwnSl 9 1 RStr I12 C_s14 a_s14 c_s14 s14) ⟨I7, none, 0, Mem.no, rfl, lr, hS9.no.front1, OwnSl.nil⟩ ?_ ?_))))))))))
 rintro i15 s14 _ w20 hi24 ⟨I12, a_s14, c_s14, C_s14, rfl, hl13, hS21, h_s14⟩ x22 hr1
 refine yf (yd nL4 (ya 0 4 rfl (yb (yah fun _ => yi (En.next (yf (W.block (yaa nL7 (ya 0 3 rfl ?_)))))))))
 obtain ⟨x25, hx_x25, hr1⟩ := bsm hr1
 obtain ⟨h0_x25, h1_x25, hx_x25⟩ := idx_some hx_x25
 obtain ⟨ha_x25, cs_x25, hn_x25, hr_x25, hc_x25⟩ := ((RSl.mono h_r10 hl13)).el _ _ hx_x25
 obtain ⟨a_x25, c_x25, rfl, h_x25⟩ := hr_x25
 refine yaq 33 1 ha_x25 h0_x25 h1_x25 ?_
 refine yaf hc_x25 hS21.rm rfl ?_
 have hS26 := hS21.front1
 obtain ⟨x27, hx_x27, hr1⟩ := bsm hr1
 obtain ⟨h0_x27, he_x27⟩ := app_some hx_x27
 refine yaj 9 16 [(.string (⟨#[]⟩ : ByteArray))] hS26 h_s14 h_x25 hS26.im h0_x27 he_x27 rfl fun a28 c29 w30 C31 hS32 ho33 => ya 6 1 rfl (WO.nil (yk (En.next (yaa nL3 (ya 0 1 rfl (yae i15 rfl (ya 2 1 rfl (WO.nil ?_))))))))
 obtain rfl := sj hr1
 exact yq ⟨I12, a28, c29, C31, rfl, hl13, hS32.front1, ho33⟩
 rintro _ w35 ⟨I12, a_s14, c_s14, C_s14, rfl, hl13, hS36, h_s14⟩
 refine yf (yd nL4 (ya 0 4 rfl (yb (yai fun _ => yz (ym (yn (yo (En.next (yf (yd [0] (ya 0 1 rfl (yb (W.block (bsk hr fun s40 hloop42 hr => have hlt46 := ((RSl.mono h_p0.Cons (hl8.trans hl13))).len_lt; W.wk (W.forE (m := p0.Cons.length) hloop42 (fun (i41 : Nat) => fun (s40 : List ByteArray) fr w => ∃ I38 a_s40 c_s40 C_s40, fr = [(1, Pt b1 0), (4, Sl a_s40 s40 c_s40), (6, Nv i41)] ∧ I12.Le I38 ∧ St E w I38 ((Bx b1 (cs_qTable p0 w_p0) 89) :: (C_s40) :: Os) ∧ OwnSl 9 1 RStr I38 C_s40 a_s40 c_s40 s40) ⟨I12, a_s14, c_s14, C_s14, rfl, lr, hS36, h_s14⟩ ?_ ?_)))))))))))))))
 rintro i41 s40 _ w43 hi47 ⟨I38, a_s40, c_s40, C_s40, rfl, hl39, hS44, h_s40⟩ x45 hr1
 refine yf (yd nL5 (yc 0 2 [4] rfl (yg (hS44.rf m0) rfl (ya 3 2 rfl (yb (yah fun _ => yi (En.next (yf (W.block (yd nL7 (yc 0 1 [4] rfl (yg (hS44.rf m0) rfl (ya 2 1 rfl ?_)))))))))))))
 obtain ⟨x48, hr1, hb_x48, _, ⟨w_x48, rfl, h_x48⟩, hc_x48⟩ := sl_ix ((RSl.mono h_p0.Cons ((hl8.trans hl13).trans hl39))) hr1
 refine y3 100 12 hb_x48 rfl (yc 4 1 [1] rfl (yal hc_x48 1 hS44.rm rfl (ya 6 1 rfl (yb (bsk hr1 fun j49 hr2 hr1 => W.jw (J := (fun fr w => ∃ I51 a_j49 c_j49 C_j49, fr = [(1, Pt b1 0), (4, Sl a_j49 j49 c_j49), (6, Nv i41)] ∧ I38.Le I51 ∧ St E w I51 ((Bx b1 (cs_qTable p0 w_p0) 89) :: (C_j49) :: Os) ∧ OwnSl 9 1 RStr I51 C_j49 a_j49 c_j49 j49)) ?_ ?_)))))
 refine W.cb hr2 (fun hc hr2 => ?_) (fun hc hr2 => ?_)
 refine yaa nL10 (yc 0 2 [4] rfl (yg (hS44.rf m0) rfl (ya 3 1 rfl ?_)))
 obtain ⟨x53, hr2, hb_x53, _, ⟨w_x53, rfl, h_x53⟩, hc_x53⟩ := sl_ix ((RSl.mono h_p0.Cons ((hl8.trans hl13).trans hl39))) hr2
 refine y3 100 12 hb_x53 rfl (yc 5 1 [3] rfl (yak ((cs_qExpr x53.Check w_x53.Check)) hc_x53 3 hS44.rm rfl (bsk hr2 fun r59 hx_r54 hr2 => yab (r10_Names_ok h_x53.Check hS44 hx_r54) ?_)))
 rintro _ w55 ⟨I56, a_r59, c_r59, rfl, hl57, hS58, h_r59⟩
 refine ⟨_, rfl, trivial, ?_⟩
 have hS60 := hS58.front1
 obtain ⟨x61, hx_x61, hr2⟩ := bsm hr2
 obtain ⟨h0_x61, he_x61⟩ := app_some hx_x61
 refine yaj 9 16 [(.string (⟨#[]⟩ : ByteArray))] hS60 (OwnSl.mono h_s40 hl57) h_r59 hS60.im h0_x61 he_x61 rfl fun a62 c63 w65 C66 hS67 ho68 => ya 9 1 rfl (WO.nil ?_)
 obtain rfl := sj hr2
 exact yq ⟨I56, a62, c63, C66, rfl, hl57, hS67.front1, ho68⟩
 refine yi ?_
 obtain rfl := sj hr2
 exact yq ⟨I38, a_s40, c_s40, C_s40, rfl, lr, hS44, h_s40⟩
 rintro _ w70 ⟨I51, a_j49, c_j49, C_j49, rfl, hl52, hS71, h_j49⟩
 refine yk (En.next (yaa nL3 (ya 0 1 rfl (yae i41 rfl (ya 2 1 rfl (WO.nil ?_))))))
 obtain rfl := sj hr1
 exact yq ⟨I51, a_j49, c_j49, C_j49, rfl, le, hS71, h_j49⟩
 rintro _ w72 ⟨I38, a_s40, c_s40, C_s40, rfl, hl39, hS73, h_s40⟩
 refine yf (yd nL5 (yc 0 2 [4] rfl (yg (hS73.rf m0) rfl (ya 3 2 rfl (yb (yai fun _ => yz (ym (yn (yo (En.next (yd nL2 (ya 0 1 rfl ?_))))))))))))
 obtain ⟨I75, hl76, hS78, hp77⟩ := y6 h_s40 hS73.front1
 refine ya 1 1 rfl (yb (W.ret ?_))
 obtain rfl := sj hr
 exact yu ⟨I75, a_s40, c_s40, rfl, le, hS78.drop, hp77⟩
def r17_keys (p0 : qTable) (p1 : List ByteArray) : Option Int := (forE (fun (i9 : Nat) => fun (s8 : Int) => (idx p0.Cons (i9 : Int)).bind (fun x16 => ((bif (x16.Kind == 1) then (idx p0.Cons (i9 : Int)).bind (fun x21 => (r17_alike x21.Cols p1).bind (fun r27 => some r27)) else some false)).bind (fun (j17 : Bool) => ((bif j17 then some (w64 (s8 + 1)) else some s8)).bind (fun (j30 : Int) => some j30)))) p0.Cons.length 0 0).bind (fun s8 => some s8)
theorem r17_keys_ok {p0 : qTable} {p1 : List ByteArray} {w_p0 : W_qTable} {a_p1 : Option Addr} {c_p1 : Nat} (h_p0 : ok_qTable I p0 w_p0) (h_p1 : RSl 1 RStr I a_p1 c_p1 p1) (hS : St E w I Os) {r : Int} (hr : r17_keys p0 p1 = some r) :
    Calls P 124 #[(.agg (cs_qTable p0 w_p0).toArray), (Sl a_p1 p1 c_p1)] w (fun e w' => ∃ I', e = .returned (Iv r) ∧ I.Le I' ∧ St E w' I' Os) := by
 refine calls_W (fn := Tryz.f124) rfl rfl rfl ?_
 unfold r17_keys at hr
 refine yd nL2 (yy hS (cs_qTable p0 w_p0) 89 rfl fun b1 w4 hS3 => ya 1 1 rfl (y0 [0] (ya 0 1 rfl (yb (yf (yd [0] (ya 0 1 rfl (yb (W.block (bsk hr fun s8 hloop10 hr => have hlt14 := (h_p0.Cons).len_lt; W.wk (W.forE (m := p0.Cons.length) hloop10 (fun (i9 : Nat) => fun (s8 : Int) fr w => ∃ I6, fr = [(1, Sl a_p1 p1 c_p1), (2, Pt b1 0), (5, Iv s8), (6, Nv i9)] ∧ I.Le I6 ∧ St E w I6 ((Bx b1 (cs_qTable p0 w_p0) 89) :: Os)) ⟨I, rfl, lr, hS3⟩ ?_ ?_)))))))))))
 rintro i9 s8 _ w11 hi15 ⟨I6, rfl, hl7, hS12⟩ x13 hr1
 refine yf (yd nL5 (yc 0 2 [4] rfl (yg (hS12.rf m0) rfl (ya 3 2 rfl (yb (yah fun _ => yi (En.next (yf (W.block (yd nL17 (yc 0 1 [4] rfl (yg (hS12.rf m0) rfl (ya 2 1 rfl ?_)))))))))))))
 obtain ⟨x16, hr1, hb_x16, _, ⟨w_x16, rfl, h_x16⟩, hc_x16⟩ := sl_ix ((RSl.mono h_p0.Cons hl7)) hr1
 refine y3 100 12 hb_x16 rfl (yc 4 1 [1] rfl (yal hc_x16 1 hS12.rm rfl (ya 6 2 rfl (bsk hr1 fun j17 hr2 hr1 => WO.jw (l1 := [8, 9, 10, 11, 12, 13, 14, 15, 16]) (J := (fun fr w => ∃ I19, fr = [(1, Sl a_p1 p1 c_p1), (2, Pt b1 0), (5, Iv s8), (6, Nv i9), (30, .bool j17)] ∧ I6.Le I19 ∧ St E w I19 ((Bx b1 (cs_qTable p0 w_p0) 89) :: Os))) ?_ ?_))))
 refine WO.cb hr2 (fun hc hr2 => ?_) (fun hc hr2 => ?_)
 refine yl 21 hc (yc 8 1 [4] rfl (yg (hS12.rf m0) rfl (ya 10 1 rfl ?_)))
 obtain ⟨x21, hr2, hb_x21, _, ⟨w_x21, rfl, h_x21⟩, hc_x21⟩ := sl_ix ((RSl.mono h_p0.Cons hl7)) hr2
 refine y3 100 12 hb_x21 rfl (yc 12 1 [2] rfl (yal hc_x21 2 hS12.rm rfl (ya 14 1 rfl (bsk hr2 fun r27 hx_r22 hr2 => WO.c1 (r17_alike_ok h_x21.Cols (RSl.mono h_p1 hl7) hS12 hx_r22) rfl fun I24 w23 hl25 hS26 => yh 16 30 (.bool r27) ?_))))
 obtain rfl := sj hr2
 exact yw ⟨I24, rfl, hl25, hS26⟩
 refine yl 21 hc ?_
 iterate 8 refine yt ?_
 refine yh 16 30 (.bool false) ?_
 obtain rfl := sj hr2
 exact yw ⟨I6, rfl, lr, hS12⟩
 rintro _ w28 ⟨I19, rfl, hl20, hS29⟩
 refine yb (bsk hr1 fun j30 hr2 hr1 => W.jw (J := (fun fr w => ∃ I32, fr = [(1, Sl a_p1 p1 c_p1), (2, Pt b1 0), (5, Iv j30), (6, Nv i9)] ∧ I19.Le I32 ∧ St E w I32 ((Bx b1 (cs_qTable p0 w_p0) 89) :: Os))) ?_ ?_)
 refine W.cb hr2 (fun hc hr2 => ?_) (fun hc hr2 => ?_)
 refine yaa nL3 (ya 0 3 rfl (WO.nil ?_))
 obtain rfl := sj hr2
 exact yq ⟨I19, rfl, lr, hS29⟩
 refine yi ?_
 obtain rfl := sj hr2
 exact yq ⟨I19, rfl, lr, hS29⟩
 rintro _ w34 ⟨I32, rfl, hl33, hS35⟩
 refine yk (En.next (yaa nL3 (ya 0 1 rfl (yae i9 rfl (ya 2 1 rfl (WO.nil ?_))))))
 obtain rfl := sj hr1
 exact yq ⟨I32, rfl, le, hS35⟩
 rintro _ w36 ⟨I6, rfl, hl7, hS37⟩
 refine yf (yd nL5 (yc 0 2 [4] rfl (yg (hS37.rf m0) rfl (ya 3 2 rfl (yb (yai fun _ => yz (ym (yn (yo (En.next (yd nL2 (ya 0 2 rfl (yb (W.ret ?_))))))))))))))
 obtain rfl := sj hr
 exact yu ⟨I6, rfl, hl7, hS37.drop⟩
noncomputable def r17_refers_nnsl (p0 : qCatalog) (p1 : ByteArray) (p2 : ByteArray) (p3 : ByteArray) (p4 : List ByteArray) : Option Bool := (forN (fun (i8 : Nat) => fun (_s : Unit) => (idx p0.Tables (i8 : Int)).bind (fun x15 => (loopO (fun (s25 : Int) => (some ((decide (s25 < (x15.Cons.length : Int))) && (!sEq x15.Name p2))).bind (fun (q31 : Bool) => (bif q31 then ((idx x15.Cons s25).bind (fun x38 => (bif ((x38.Kind != 3) || (!sEq x38.Table p1)) then some (.inl ()) else (r17_alike x38.Refs p4).bind (fun r53 => (bif r53 then some (.inr true) else some (.inl ())))))).bind (fun (t : Unit ⊕ Bool) => match t with | (.inl ()) => some (.inl (w64 (s25 + 1))) | (.inr s55) => some (.inr (.inl s55))) else some (.inr (.inr ()))))) 0).bind (fun (t : Bool ⊕ Unit) => match t with | (.inl s57) => some (.inr s57) | (.inr ()) => some (.inl ())))) p0.Tables.length 0 ()).bind (fun (t : Unit ⊕ (Bool)) => match t with | .inl _ => some false | .inr s59 => some s59)
theorem r17_refers_nnsl_ok {p0 : qCatalog} {p1 : ByteArray} {p2 : ByteArray} {p3 : ByteArray} {p4 : List ByteArray} {w_p0 : W_qCatalog} {a_p4 : Option Addr} {c_p4 : Nat} (h_p0 : ok_qCatalog I p0 w_p0) (h_p4 : RSl 1 RStr I a_p4 c_p4 p4) (hnn_p4 : a_p4.isNone = false) (hS : St E w I Os) {r : Bool} (hr : r17_refers_nnsl p0 p1 p2 p3 p4 = some r) :
    Calls P 51 #[(.agg (cs_qCatalog p0 w_p0).toArray), (.string p1), (.string p2), (.string p3), (Sl a_p4 p4 c_p4)] w (fun e w' => ∃ I', e = .returned (.bool r) ∧ I.Le I' ∧ St E w' I' Os) := by
 refine calls_W (fn := Tryz.f51) rfl rfl rfl ?_
 unfold r17_refers_nnsl at hr
 refine yd nL2 (yy hS (cs_qCatalog p0 w_p0) 29 rfl fun b1 w4 hS3 => ya 1 1 rfl (yb (yf (yd [0] (ya 0 1 rfl (yb (W.block (bsk hr fun t5 hloop9 hr => have hlt13 := (h_p0.Tables).len_lt; W.wk (W.forN (m := p0.Tables.length) hloop9 (fun (i8 : Nat) => fun (_s : Unit) fr w => ∃ I6, fr = [(1, .string p1), (2, .string p2), (3, .string p3), (4, Sl a_p4 p4 c_p4), (5, Pt b1 0), (11, Nv i8)] ∧ I.Le I6 ∧ St E w I6 ((Bx b1 (cs_qCatalog p0 w_p0) 29) :: Os)) ⟨I, rfl, lr, hS3⟩ ?_ ?_)))))))))
 rintro i8 _ _ w10 hi14 ⟨I6, rfl, hl7, hS11⟩ x12 hr1 hext5
 refine yf (yd nL5 (yc 0 2 [1] rfl (yg (hS11.rf m0) rfl (ya 3 2 rfl (yb (yah fun _ => yi (En.next (yf (W.block (yd nL7 (yc 0 1 [1] rfl (yg (hS11.rf m0) rfl (ya 2 1 rfl ?_)))))))))))))
 obtain ⟨x15, hr1, hb_x15, _, ⟨w_x15, rfl, h_x15⟩, hc_x15⟩ := sl_ix ((RSl.mono h_p0.Tables hl7)) hr1
 refine y3 89 6 hb_x15 rfl (yak ((cs_qTable x15 w_x15)) hc_x15 0 hS11.rm rfl (yy hS11 (cs_qTable z_qTable zw_qTable) 89 rfl fun b16 w19 hS18 => yx hS18 0 (cs_qTable x15 w_x15) fun w21 hS20 => y0 [0] (ya 0 1 rfl (yb (W.block (bsk hr1 fun t22 hloop26 hr1 => W.wk (yau hloop26 (fun (s25 : Int) fr w => ∃ I23, fr = [(1, .string p1), (2, .string p2), (3, .string p3), (4, Sl a_p4 p4 c_p4), (5, Pt b1 0), (11, Nv i8), (12, Pt b16 0), (13, Iv s25)] ∧ I6.Le I23 ∧ St E w I23 ((Bx b1 (cs_qCatalog p0 w_p0) 29) :: (Bx b16 (cs_qTable x15 w_x15) 89) :: Os)) ⟨I6, rfl, lr, hS20.front1⟩ ?_)))))))
 rintro s25 _ w28 ⟨I23, rfl, hl24, hS29⟩ x30 hr2 hext22
 refine yf (yd nL11 (yc 0 2 [4] rfl (yg (hS29.rf m1) rfl (ya 3 3 rfl ?_))))
 obtain ⟨q31, hx_q31, hr2⟩ := bsm hr2
 replace hx_q31 := sj hx_q31
 refine yac (l1 := [6, 7, 8, 9, 10]) 37 q31 ?_ ?_
 refine yr (decide (s25 < (x15.Cons.length : Int))) (fun hc => ?_) (fun hc => ?_)
 exact yl 32 hc (yc 6 1 [0] rfl (yg (hS29.rf m1) rfl (ya 8 2 rfl (yh 10 37 (.bool (!sEq x15.Name p2)) (WO.mk 32 hc (by rw [← hx_q31, hc]; rfl))))))
 refine yl 32 hc ?_
 iterate 4 refine yt ?_
 exact yh 10 37 (.bool false) (WO.mk 32 hc (by rw [← hx_q31, hc]; rfl))
 refine yb (W.cb hr2 (fun hc hr2 => ?_) (fun hc hr2 => ?_))
 refine yi (En.next (yf (bsk hr2 fun j34 hr3 hr2 => W.jw (J := (fun fr w => ∃ I36, (.inl ()) = j34 ∧ fr = [(1, .string p1), (2, .string p2), (3, .string p3), (4, Sl a_p4 p4 c_p4), (5, Pt b1 0), (11, Nv i8), (12, Pt b16 0), (13, Iv s25)] ∧ I23.Le I36 ∧ St E w I36 ((Bx b1 (cs_qCatalog p0 w_p0) 29) :: (Bx b16 (cs_qTable x15 w_x15) 89) :: Os))) ?_ ?_)))
 refine W.block (yd nL7 (yc 0 1 [4] rfl (yg (hS29.rf m1) rfl (ya 2 1 rfl ?_))))
 obtain ⟨x38, hr3, hb_x38, _, ⟨w_x38, rfl, h_x38⟩, hc_x38⟩ := sl_ix ((RSl.mono h_x15.Cons hl24)) hr3
 refine y3 100 12 hb_x38 rfl (yak ((cs_qCons x38 w_x38)) hc_x38 0 hS29.rm rfl (yy hS29 (cs_qCons z_qCons zw_qCons) 100 rfl fun b39 w42 hS41 => yx hS41 0 (cs_qCons x38 w_x38) fun w44 hS43 => yb (yf (yd nL9 (yc 0 1 [1] rfl (yg (hS43.rf m0) rfl (ya 2 2 rfl (yac (l1 := [4, 5, 6, 7, 8]) 53 ((x38.Kind != 3) || (!sEq x38.Table p1)) ?_ ?_))))))))
 refine yr (x38.Kind != 3) (fun hc => ?_) (fun hc => ?_)
 refine yl 48 hc ?_
 iterate 4 refine yt ?_
 exact yh 8 53 (.bool true) (WO.mk 48 hc (by rw [hc]; rfl))
 exact yl 48 hc (yc 4 1 [10] rfl (yg (hS43.rf m0) rfl (ya 6 2 rfl (yh 8 53 (.bool (!sEq x38.Table p1)) (WO.mk 48 hc (by rw [hc]; rfl))))))
 refine yb (W.cb hr3 (fun hc hr3 => ?_) (fun hc hr3 => ?_))
 exact yz (ym (yo (yq ⟨I23, sj hr3, rfl, lr, hS43.drop⟩)))
 refine yi (En.next (yd nL22 (ya 0 1 rfl (ya2 (e := 9) rfl (by kernel_rfl) (by kernel_rfl) rfl rfl ?_))))
 refine y7 55 rfl (v := .bool false) (by rw [hnn_p4] <;> rfl) ?_
 refine ya 2 1 rfl ?_
 iterate 8 refine yt ?_
 refine yh 11 65 (.bool false) (ya 12 2 rfl (WO.neNil (e := 9) rfl (by kernel_rfl) (by kernel_rfl) rfl rfl ?_))
 refine y7 68 rfl (v := .bool true) (by rw [hnn_p4] <;> rfl) ?_
 refine yc 15 2 [11] rfl (yg (hS43.rf m0) rfl (ya 18 1 rfl (bsk hr3 fun r53 hx_r48 hr3 => WO.c1 (r17_alike_ok h_x38.Refs (RSl.mono h_p4 le) hS43 hx_r48) rfl fun I50 w49 hl51 hS52 => WO.vs 20 [(74, .bool r53), (75, .bool r53)] (yb (W.cb hr3 (fun hc hr3 => ?_) (fun hc hr3 => ?_))))))
 refine yd [0] (ya 0 1 rfl (yb (W.ret (yj (yp ?_)))))
 obtain rfl := sj hr3
 refine ye (yp ?_)
 obtain rfl := hext22 _ (sj hr2).symm
 refine yj (yj (ye (yp ?_)))
 obtain rfl := hext5 _ (sj hr1).symm
 refine yj (ye ?_)
 obtain rfl := sj hr
 exact yu ⟨I50, rfl, le, hS52.drop.drop.drop⟩
 exact yi (yk (yq ⟨I50, sj hr3, rfl, hl51, hS52.drop⟩))
 rintro _ w69 ⟨I36, rfl, rfl, hl37, hS70⟩
 exact En.next (yaa nL3 (ya 0 3 rfl (WO.nil (yq ⟨(w64 (s25 + 1)), (sj hr2).symm, I36, rfl, le, hS70⟩))))
 refine yz (ym (yn ?_))
 obtain rfl := hext22 _ (sj hr2).symm
 exact yo (yk (En.next (yaa nL3 (ya 0 1 rfl (yae i8 rfl (ya 2 1 rfl (WO.nil (yq ⟨(), (sj hr1).symm, I23, rfl, le, hS29.front1.drop⟩))))))))
 rintro _ _ w75 ⟨I6, rfl, hl7, hS76⟩ he
 cases he
 refine yf (yd nL5 (yc 0 2 [1] rfl (yg (hS76.rf m0) rfl (ya 3 2 rfl (yb (yai fun _ => yz (ym (yn (yo (En.next (yd [0] (ya 0 1 rfl (yb (W.ret ?_))))))))))))))
 obtain rfl := sj hr
 exact yu ⟨I6, rfl, hl7, hS76.drop⟩
noncomputable def r17_dropped (p0 : qCatalog) (p1 : qTable) (p2 : ByteArray) : Option (qTable × Int) := (forN (fun (i17 : Nat) => fun (s16 : qTable) => (idx p1.Cons (i17 : Int)).bind (fun x26 => (bif (!sEq x26.Name p2) then some (.inl s16) else (app 16 ([] : List ByteArray) x26.Cols).bind (fun x41 => ((bif (x26.Kind == 1) then (r17_keys p1 x41).bind (fun r61 => some (r61 == 1)) else some false)).bind (fun (j52 : Bool) => ((bif j52 then (must (!(x41).isEmpty)).bind (fun _ => (r17_refers_nnsl p0 p1.Name (⟨#[]⟩ : ByteArray) (⟨#[]⟩ : ByteArray) x41).bind (fun r77 => some r77)) else some false)).bind (fun (j67 : Bool) => (bif j67 then some (.inr ((34 : Int), p1)) else (r17_Copy p1).bind (fun r98 => (sub p1.Cons 0 (i17 : Int)).bind (fun x121 => (app 176 ([] : List qCons) x121).bind (fun x124 => (sub p1.Cons (w64 ((i17 : Int) + 1)) (p1.Cons.length : Int)).bind (fun x136 => (app 176 x124 x136).bind (fun x138 => some (.inr ((0 : Int), { r98 with Cols := r98.Cols, Cons := x138, Idx := r98.Idx })))))))))))))) p1.Cons.length 0 z_qTable).bind (fun (t : qTable ⊕ ((Int × qTable))) => match t with | .inl s16 => some (p1, 4) | .inr (s86, s87) => some (s87, s86))
theorem r17_dropped_ok {p0 : qCatalog} {p1 : qTable} {p2 : ByteArray} {w_p0 : W_qCatalog} {w_p1 : W_qTable} (h_p0 : ok_qCatalog I p0 w_p0) (h_p1 : ok_qTable I p1 w_p1) (hS : St E w I Os) {r : qTable × Int} (hr : r17_dropped p0 p1 p2 = some r) :
    Calls P 89 #[(.agg (cs_qCatalog p0 w_p0).toArray), (.agg (cs_qTable p1 w_p1).toArray), (.string p2)] w (fun e w' => ∃ I' w_rw0, e = .returned (.tuple #[(.agg (cs_qTable r.1 w_rw0).toArray), (Iv r.2)]) ∧ I.Le I' ∧ St E w' I' Os ∧ ok_qTable I' r.1 w_rw0) := by
 refine calls_W (fn := Tryz.f89) rfl rfl rfl ?_
 unfold r17_dropped at hr
 refine yd nL4 (yy hS (cs_qCatalog p0 w_p0) 29 rfl fun b1 w4 hS3 => yy hS3 (cs_qTable p1 w_p1) 89 rfl fun b5 w8 hS7 => yy hS7 (cs_qTable z_qTable zw_qTable) 89 rfl fun b9 w12 hS11 => ya 3 1 rfl (yb (yf (yd [0] (ya 0 1 rfl (yb (W.block (bsk hr fun t13 hloop18 hr => have hlt24 := (h_p1.Cons).len_lt; W.wk (W.forN (m := p1.Cons.length) hloop18 (fun (i17 : Nat) => fun (s16 : qTable) fr w => ∃ I14 w_s16, fr = [(2, .string p2), (3, Pt b1 0), (4, Pt b5 0), (6, Pt b9 0), (8, Nv i17)] ∧ I.Le I14 ∧ St E w I14 ((Bx b1 (cs_qCatalog p0 w_p0) 29) :: (Bx b5 (cs_qTable p1 w_p1) 89) :: (Bx b9 (cs_qTable s16 w_s16) 89) :: Os) ∧ ok_qTable I14 s16 w_s16) ⟨I, zw_qTable, rfl, lr, hS11.front1.front2, zok_qTable⟩ ?_ ?_)))))))))
 rintro i17 s16 _ w21 hi25 ⟨I14, w_s16, rfl, hl15, hS22, h_s16⟩ x23 hr1 hext13
 refine yf (yd nL5 (yc 0 2 [4] rfl (yg (hS22.rf m1) rfl (ya 3 2 rfl (yb (yah fun _ => yi (En.next (yf (W.block (yd nL7 (yc 0 1 [4] rfl (yg (hS22.rf m1) rfl (ya 2 1 rfl ?_)))))))))))))
 obtain ⟨x26, hr1, hb_x26, _, ⟨w_x26, rfl, h_x26⟩, hc_x26⟩ := sl_ix ((RSl.mono h_p1.Cons hl15)) hr1
 refine y3 100 12 hb_x26 rfl (yak ((cs_qCons x26 w_x26)) hc_x26 0 hS22.rm rfl (yy hS22 (cs_qCons z_qCons zw_qCons) 100 rfl fun b27 w30 hS29 => yx hS29 0 (cs_qCons x26 w_x26) fun w32 hS31 => yb (yf (yd nL4 (yc 0 1 [0] rfl (yg (hS31.rf m0) rfl (ya 2 2 rfl (yb (W.cb hr1 (fun hc hr1 => ?_) (fun hc hr1 => ?_))))))))))
 exact yz (ym (yo (En.next (yaa nL3 (ya 0 1 rfl (yae i17 rfl (ya 2 1 rfl (WO.nil (yq ⟨s16, (sj hr1).symm, I14, w_s16, rfl, hl15, hS31.drop, h_s16⟩)))))))))
 refine yi (En.next (yd nL5 (y4 (rel := RStr) (xs := ([] : List ByteArray)) hS31 rfl (by kernel_rfl) rfl 9 1 [] (by kernel_rfl) rfl (Elr.nil) (fun _ _ _ => trivial) ?_)))
 intro a37 C35 w39 hS38 ho36
 refine yc 1 1 [2] rfl (yg (hS38.rf m1) rfl ?_)
 obtain ⟨x41, hx_x41, hr1⟩ := bsm hr1
 obtain ⟨h0_x41, he_x41⟩ := app_some hx_x41
 refine yaj 9 16 [(.string (⟨#[]⟩ : ByteArray))] hS38 ho36 h_x26.Cols hS38.im h0_x41 he_x41 rfl ?_
 intro a42 c43 w44 C45 hS46 ho47
 obtain ⟨I48, hl49, hS51, hp50⟩ := y6 ho47 hS46
 refine ya 4 1 rfl (yb (yf (yd nL16 (yc 0 1 [1] rfl (yg (hS51.rf m0) rfl (ya 2 2 rfl (bsk hr1 fun j52 hr2 hr1 => WO.jw (l1 := [4, 5, 6, 7, 8]) (J := (fun fr w => ∃ I54, fr = [(3, Pt b1 0), (4, Pt b5 0), (6, Pt b9 0), (8, Nv i17), (10, Sl a42 x41 c43), (40, .bool j52)] ∧ I48.Le I54 ∧ St E w I54 ((Bx b1 (cs_qCatalog p0 w_p0) 29) :: (Bx b5 (cs_qTable p1 w_p1) 89) :: (Bx b9 (cs_qTable s16 w_s16) 89) :: Os))) ?_ ?_)))))))
 refine WO.cb hr2 (fun hc hr2 => ?_) (fun hc hr2 => ?_)
 refine yl 35 hc (yv ((cs_qTable p1 w_p1)) (hS51.rf m2) rfl (ya 5 1 rfl (bsk hr2 fun r61 hx_r56 hr2 => WO.c1 (r17_keys_ok (h_p1.mono le) hp50 hS51 hx_r56) rfl fun I58 w57 hl59 hS60 => ya 7 1 rfl (yh 8 40 (.bool (r61 == 1)) ?_))))
 obtain rfl := sj hr2
 exact yw ⟨I58, rfl, hl59, hS60.drop⟩
 refine yl 35 hc ?_
 iterate 4 refine yt ?_
 refine yh 8 40 (.bool false) ?_
 obtain rfl := sj hr2
 exact yw ⟨I48, rfl, lr, hS51.drop⟩
 rintro _ w65 ⟨I54, rfl, hl55, hS66⟩
 refine ya 9 1 rfl (bsk hr1 fun j67 hr2 hr1 => WO.jw (l1 := [10, 11, 12, 13, 14, 15]) (J := (fun fr w => ∃ I69, fr = [(4, Pt b5 0), (6, Pt b9 0), (8, Nv i17), (47, .bool j67)] ∧ I54.Le I69 ∧ St E w I69 ((Bx b5 (cs_qTable p1 w_p1) 89) :: (Bx b9 (cs_qTable s16 w_s16) 89) :: Os))) ?_ ?_)
 refine WO.cb hr2 (fun hc hr2 => ?_) (fun hc hr2 => ?_)
 refine yl 41 hc (yv ((cs_qCatalog p0 w_p0)) (hS66.rf m0) rfl (yc 11 1 [0] rfl (yg (hS66.rf m1) rfl (ya 13 1 rfl (bsk hr2 fun _ hm71 hr2 => have nn_hm71 := nn_of (RSl.mono hp50 hl55) (must_some hm71); bsk hr2 fun r77 hx_r72 hr2 => WO.c1 (r17_refers_nnsl_ok (h_p0.mono le) (RSl.mono hp50 hl55) nn_hm71 hS66 hx_r72) rfl fun I74 w73 hl75 hS76 => yh 15 47 (.bool r77) ?_)))))
 obtain rfl := sj hr2
 exact yw ⟨I74, rfl, hl75, hS76.drop⟩
 refine yl 41 hc ?_
 iterate 5 refine yt ?_
 refine yh 15 47 (.bool false) ?_
 obtain rfl := sj hr2
 exact yw ⟨I54, rfl, lr, hS66.drop⟩
 rintro _ w80 ⟨I69, rfl, hl70, hS81⟩
 refine yb (W.cb hr1 (fun hc hr1 => ?_) (fun hc hr1 => ?_))
 refine yd nL3 (yv ((cs_qTable p1 w_p1)) (hS81.rf m0) rfl (yx hS81.front1 0 (cs_qTable p1 w_p1) fun w84 hS83 => ya 2 1 rfl (yb (W.ret (ye (yj (ye (yp ?_))))))))
 obtain rfl := hext13 _ (sj hr1).symm
 refine yj (ye ?_)
 obtain rfl := sj hr
 exact yan _ (hS83.rd m0) ⟨I69, w_p1, rfl, le, hS83.drop.drop, (h_p1.mono le)⟩
 refine yi (En.next (yd nL4 (yv ((cs_qTable p1 w_p1)) (hS81.rf m0) rfl (bsk hr1 fun r98 hx_r93 hr1 => yab (r17_Copy_ok (h_p1.mono le) hS81 hx_r93) ?_))))
 rintro _ w94 ⟨I95, w_r98, C_r98_3, C_r98_4, C_r98_5, rfl, hl96, hS97, h_r98_3, h_r98_4, h_r98_5⟩
 refine ⟨_, rfl, trivial, ?_⟩
 refine yy hS97 (cs_qTable z_qTable zw_qTable) 89 rfl ?_
 intro b99 w102 hS101
 obtain ⟨I104, hl105, hS107, hp106⟩ := y6 h_r98_3 hS101.front1
 obtain ⟨I109, hl110, hS112, hp111⟩ := y6 (h_r98_5.mono hl105) hS107.front2
 refine yx hS112 0 (cs_qTable ({ r98 with Cols := r98.Cols, Cons := r98.Cons, Idx := r98.Idx }) (⟨⟨w_r98.Cols.a, w_r98.Cols.c⟩, ⟨w_r98.Cons.a, w_r98.Cons.c⟩, ⟨w_r98.Idx.a, w_r98.Idx.c⟩⟩ : W_qTable)) fun w114 hS113 => y0 nL2 (yc 0 1 [4] rfl (yx hS113 4 (cs_qTable ({ r98 with Cols := r98.Cols, Cons := ([] : List qCons), Idx := r98.Idx }) (⟨⟨w_r98.Cols.a, w_r98.Cols.c⟩, ⟨none, 0⟩, ⟨w_r98.Idx.a, w_r98.Idx.c⟩⟩ : W_qTable)) fun w116 hS115 => yb (yf (have hS119 := hS115.front1.drop.drew; yat nL9 6 (KR.cons (hS119.rd m0) (KR.cons (hS119.rd m1) (KR.nil hS119.im))) ?_))))
 generalize World.drew _ = w120 at *
 refine yc 0 1 [4] rfl (yg (rd_c m0 (hS119.rd m0)) rfl (yc 2 1 [4] rfl (yg (rd_c m1 (hS119.rd m1)) rfl (ya 4 1 rfl ?_))))
 obtain ⟨x121, hx_x121, hr1⟩ := bsm hr1
 obtain ⟨h0_x121, h1_x121, h2_x121, he_x121⟩ := sub_some hx_x121
 have hl_x121 : ((i17 : Int) : Int) ≤ (w_p1.Cons.c : Int) := Int.le_trans h2_x121 (Int.ofNat_le.2 ((RSl.mono h_p1.Cons ((((((hl15.trans hl49).trans hl55).trans hl70).trans hl96).trans hl105).trans hl110))).le)
 refine WO.slice (e := 100) (sz := 12) rfl (by kernel_rfl) (by kernel_rfl) (by kernel_rfl) rfl (0 : Int) ((i17 : Int) : Int) h0_x121 (.inl ⟨rfl, rfl⟩) (.inr ⟨_, _, rfl, rfl⟩) h1_x121 hl_x121 ?_
 obtain ⟨a_x121, c_x121, h_x121, ev_x121⟩ := sub_ok ((RSl.mono h_p1.Cons ((((((hl15.trans hl49).trans hl55).trans hl70).trans hl96).trans hl105).trans hl110))) h0_x121 h1_x121 h2_x121 he_x121
 refine y7 57 rfl ev_x121 ?_
 refine WO.tail rfl ?_
 have hS123 := hS119.no
 obtain ⟨x124, hx_x124, hr1⟩ := bsm hr1
 obtain ⟨h0_x124, he_x124⟩ := app_some hx_x124
 refine WO.append (e' := 100) (b := 176) (zs := (cs_qCons z_qCons zw_qCons).toArray) hS123 (OwnSl.nil (T := 100) (rel := R_qCons) (I := I109)) rfl (by kernel_rfl) rfl (by kernel_rfl) (by kernel_rfl) (by kernel_rfl) rfl rfl rfl rfl h_x121 hS123.im h0_x124 he_x124 (fun _ _ _ => trivial) ?_
 intro a125 c126 w127 C128 hS129 ho130
 refine yc 7 1 [4] rfl (yx hS129.front1 4 (cs_qTable ({ r98 with Cols := r98.Cols, Cons := x124, Idx := r98.Idx }) (⟨⟨w_r98.Cols.a, w_r98.Cols.c⟩, ⟨a125, c126⟩, ⟨w_r98.Idx.a, w_r98.Idx.c⟩⟩ : W_qTable)) fun w133 hS132 => yb (yf (have hS134 := hS132.drew; yat nL10 7 (KR.cons (hS134.rd m0) (KR.cons (hS134.rd m2) (KR.nil hS134.im))) ?_)))
 generalize World.drew _ = w135 at *
 refine yc 0 1 [4] rfl (yg (rd_c m0 (hS134.rd m0)) rfl (yc 2 1 [4] rfl (yg (rd_c m1 (hS134.rd m2)) rfl (ya 4 2 rfl ?_))))
 obtain ⟨x136, hx_x136, hr1⟩ := bsm hr1
 obtain ⟨h0_x136, h1_x136, h2_x136, he_x136⟩ := sub_some hx_x136
 have hl_x136 : ((p1.Cons.length : Int) : Int) ≤ (w_p1.Cons.c : Int) := Int.le_trans h2_x136 (Int.ofNat_le.2 ((RSl.mono h_p1.Cons ((((((hl15.trans hl49).trans hl55).trans hl70).trans hl96).trans hl105).trans hl110))).le)
 refine WO.slice (e := 100) (sz := 12) rfl (by kernel_rfl) (by kernel_rfl) (by kernel_rfl) rfl ((w64 ((i17 : Int) + 1)) : Int) ((p1.Cons.length : Int) : Int) h0_x136 (.inr ⟨_, _, rfl, rfl⟩) (.inl ⟨rfl, rfl⟩) h1_x136 hl_x136 ?_
 obtain ⟨a_x136, c_x136, h_x136, ev_x136⟩ := sub_ok ((RSl.mono h_p1.Cons ((((((hl15.trans hl49).trans hl55).trans hl70).trans hl96).trans hl105).trans hl110))) h0_x136 h1_x136 h2_x136 he_x136
 refine y7 66 rfl ev_x136 ?_
 refine WO.tail rfl ?_
 have hS137 := hS134.front1
 obtain ⟨x138, hx_x138, hr1⟩ := bsm hr1
 obtain ⟨h0_x138, he_x138⟩ := app_some hx_x138
 refine yaj 100 176 (cs_qCons z_qCons zw_qCons) hS137 ho130 h_x136 hS137.im h0_x138 he_x138 rfl fun a139 c140 w141 C142 hS143 ho144 => yc 8 1 [4] rfl (yx hS143.front1 4 (cs_qTable ({ r98 with Cols := r98.Cols, Cons := x138, Idx := r98.Idx }) (⟨⟨w_r98.Cols.a, w_r98.Cols.c⟩, ⟨a139, c140⟩, ⟨w_r98.Idx.a, w_r98.Idx.c⟩⟩ : W_qTable)) fun w147 hS146 => y0 nL3 (yv ((cs_qTable ({ r98 with Cols := r98.Cols, Cons := x138, Idx := r98.Idx }) (⟨⟨w_r98.Cols.a, w_r98.Cols.c⟩, ⟨a139, c140⟩, ⟨w_r98.Idx.a, w_r98.Idx.c⟩⟩ : W_qTable))) (hS146.rf m0) rfl ?_))
 obtain ⟨I149, hl150, hS152, hp151⟩ := y6 ho144 hS146.front1
 refine yx hS152.front2 0 (cs_qTable ({ r98 with Cols := r98.Cols, Cons := x138, Idx := r98.Idx }) (⟨⟨w_r98.Cols.a, w_r98.Cols.c⟩, ⟨a139, c140⟩, ⟨w_r98.Idx.a, w_r98.Idx.c⟩⟩ : W_qTable)) fun w155 hS154 => ya 2 1 rfl (yb (W.ret (yj (ye (yp ?_)))))
 have hk156 : ok_qTable I149 ({ r98 with Cols := r98.Cols, Cons := x138, Idx := r98.Idx }) (⟨⟨w_r98.Cols.a, w_r98.Cols.c⟩, ⟨a139, c140⟩, ⟨w_r98.Idx.a, w_r98.Idx.c⟩⟩ : W_qTable) := ⟨(RSl.mono hp106 (hl110.trans hl150)), hp151, (RSl.mono hp111 hl150)⟩
 obtain rfl := hext13 _ (sj hr1).symm
 refine yj (ye ?_)
 have hk160 : ok_qTable I149 ({ r98 with Cols := r98.Cols, Cons := x138, Idx := r98.Idx }) (⟨⟨w_r98.Cols.a, w_r98.Cols.c⟩, ⟨a139, c140⟩, ⟨w_r98.Idx.a, w_r98.Idx.c⟩⟩ : W_qTable) := ⟨(RSl.mono hp106 (hl110.trans hl150)), hp151, (RSl.mono hp111 hl150)⟩
 obtain rfl := sj hr
 exact yan _ (hS154.rd m0) ⟨I149, (⟨⟨w_r98.Cols.a, w_r98.Cols.c⟩, ⟨a139, c140⟩, ⟨w_r98.Idx.a, w_r98.Idx.c⟩⟩ : W_qTable), rfl, le, hS154.drop.drop.drop, hk160⟩
 rintro s16 _ w161 ⟨I14, w_s16, rfl, hl15, hS162, h_s16⟩ he
 cases he
 refine yf (yd nL5 (yc 0 2 [4] rfl (yg (hS162.rf m1) rfl (ya 3 2 rfl (yb (yai fun _ => yz (ym (yn (yo (En.next (yd nL3 (yv ((cs_qTable p1 w_p1)) (hS162.rf m1) rfl (yx hS162.front2 0 (cs_qTable p1 w_p1) fun w165 hS164 => ya 2 1 rfl (yb (W.ret ?_)))))))))))))))
 obtain rfl := sj hr
 exact yan _ (hS164.rd m0) ⟨I14, w_p1, rfl, hl15, hS164.drop.drop.drop, (h_p1.mono hl15)⟩
noncomputable def r17_refers_nilsl (p0 : qCatalog) (p1 : ByteArray) (p2 : ByteArray) (p3 : ByteArray) : Option Bool := (forN (fun (i8 : Nat) => fun (_s : Unit) => (idx p0.Tables (i8 : Int)).bind (fun x15 => (loopO (fun (s25 : Int) => (some ((decide (s25 < (x15.Cons.length : Int))) && (!sEq x15.Name p2))).bind (fun (q31 : Bool) => (bif q31 then ((idx x15.Cons s25).bind (fun x38 => (bif ((x38.Kind != 3) || (!sEq x38.Table p1)) then some (.inl ()) else ((bif (sEq p3 (⟨#[]⟩ : ByteArray)) then some true else (r14_Has x38.Refs p3).bind (fun r59 => some r59))).bind (fun (j48 : Bool) => ((bif j48 then some true else some false)).bind (fun (j64 : Bool) => (bif j64 then some (.inr true) else some (.inl ()))))))).bind (fun (t : Unit ⊕ Bool) => match t with | (.inl ()) => some (.inl (w64 (s25 + 1))) | (.inr s75) => some (.inr (.inl s75))) else some (.inr (.inr ()))))) 0).bind (fun (t : Bool ⊕ Unit) => match t with | (.inl s77) => some (.inr s77) | (.inr ()) => some (.inl ())))) p0.Tables.length 0 ()).bind (fun (t : Unit ⊕ (Bool)) => match t with | .inl _ => some false | .inr s79 => some s79)
theorem r17_refers_nilsl_ok {p0 : qCatalog} {p1 : ByteArray} {p2 : ByteArray} {p3 : ByteArray} {w_p0 : W_qCatalog} (h_p0 : ok_qCatalog I p0 w_p0) (hS : St E w I Os) {r : Bool} (hr : r17_refers_nilsl p0 p1 p2 p3 = some r) :
    Calls P 51 #[(.agg (cs_qCatalog p0 w_p0).toArray), (.string p1), (.string p2), (.string p3), (.slice none 0 0)] w (fun e w' => ∃ I', e = .returned (.bool r) ∧ I.Le I' ∧ St E w' I' Os) := by
 refine calls_W (fn := Tryz.f51) rfl rfl rfl ?_
 unfold r17_refers_nilsl at hr
 refine yd nL2 (yy hS (cs_qCatalog p0 w_p0) 29 rfl fun b1 w4 hS3 => ya 1 1 rfl (yb (yf (yd [0] (ya 0 1 rfl (yb (W.block (bsk hr fun t5 hloop9 hr => have hlt13 := (h_p0.Tables).len_lt; W.wk (W.forN (m := p0.Tables.length) hloop9 (fun (i8 : Nat) => fun (_s : Unit) fr w => ∃ I6, fr = [(1, .string p1), (2, .string p2), (3, .string p3), (4, .slice none 0 0), (5, Pt b1 0), (11, Nv i8)] ∧ I.Le I6 ∧ St E w I6 ((Bx b1 (cs_qCatalog p0 w_p0) 29) :: Os)) ⟨I, rfl, lr, hS3⟩ ?_ ?_)))))))))
 rintro i8 _ _ w10 hi14 ⟨I6, rfl, hl7, hS11⟩ x12 hr1 hext5
 refine yf (yd nL5 (yc 0 2 [1] rfl (yg (hS11.rf m0) rfl (ya 3 2 rfl (yb (yah fun _ => yi (En.next (yf (W.block (yd nL7 (yc 0 1 [1] rfl (yg (hS11.rf m0) rfl (ya 2 1 rfl ?_)))))))))))))
 obtain ⟨x15, hr1, hb_x15, _, ⟨w_x15, rfl, h_x15⟩, hc_x15⟩ := sl_ix ((RSl.mono h_p0.Tables hl7)) hr1
 refine y3 89 6 hb_x15 rfl (yak ((cs_qTable x15 w_x15)) hc_x15 0 hS11.rm rfl (yy hS11 (cs_qTable z_qTable zw_qTable) 89 rfl fun b16 w19 hS18 => yx hS18 0 (cs_qTable x15 w_x15) fun w21 hS20 => y0 [0] (ya 0 1 rfl (yb (W.block (bsk hr1 fun t22 hloop26 hr1 => W.wk (yau hloop26 (fun (s25 : Int) fr w => ∃ I23, fr = [(1, .string p1), (2, .string p2), (3, .string p3), (4, .slice none 0 0), (5, Pt b1 0), (11, Nv i8), (12, Pt b16 0), (13, Iv s25)] ∧ I6.Le I23 ∧ St E w I23 ((Bx b1 (cs_qCatalog p0 w_p0) 29) :: (Bx b16 (cs_qTable x15 w_x15) 89) :: Os)) ⟨I6, rfl, lr, hS20.front1⟩ ?_)))))))
 rintro s25 _ w28 ⟨I23, rfl, hl24, hS29⟩ x30 hr2 hext22
 refine yf (yd nL11 (yc 0 2 [4] rfl (yg (hS29.rf m1) rfl (ya 3 3 rfl ?_))))
 obtain ⟨q31, hx_q31, hr2⟩ := bsm hr2
 replace hx_q31 := sj hx_q31
 refine yac (l1 := [6, 7, 8, 9, 10]) 37 q31 ?_ ?_
 refine yr (decide (s25 < (x15.Cons.length : Int))) (fun hc => ?_) (fun hc => ?_)
 exact yl 32 hc (yc 6 1 [0] rfl (yg (hS29.rf m1) rfl (ya 8 2 rfl (yh 10 37 (.bool (!sEq x15.Name p2)) (WO.mk 32 hc (by rw [← hx_q31, hc]; rfl))))))
 refine yl 32 hc ?_
 iterate 4 refine yt ?_
 exact yh 10 37 (.bool false) (WO.mk 32 hc (by rw [← hx_q31, hc]; rfl))
 refine yb (W.cb hr2 (fun hc hr2 => ?_) (fun hc hr2 => ?_))
 refine yi (En.next (yf (bsk hr2 fun j34 hr3 hr2 => W.jw (J := (fun fr w => ∃ I36, (.inl ()) = j34 ∧ fr = [(1, .string p1), (2, .string p2), (3, .string p3), (4, .slice none 0 0), (5, Pt b1 0), (11, Nv i8), (12, Pt b16 0), (13, Iv s25)] ∧ I23.Le I36 ∧ St E w I36 ((Bx b1 (cs_qCatalog p0 w_p0) 29) :: (Bx b16 (cs_qTable x15 w_x15) 89) :: Os))) ?_ ?_)))
 refine W.block (yd nL7 (yc 0 1 [4] rfl (yg (hS29.rf m1) rfl (ya 2 1 rfl ?_))))
 obtain ⟨x38, hr3, hb_x38, _, ⟨w_x38, rfl, h_x38⟩, hc_x38⟩ := sl_ix ((RSl.mono h_x15.Cons hl24)) hr3
 refine y3 100 12 hb_x38 rfl (yak ((cs_qCons x38 w_x38)) hc_x38 0 hS29.rm rfl (yy hS29 (cs_qCons z_qCons zw_qCons) 100 rfl fun b39 w42 hS41 => yx hS41 0 (cs_qCons x38 w_x38) fun w44 hS43 => yb (yf (yd nL9 (yc 0 1 [1] rfl (yg (hS43.rf m0) rfl (ya 2 2 rfl (yac (l1 := [4, 5, 6, 7, 8]) 53 ((x38.Kind != 3) || (!sEq x38.Table p1)) ?_ ?_))))))))
 refine yr (x38.Kind != 3) (fun hc => ?_) (fun hc => ?_)
 refine yl 48 hc ?_
 iterate 4 refine yt ?_
 exact yh 8 53 (.bool true) (WO.mk 48 hc (by rw [hc]; rfl))
 exact yl 48 hc (yc 4 1 [10] rfl (yg (hS43.rf m0) rfl (ya 6 2 rfl (yh 8 53 (.bool (!sEq x38.Table p1)) (WO.mk 48 hc (by rw [hc]; rfl))))))
 refine yb (W.cb hr3 (fun hc hr3 => ?_) (fun hc hr3 => ?_))
 exact yz (ym (yo (yq ⟨I23, sj hr3, rfl, lr, hS43.drop⟩)))
 refine yi (En.next (yd nL22 (ya 0 1 rfl (ya2 (e := 9) rfl (by kernel_rfl) (by kernel_rfl) rfl rfl ?_))))
 refine y7 55 rfl (v := .bool true) rfl ?_
 refine ya 2 4 rfl (bsk hr3 fun j48 hr4 hr3 => WO.jw (l1 := [6, 7, 8, 9, 10]) (J := (fun fr w => ∃ I50, fr = [(1, .string p1), (2, .string p2), (3, .string p3), (4, .slice none 0 0), (5, Pt b1 0), (11, Nv i8), (12, Pt b16 0), (13, Iv s25), (14, Pt b39 0), (56, .bool true), (64, .bool j48)] ∧ I23.Le I50 ∧ St E w I50 ((Bx b1 (cs_qCatalog p0 w_p0) 29) :: (Bx b16 (cs_qTable x15 w_x15) 89) :: (Bx b39 (cs_qCons x38 w_x38) 100) :: Os))) ?_ ?_)
 refine WO.cb hr4 (fun hc hr4 => ?_) (fun hc hr4 => ?_)
 refine yl 59 hc ?_
 iterate 4 refine yt ?_
 refine yh 10 64 (.bool true) ?_
 obtain rfl := sj hr4
 exact yw ⟨I23, rfl, lr, hS43.front2.front2⟩
 refine yl 59 hc (yc 6 1 [11] rfl (yg (hS43.rf m0) rfl (ya 8 1 rfl (bsk hr4 fun r59 hx_r54 hr4 => WO.c1 (r14_Has_ok h_x38.Refs hS43 hx_r54) rfl fun I56 w55 hl57 hS58 => yh 10 64 (.bool r59) ?_))))
 obtain rfl := sj hr4
 exact yw ⟨I56, rfl, hl57, hS58.front2.front2⟩
 rintro _ w62 ⟨I50, rfl, hl51, hS63⟩
 refine yh 11 65 (.bool j48) (ya 12 1 rfl (bsk hr3 fun j64 hr4 hr3 => WO.jw (l1 := [13, 14, 15, 16, 17, 18, 19, 20, 21]) (J := (fun fr w => ∃ I66, fr = [(1, .string p1), (2, .string p2), (3, .string p3), (4, .slice none 0 0), (5, Pt b1 0), (11, Nv i8), (12, Pt b16 0), (13, Iv s25), (75, .bool j64)] ∧ I50.Le I66 ∧ St E w I66 ((Bx b1 (cs_qCatalog p0 w_p0) 29) :: (Bx b16 (cs_qTable x15 w_x15) 89) :: Os))) ?_ ?_))
 refine WO.cb hr4 (fun hc hr4 => ?_) (fun hc hr4 => ?_)
 refine yl 66 hc ?_
 iterate 8 refine yt ?_
 refine yh 21 75 (.bool true) ?_
 obtain rfl := sj hr4
 exact yw ⟨I50, rfl, lr, hS63.front2.drop⟩
 refine yl 66 hc (ya 13 1 rfl (WO.neNil (e := 9) rfl (by kernel_rfl) (by kernel_rfl) rfl rfl ?_))
 refine y7 68 rfl (v := .bool false) rfl ?_
 refine ya 15 1 rfl ?_
 iterate 4 refine yt ?_
 refine WO.vs 20 [(74, .bool false), (75, .bool false)] ?_
 obtain rfl := sj hr4
 exact yw ⟨I50, rfl, lr, hS63.front2.drop⟩
 rintro _ w72 ⟨I66, rfl, hl67, hS73⟩
 refine yb (W.cb hr3 (fun hc hr3 => ?_) (fun hc hr3 => ?_))
 refine yd [0] (ya 0 1 rfl (yb (W.ret (yj (yp ?_)))))
 obtain rfl := sj hr3
 refine ye (yp ?_)
 obtain rfl := hext22 _ (sj hr2).symm
 refine yj (yj (ye (yp ?_)))
 obtain rfl := hext5 _ (sj hr1).symm
 refine yj (ye ?_)
 obtain rfl := sj hr
 exact yu ⟨I66, rfl, le, hS73.drop.drop⟩
 exact yi (yk (yq ⟨I66, sj hr3, rfl, le, hS73⟩))
 rintro _ w87 ⟨I36, rfl, rfl, hl37, hS88⟩
 exact En.next (yaa nL3 (ya 0 3 rfl (WO.nil (yq ⟨(w64 (s25 + 1)), (sj hr2).symm, I36, rfl, le, hS88⟩))))
 refine yz (ym (yn ?_))
 obtain rfl := hext22 _ (sj hr2).symm
 exact yo (yk (En.next (yaa nL3 (ya 0 1 rfl (yae i8 rfl (ya 2 1 rfl (WO.nil (yq ⟨(), (sj hr1).symm, I23, rfl, le, hS29.front1.drop⟩))))))))
 rintro _ _ w93 ⟨I6, rfl, hl7, hS94⟩ he
 cases he
 refine yf (yd nL5 (yc 0 2 [1] rfl (yg (hS94.rf m0) rfl (ya 3 2 rfl (yb (yai fun _ => yz (ym (yn (yo (En.next (yd [0] (ya 0 1 rfl (yb (W.ret ?_))))))))))))))
 obtain rfl := sj hr
 exact yu ⟨I6, rfl, hl7, hS94.drop⟩
noncomputable def r17_turned (p0 : qCatalog) (p1 : qTable) (p2 : qStmt) : Option (qTable × Int) := (r17_Copy p1).bind (fun r22 => (r14_Names p1).bind (fun (r34, r35) => ((bif (p2.Kind == 3) then (bif ((p2.Cols.length : Int) != 1) then some (.inl (2, p1)) else (idx p2.Cols 0).bind (fun x64 => (r14_Col p1 x64.Name).bind (fun r70 => (bif (decide (r70 ≥ 0)) then some (.inl (19, p1)) else (idx p2.Cols 0).bind (fun x84 => (app 32 r22.Cols ([x84] : List qColumn)).bind (fun x93 => some (.inr (z_qTable, x93, r22.Cons, r22.Idx)))))))) else ((bif (p2.Kind == 4) then (r14_Col p1 p2.Name).bind (fun r129 => (bif (decide (r129 < 0)) then some (.inl (4, p1)) else ((bif ((p1.Cols.length : Int) == 1) then some true else (r14_Used p1).bind (fun r171 => (r14_Has r171 p2.Name).bind (fun r177 => some r177)))).bind (fun (j154 : Bool) => ((bif j154 then some true else ((bif (!sEq p2.Name (⟨#[]⟩ : ByteArray)) then (r17_refers_nilsl p0 p1.Name (⟨#[]⟩ : ByteArray) p2.Name).bind (fun r201 => some r201) else some false)).bind (fun (j192 : Bool) => some j192))).bind (fun (j188 : Bool) => (bif j188 then some (.inl (34, p1)) else (sub p1.Cols 0 r129).bind (fun x224 => (app 32 ([] : List qColumn) x224).bind (fun x227 => (sub p1.Cols (w64 (r129 + 1)) (p1.Cols.length : Int)).bind (fun x239 => (app 32 x227 x239).bind (fun x241 => some (.inr (z_qTable, x241, r22.Cons, r22.Idx))))))))))) else ((bif (p2.Kind == 6) then (bif ((p2.Cons.length : Int) != 1) then some (.inl (2, p1)) else (idx p2.Cons 0).bind (fun x292 => (r14_Has r35 x292.Name).bind (fun r298 => (bif r298 then some (.inl (19, p1)) else (bif (decide ((p1.Cons.length : Int) ≥ 6)) then some (.inl (5, p1)) else (idx p2.Cons 0).bind (fun x323 => (app 176 r22.Cons ([x323] : List qCons)).bind (fun x332 => some (.inr (z_qTable, x332, r22.Idx))))))))) else ((bif (p2.Kind == 8) then (r14_Has r35 p2.Name).bind (fun r367 => (bif r367 then some (.inl (19, p1)) else (bif (decide ((p1.Idx.length : Int) ≥ 3)) then some (.inl (5, p1)) else (app 40 r22.Idx ([(⟨p2.Name, p2.Names⟩ : qIndex)] : List qIndex)).bind (fun x410 => some (.inr (z_qTable, x410)))))) else (bif (p2.Kind == 7) then (r17_dropped p0 p1 p2.Name).bind (fun (r440, r441) => some (.inl (r441, r440))) else (bif (p2.Kind == 9) then (forN (fun (i458 : Nat) => fun (s : qTable × (List qIndex)) => match s with | (s456, s457) => (idx p1.Idx (i458 : Int)).bind (fun x476 => (bif (sEq x476.Name p2.Name) then (sub p1.Idx 0 (i458 : Int)).bind (fun x484 => (app 40 ([] : List qIndex) x484).bind (fun x487 => (sub p1.Idx (w64 ((i458 : Int) + 1)) (p1.Idx.length : Int)).bind (fun x499 => (app 40 x487 x499).bind (fun x501 => some (.inr ((0 : Int), { r22 with Cols := r22.Cols, Cons := r22.Cons, Idx := x501 })))))) else some (.inl (s456, s457))))) p1.Idx.length 0 (z_qTable, r22.Idx)).bind (fun (t : (qTable × (List qIndex)) ⊕ ((Int × qTable))) => match t with | .inl (s456, s457) => some (.inl (4, p1)) | .inr (s530, s531) => some (.inl (s530, s531))) else some (.inr (z_qTable, r22.Idx)))))).bind (fun (t : (Int × qTable) ⊕ (qTable × (List qIndex))) => match t with | (.inl (s372, s373)) => some (.inl (s372, s373)) | (.inr (s422, s423)) => some (.inr (s422, r22.Cons, s423))))).bind (fun (t : (Int × qTable) ⊕ (qTable × (List qCons) × (List qIndex))) => match t with | (.inl (s274, s275)) => some (.inl (s274, s275)) | (.inr (s344, s345, s346)) => some (.inr (s344, r22.Cols, s345, s346))))).bind (fun (t : (Int × qTable) ⊕ (qTable × (List qColumn) × (List qCons) × (List qIndex))) => match t with | (.inl (s134, s135)) => some (.inl (s134, s135)) | (.inr (s251, s252, s253, s254)) => some (.inr (s251, s252, s253, s254))))).bind (fun (t : (Int × qTable) ⊕ (qTable × (List qColumn) × (List qCons) × (List qIndex))) => match t with | (.inl (s44, s45)) => some (s45, s44) | (.inr (s105, s106, s107, s108)) => some ({ r22 with Cols := s106, Cons := s107, Idx := s108 }, 0))))
theorem r17_turned_ok {p0 : qCatalog} {p1 : qTable} {p2 : qStmt} {w_p0 : W_qCatalog} {w_p1 : W_qTable} {w_p2 : W_qStmt} (h_p0 : ok_qCatalog I p0 w_p0) (h_p1 : ok_qTable I p1 w_p1) (h_p2 : ok_qStmt I p2 w_p2) (hS : St E w I Os) {r : qTable × Int} (hr : r17_turned p0 p1 p2 = some r) :
    Calls P 53 #[(.agg (cs_qCatalog p0 w_p0).toArray), (.agg (cs_qTable p1 w_p1).toArray), (.agg (cs_qStmt p2 w_p2).toArray)] w (fun e w' => ∃ I' w_rw0, e = .returned (.tuple #[(.agg (cs_qTable r.1 w_rw0).toArray), (Iv r.2)]) ∧ I.Le I' ∧ St E w' I' Os ∧ ok_qTable I' r.1 w_rw0) := by
 refine calls_W (fn := Tryz.f53) rfl rfl rfl ?_
 unfold r17_turned at hr
 refine yd nL5 (yy hS (cs_qCatalog p0 w_p0) 29 rfl fun b1 w4 hS3 => yy hS3 (cs_qTable p1 w_p1) 89 rfl fun b5 w8 hS7 => yy hS7 (cs_qStmt p2 w_p2) 44 rfl fun b9 w12 hS11 => yy hS11 (cs_qTable z_qTable zw_qTable) 89 rfl fun b13 w16 hS15 => ya 4 1 rfl (y0 nL4 (yv ((cs_qTable p1 w_p1)) (hS15.rf m2) rfl (bsk hr fun r22 hx_r17 hr => yab (r17_Copy_ok h_p1 hS15 hx_r17) ?_))))
 rintro _ w18 ⟨I19, w_r22, C_r22_3, C_r22_4, C_r22_5, rfl, hl20, hS21, h_r22_3, h_r22_4, h_r22_5⟩
 refine ⟨_, rfl, trivial, ?_⟩
 refine yy hS21 (cs_qTable z_qTable zw_qTable) 89 rfl fun b23 w26 hS25 => yx hS25 0 (cs_qTable ({ r22 with Cols := r22.Cols, Cons := r22.Cons, Idx := r22.Idx }) (⟨⟨w_r22.Cols.a, w_r22.Cols.c⟩, ⟨w_r22.Cons.a, w_r22.Cons.c⟩, ⟨w_r22.Idx.a, w_r22.Idx.c⟩⟩ : W_qTable)) fun w28 hS27 => y0 nL7 (yv ((cs_qTable p1 w_p1)) (hS27.rf m6) rfl ?_)
 obtain ⟨⟨r34, r35⟩, hx_r29, hr⟩ := bsm hr
 refine yab (r14_Names_ok (h_p1.mono hl20) hS27 hx_r29) ?_
 rintro _ w30 ⟨I31, a_r34, c_r34, a_r35, c_r35, rfl, hl32, hS33, h_r34, h_r35⟩
 refine ⟨_, rfl, trivial, ?_⟩
 refine ya 2 5 rfl (yb (yf (yd nL2 (yc 0 1 [0] rfl (yg (hS33.rf m5) rfl (yb (W.block (yd nL2 (ya 0 2 rfl (yb (bsk hr fun j36 hr1 hr => W.jw (J := (fun fr w => ∃ (s105 : qTable) (s106 : List qColumn) (s107 : List qCons) (s108 : List qIndex), ∃ I38 w_s105 a_s106 c_s106 C_s106 a_s107 c_s107 C_s107 a_s108 c_s108 C_s108, (.inr (s105, s106, s107, s108)) = j36 ∧ fr = [(6, Pt b13 0), (8, Pt b23 0)] ∧ I31.Le I38 ∧ St E w I38 ((Bx b13 (cs_qTable s105 w_s105) 89) :: (Bx b23 (cs_qTable ({ r22 with Cols := s106, Cons := s107, Idx := s108 }) (⟨⟨a_s106, c_s106⟩, ⟨a_s107, c_s107⟩, ⟨a_s108, c_s108⟩⟩ : W_qTable)) 89) :: (C_s106) :: (C_s107) :: (C_s108) :: Os) ∧ ok_qTable I38 s105 w_s105 ∧ OwnSl 73 3 R_qColumn I38 C_s106 a_s106 c_s106 s106 ∧ OwnSl 100 12 R_qCons I38 C_s107 a_s107 c_s107 s107 ∧ OwnSl 124 2 R_qIndex I38 C_s108 a_s108 c_s108 s108)) ?_ ?_)))))))))))
 refine W.cb hr1 (fun hc hr1 => ?_) (fun hc hr1 => ?_)
 refine yf (yd nL4 (yc 0 1 [4] rfl (yg (hS33.rf m5) rfl (ya 2 2 rfl (yb (W.cb hr1 (fun hc hr1 => ?_) (fun hc hr1 => ?_)))))))
 refine yd nL3 (yv ((cs_qTable p1 w_p1)) (hS33.rf m6) rfl (yx hS33.front4 0 (cs_qTable p1 w_p1) fun w42 hS41 => ya 2 1 rfl (yb (W.ret (ye (yp ?_))))))
 obtain rfl := sj hr1
 refine yj (ye ?_)
 obtain rfl := sj hr
 exact yan _ (hS41.rd m0) ⟨I31, w_p1, rfl, le, hS41.drop.drop.drop.drop.drop.drop.drop.drop, (h_p1.mono le)⟩
 refine yi (En.next (yf (yf (have hS62 := hS33.drew; yat nL8 6 (KR.cons (hS62.rd m5) (KR.cons (hS62.rd m6) (KR.nil hS62.im))) ?_))))
 generalize World.drew _ = w63 at *
 refine yv ((cs_qTable p1 w_p1)) (rd_c m1 (hS62.rd m6)) rfl (yc 1 1 [4] rfl (yg (rd_c m0 (hS62.rd m5)) rfl ?_))
 obtain ⟨x64, hr1, hb_x64, _, rfl, hc_x64⟩ := sl_ix ((RSl.mono h_p2.Cols (hl20.trans hl32))) hr1
 refine y3 73 3 hb_x64 rfl (yc 4 1 [0] rfl (yaf hc_x64 (rd_i hS62.im) rfl (WO.tail rfl (bsk hr1 fun r70 hx_r65 hr1 => WO.c1 (r14_Col_ok (h_p1.mono le) hS62 hx_r65) rfl fun I67 w66 hl68 hS69 => ya 7 1 rfl (yb (W.cb hr1 (fun hc hr1 => ?_) (fun hc hr1 => ?_)))))))
 refine yd nL3 (yv ((cs_qTable p1 w_p1)) (hS69.rf m6) rfl (yx hS69.front4 0 (cs_qTable p1 w_p1) fun w73 hS72 => ya 2 1 rfl (yb (W.ret (ye (yp ?_))))))
 obtain rfl := sj hr1
 refine yj (ye ?_)
 obtain rfl := sj hr
 exact yan _ (hS72.rd m0) ⟨I67, w_p1, rfl, le, hS72.drop.drop.drop.drop.drop.drop.drop.drop, (h_p1.mono le)⟩
 refine yi (En.next (have hS82 := hS69.drew; yat nL10 7 (KR.cons (hS82.rd m0) (KR.cons (hS82.rd m5) (KR.nil hS82.im))) ?_))
 generalize World.drew _ = w83 at *
 refine yc 0 1 [3] rfl (yg (rd_c m0 (hS82.rd m0)) rfl (yc 2 1 [4] rfl (yg (rd_c m1 (hS82.rd m5)) rfl ?_)))
 obtain ⟨x84, hr1, hb_x84, _, rfl, hc_x84⟩ := sl_ix ((RSl.mono h_p2.Cols ((hl20.trans hl32).trans hl68))) hr1
 refine y3 73 3 hb_x84 rfl (yak ((cs_qColumn x84)) hc_x84 0 (rd_i hS82.im) rfl (y4 (rel := R_qColumn) (xs := ([x84] : List qColumn)) hS82 rfl (by kernel_rfl) rfl 73 3 [(cs_qColumn x84)] (by kernel_rfl) rfl ((Elr.cons rfl Elr.nil)) (fun C86 w90 hS89 => (KR.cons (hS89.rd m1) (KR.cons (hS89.rd m6) (KR.nil hS89.im)))) ?_))
 intro a88 C86 w90 hS89 ho87
 refine WO.tail rfl ?_
 have hS92 := hS89.front2
 obtain ⟨x93, hx_x93, hr1⟩ := bsm hr1
 obtain ⟨h0_x93, he_x93⟩ := app_some hx_x93
 exact yaj 73 32 (cs_qColumn z_qColumn) hS92 (OwnSl.mono h_r22_3 le) ho87.sl (hS92.rd m1) h0_x93 he_x93 rfl fun a94 c95 w96 C97 hS98 ho99 => yc 8 1 [3] rfl (yx hS98.front1.drop.front1 3 (cs_qTable ({ r22 with Cols := x93, Cons := r22.Cons, Idx := r22.Idx }) (⟨⟨a94, c95⟩, ⟨w_r22.Cons.a, w_r22.Cons.c⟩, ⟨w_r22.Idx.a, w_r22.Idx.c⟩⟩ : W_qTable)) fun w104 hS103 => WO.nil (yq ⟨z_qTable, x93, r22.Cons, r22.Idx, I67, zw_qTable, a94, c95, C97, w_r22.Cons.a, w_r22.Cons.c, C_r22_4, w_r22.Idx.a, w_r22.Idx.c, C_r22_5, sj hr1, rfl, hl68, hS103.front5.drop.front5.drop.front5.drop.front3.front3.front3.front3.front4, zok_qTable, ho99, (OwnSl.mono h_r22_4 le), (OwnSl.mono h_r22_5 le)⟩))
 refine yd nL2 (ya 0 2 rfl (yb (bsk hr1 fun j120 hr2 hr1 => W.jw (J := (fun fr w => ∃ (s251 : qTable) (s252 : List qColumn) (s253 : List qCons) (s254 : List qIndex), ∃ I122 w_s251 a_s252 c_s252 C_s252 a_s253 c_s253 C_s253 a_s254 c_s254 C_s254, (.inr (s251, s252, s253, s254)) = j120 ∧ fr = [(6, Pt b13 0), (8, Pt b23 0)] ∧ I31.Le I122 ∧ St E w I122 ((Bx b13 (cs_qTable s251 w_s251) 89) :: (Bx b23 (cs_qTable ({ r22 with Cols := s252, Cons := s253, Idx := s254 }) (⟨⟨a_s252, c_s252⟩, ⟨a_s253, c_s253⟩, ⟨a_s254, c_s254⟩⟩ : W_qTable)) 89) :: (C_s252) :: (C_s253) :: (C_s254) :: Os) ∧ ok_qTable I122 s251 w_s251 ∧ OwnSl 73 3 R_qColumn I122 C_s252 a_s252 c_s252 s252 ∧ OwnSl 100 12 R_qCons I122 C_s253 a_s253 c_s253 s253 ∧ OwnSl 124 2 R_qIndex I122 C_s254 a_s254 c_s254 s254)) ?_ ?_)))
 refine W.cb hr2 (fun hc hr2 => ?_) (fun hc hr2 => ?_)
 refine yd nL5 (yv ((cs_qTable p1 w_p1)) (hS33.rf m6) rfl (yc 1 1 [2] rfl (yg (hS33.rf m5) rfl (bsk hr2 fun r129 hx_r124 hr2 => WO.c1 (r14_Col_ok (h_p1.mono le) hS33 hx_r124) rfl fun I126 w125 hl127 hS128 => ya 4 1 rfl (yb (yf (yd nL2 (ya 0 2 rfl (yb (W.cb hr2 (fun hc hr2 => ?_) (fun hc hr2 => ?_)))))))))))
 refine yd nL3 (yv ((cs_qTable p1 w_p1)) (hS128.rf m6) rfl (yx hS128.front4 0 (cs_qTable p1 w_p1) fun w132 hS131 => ya 2 1 rfl (yb (W.ret (ye (yp ?_))))))
 obtain rfl := sj hr2
 refine yp ?_
 obtain rfl := sj hr1
 refine yj (ye ?_)
 obtain rfl := sj hr
 exact yan _ (hS131.rd m0) ⟨I126, w_p1, rfl, le, hS131.drop.drop.drop.drop.drop.drop.drop.drop, (h_p1.mono le)⟩
 refine yi (En.next (yf (yf (have hS152 := hS128.drew; yat nL24 24 (KR.cons (hS152.rd m5) (KR.cons (hS152.rd m6) (KR.cons (hS152.rd m7) (KR.nil hS152.im)))) ?_))))
 generalize World.drew _ = w153 at *
 refine yc 0 1 [3] rfl (yg (rd_c m1 (hS152.rd m6)) rfl (ya 2 3 rfl (bsk hr2 fun j154 hr3 hr2 => WO.jw (l1 := [5, 6, 7, 8, 9, 10]) (J := (fun fr w => ∃ I156, fr = [(3, Pt b1 0), (4, Pt b5 0), (5, Pt b9 0), (6, Pt b13 0), (8, Pt b23 0), (11, Iv r129), (66, .bool j154)] ∧ I126.Le I156 ∧ St E w I156 ((Bx b1 (cs_qCatalog p0 w_p0) 29) :: (Bx b5 (cs_qTable p1 w_p1) 89) :: (Bx b9 (cs_qStmt p2 w_p2) 44) :: (Bx b13 (cs_qTable z_qTable zw_qTable) 89) :: (Bx b23 (cs_qTable ({ r22 with Cols := r22.Cols, Cons := r22.Cons, Idx := r22.Idx }) (⟨⟨w_r22.Cols.a, w_r22.Cols.c⟩, ⟨w_r22.Cons.a, w_r22.Cons.c⟩, ⟨w_r22.Idx.a, w_r22.Idx.c⟩⟩ : W_qTable)) 89) :: (C_r22_3) :: (C_r22_4) :: (C_r22_5) :: Os))) ?_ ?_)))
 refine WO.cb hr3 (fun hc hr3 => ?_) (fun hc hr3 => ?_)
 refine yl 60 hc ?_
 iterate 5 refine yt ?_
 refine yh 10 66 (.bool true) ?_
 obtain rfl := sj hr3
 exact yw ⟨I126, rfl, lr, hS152.front3.front3.front3.front3.front4.front5.front6.front7⟩
 refine yl 60 hc (yv ((cs_qTable p1 w_p1)) (rd_c m1 (hS152.rd m6)) rfl (bsk hr3 fun r171 hx_r166 hr3 => yab (r14_Used_ok (h_p1.mono le) hS152 hx_r166) ?_))
 rintro _ w167 ⟨I168, a_r171, c_r171, rfl, hl169, hS170, h_r171⟩
 refine ⟨_, rfl, (KR.cons (hS170.rd m5) (KR.cons (hS170.rd m6) (KR.cons (hS170.rd m7) (KR.nil (hS170.im.of_le hl169))))), ?_⟩
 refine yc 7 1 [2] rfl (yg (rd_c m0 (hS170.rd m5)) rfl (bsk hr3 fun r177 hx_r172 hr3 => yab (r14_Has_ok h_r171 hS170 hx_r172) ?_))
 rintro _ w173 ⟨I174, rfl, hl175, hS176⟩
 refine ⟨_, rfl, (KR.cons (hS176.rd m5) (KR.cons (hS176.rd m6) (KR.cons (hS176.rd m7) (KR.nil (hS176.im.of_le le))))), ?_⟩
 refine yh 10 66 (.bool r177) ?_
 obtain rfl := sj hr3
 exact yw ⟨I174, rfl, le, hS176.front3.front3.front3.front3.front4.front5.front6.front7⟩
 rintro _ w186 ⟨I156, rfl, hl157, hS187⟩
 refine ya 11 1 rfl (bsk hr2 fun j188 hr3 hr2 => WO.jw (l1 := [12, 13, 14, 15, 16, 17, 18, 19, 20, 21, 22, 23]) (J := (fun fr w => ∃ I190, fr = [(4, Pt b5 0), (6, Pt b13 0), (8, Pt b23 0), (11, Iv r129), (79, .bool j188)] ∧ I156.Le I190 ∧ St E w I190 ((Bx b1 (cs_qCatalog p0 w_p0) 29) :: (Bx b5 (cs_qTable p1 w_p1) 89) :: (Bx b9 (cs_qStmt p2 w_p2) 44) :: (Bx b13 (cs_qTable z_qTable zw_qTable) 89) :: (Bx b23 (cs_qTable ({ r22 with Cols := r22.Cols, Cons := r22.Cons, Idx := r22.Idx }) (⟨⟨w_r22.Cols.a, w_r22.Cols.c⟩, ⟨w_r22.Cons.a, w_r22.Cons.c⟩, ⟨w_r22.Idx.a, w_r22.Idx.c⟩⟩ : W_qTable)) 89) :: (C_r22_3) :: (C_r22_4) :: (C_r22_5) :: Os))) ?_ ?_)
 refine WO.cb hr3 (fun hc hr3 => ?_) (fun hc hr3 => ?_)
 refine yl 67 hc ?_
 iterate 11 refine yt ?_
 refine yh 23 79 (.bool true) ?_
 obtain rfl := sj hr3
 exact yw ⟨I156, rfl, lr, hS187⟩
 refine yl 67 hc (yc 12 1 [2] rfl (yg (rd_c m0 (hS187.rd m2)) rfl (ya 14 2 rfl (bsk hr3 fun j192 hr4 hr3 => WO.jw (l1 := [16, 17, 18, 19, 20, 21, 22]) (J := (fun fr w => ∃ I194, fr = [(4, Pt b5 0), (6, Pt b13 0), (8, Pt b23 0), (11, Iv r129), (67, .bool false), (78, .bool j192)] ∧ I156.Le I194 ∧ St E w I194 ((Bx b1 (cs_qCatalog p0 w_p0) 29) :: (Bx b5 (cs_qTable p1 w_p1) 89) :: (Bx b9 (cs_qStmt p2 w_p2) 44) :: (Bx b13 (cs_qTable z_qTable zw_qTable) 89) :: (Bx b23 (cs_qTable ({ r22 with Cols := r22.Cols, Cons := r22.Cons, Idx := r22.Idx }) (⟨⟨w_r22.Cols.a, w_r22.Cols.c⟩, ⟨w_r22.Cons.a, w_r22.Cons.c⟩, ⟨w_r22.Idx.a, w_r22.Idx.c⟩⟩ : W_qTable)) 89) :: (C_r22_3) :: (C_r22_4) :: (C_r22_5) :: Os))) ?_ ?_))))
 refine WO.cb hr4 (fun hc hr4 => ?_) (fun hc hr4 => ?_)
 refine yl 71 hc (yv ((cs_qCatalog p0 w_p0)) (rd_c m2 (hS187.rd m0)) rfl (yc 17 1 [0] rfl (yg (rd_c m1 (hS187.rd m1)) rfl (yc 19 1 [2] rfl (yg (rd_c m0 (hS187.rd m2)) rfl (bsk hr4 fun r201 hx_r196 hr4 => yab (r17_refers_nilsl_ok (h_p0.mono le) hS187 hx_r196) ?_))))))
 rintro _ w197 ⟨I198, rfl, hl199, hS200⟩
 refine ⟨_, rfl, (KR.cons (hS200.rd m2) (KR.cons (hS200.rd m1) (KR.cons (hS200.rd m0) (KR.nil (hS200.im.of_le le))))), ?_⟩
 refine yh 22 78 (.bool r201) ?_
 obtain rfl := sj hr4
 exact yw ⟨I198, rfl, hl199, hS200⟩
 refine yl 71 hc ?_
 iterate 6 refine yt ?_
 refine yh 22 78 (.bool false) ?_
 obtain rfl := sj hr4
 exact yw ⟨I156, rfl, lr, hS187⟩
 rintro _ w202 ⟨I194, rfl, hl195, hS203⟩
 refine yh 23 79 (.bool j192) ?_
 obtain rfl := sj hr3
 exact yw ⟨I194, rfl, hl195, hS203⟩
 rintro _ w204 ⟨I190, rfl, hl191, hS205⟩
 refine yb (W.cb hr2 (fun hc hr2 => ?_) (fun hc hr2 => ?_))
 refine yd nL3 (yv ((cs_qTable p1 w_p1)) (hS205.rf m1) rfl (yx hS205.front3 0 (cs_qTable p1 w_p1) fun w208 hS207 => ya 2 1 rfl (yb (W.ret (ye (yp ?_))))))
 obtain rfl := sj hr2
 refine yp ?_
 obtain rfl := sj hr1
 refine yj (ye ?_)
 obtain rfl := sj hr
 exact yan _ (hS207.rd m0) ⟨I190, w_p1, rfl, le, hS207.drop.drop.drop.drop.drop.drop.drop.drop, (h_p1.mono le)⟩
 refine yi (En.next (yd nL2 (yc 0 1 [3] rfl (yx hS205.front4 3 (cs_qTable ({ r22 with Cols := ([] : List qColumn), Cons := r22.Cons, Idx := r22.Idx }) (⟨⟨none, 0⟩, ⟨w_r22.Cons.a, w_r22.Cons.c⟩, ⟨w_r22.Idx.a, w_r22.Idx.c⟩⟩ : W_qTable)) fun w219 hS218 => yb (yf (have hS222 := hS218.front5.drop.drew; yat nL9 6 (KR.cons (hS222.rd m0) (KR.cons (hS222.rd m2) (KR.nil hS222.im))) ?_))))))
 generalize World.drew _ = w223 at *
 refine yc 0 1 [3] rfl (yg (rd_c m0 (hS222.rd m0)) rfl (yc 2 1 [3] rfl (yg (rd_c m1 (hS222.rd m2)) rfl (ya 4 1 rfl ?_))))
 obtain ⟨x224, hx_x224, hr2⟩ := bsm hr2
 obtain ⟨h0_x224, h1_x224, h2_x224, he_x224⟩ := sub_some hx_x224
 have hl_x224 : (r129 : Int) ≤ (w_p1.Cols.c : Int) := Int.le_trans h2_x224 (Int.ofNat_le.2 ((RSl.mono h_p1.Cols ((((hl20.trans hl32).trans hl127).trans hl157).trans hl191))).le)
 refine WO.slice (e := 73) (sz := 3) rfl (by kernel_rfl) (by kernel_rfl) (by kernel_rfl) rfl (0 : Int) (r129 : Int) h0_x224 (.inl ⟨rfl, rfl⟩) (.inr ⟨_, _, rfl, rfl⟩) h1_x224 hl_x224 ?_
 obtain ⟨a_x224, c_x224, h_x224, ev_x224⟩ := sub_ok ((RSl.mono h_p1.Cols ((((hl20.trans hl32).trans hl127).trans hl157).trans hl191))) h0_x224 h1_x224 h2_x224 he_x224
 refine y7 87 rfl ev_x224 ?_
 refine WO.tail rfl ?_
 have hS226 := hS222.no
 obtain ⟨x227, hx_x227, hr2⟩ := bsm hr2
 obtain ⟨h0_x227, he_x227⟩ := app_some hx_x227
 refine WO.append (e' := 73) (b := 32) (zs := (cs_qColumn z_qColumn).toArray) hS226 (OwnSl.nil (T := 73) (rel := R_qColumn) (I := I190)) rfl (by kernel_rfl) rfl (by kernel_rfl) (by kernel_rfl) (by kernel_rfl) rfl rfl rfl rfl h_x224 hS226.im h0_x227 he_x227 (fun _ _ _ => trivial) ?_
 intro a228 c229 w230 C231 hS232 ho233
 refine yc 7 1 [3] rfl (yx hS232.front1 3 (cs_qTable ({ r22 with Cols := x227, Cons := r22.Cons, Idx := r22.Idx }) (⟨⟨a228, c229⟩, ⟨w_r22.Cons.a, w_r22.Cons.c⟩, ⟨w_r22.Idx.a, w_r22.Idx.c⟩⟩ : W_qTable)) fun w236 hS235 => yb (have hS237 := hS235.drew; yat nL10 7 (KR.cons (hS237.rd m0) (KR.cons (hS237.rd m3) (KR.nil hS237.im))) ?_))
 generalize World.drew _ = w238 at *
 refine yc 0 1 [3] rfl (yg (rd_c m0 (hS237.rd m0)) rfl (yc 2 1 [3] rfl (yg (rd_c m1 (hS237.rd m3)) rfl (ya 4 2 rfl ?_))))
 obtain ⟨x239, hx_x239, hr2⟩ := bsm hr2
 obtain ⟨h0_x239, h1_x239, h2_x239, he_x239⟩ := sub_some hx_x239
 have hl_x239 : ((p1.Cols.length : Int) : Int) ≤ (w_p1.Cols.c : Int) := Int.le_trans h2_x239 (Int.ofNat_le.2 ((RSl.mono h_p1.Cols ((((hl20.trans hl32).trans hl127).trans hl157).trans hl191))).le)
 refine WO.slice (e := 73) (sz := 3) rfl (by kernel_rfl) (by kernel_rfl) (by kernel_rfl) rfl ((w64 (r129 + 1)) : Int) ((p1.Cols.length : Int) : Int) h0_x239 (.inr ⟨_, _, rfl, rfl⟩) (.inl ⟨rfl, rfl⟩) h1_x239 hl_x239 ?_
 obtain ⟨a_x239, c_x239, h_x239, ev_x239⟩ := sub_ok ((RSl.mono h_p1.Cols ((((hl20.trans hl32).trans hl127).trans hl157).trans hl191))) h0_x239 h1_x239 h2_x239 he_x239
 refine y7 96 rfl ev_x239 ?_
 refine WO.tail rfl ?_
 have hS240 := hS237.front1
 obtain ⟨x241, hx_x241, hr2⟩ := bsm hr2
 obtain ⟨h0_x241, he_x241⟩ := app_some hx_x241
 exact yaj 73 32 (cs_qColumn z_qColumn) hS240 ho233 h_x239 hS240.im h0_x241 he_x241 rfl fun a242 c243 w244 C245 hS246 ho247 => yc 8 1 [3] rfl (yx hS246.front1 3 (cs_qTable ({ r22 with Cols := x241, Cons := r22.Cons, Idx := r22.Idx }) (⟨⟨a242, c243⟩, ⟨w_r22.Cons.a, w_r22.Cons.c⟩, ⟨w_r22.Idx.a, w_r22.Idx.c⟩⟩ : W_qTable)) fun w250 hS249 => WO.nil (yq ⟨z_qTable, x241, r22.Cons, r22.Idx, I190, zw_qTable, a242, c243, C245, w_r22.Cons.a, w_r22.Cons.c, C_r22_4, w_r22.Idx.a, w_r22.Idx.c, C_r22_5, sj hr2, rfl, le, hS249.front2.drop.front2.drop.front2.drop.front4.front4.front3.front3.front4, zok_qTable, ho247, (OwnSl.mono h_r22_4 le), (OwnSl.mono h_r22_5 le)⟩))
 refine yd nL2 (ya 0 2 rfl (yb (bsk hr2 fun j266 hr3 hr2 => W.jw (J := (fun fr w => ∃ (s344 : qTable) (s345 : List qCons) (s346 : List qIndex), ∃ I268 w_s344 a_s345 c_s345 C_s345 a_s346 c_s346 C_s346, (.inr (s344, s345, s346)) = j266 ∧ fr = [(6, Pt b13 0), (8, Pt b23 0)] ∧ I31.Le I268 ∧ St E w I268 ((Bx b13 (cs_qTable s344 w_s344) 89) :: (Bx b23 (cs_qTable ({ r22 with Cols := r22.Cols, Cons := s345, Idx := s346 }) (⟨⟨w_r22.Cols.a, w_r22.Cols.c⟩, ⟨a_s345, c_s345⟩, ⟨a_s346, c_s346⟩⟩ : W_qTable)) 89) :: (C_r22_3) :: (C_s345) :: (C_s346) :: Os) ∧ ok_qTable I268 s344 w_s344 ∧ OwnSl 100 12 R_qCons I268 C_s345 a_s345 c_s345 s345 ∧ OwnSl 124 2 R_qIndex I268 C_s346 a_s346 c_s346 s346)) ?_ ?_)))
 refine W.cb hr3 (fun hc hr3 => ?_) (fun hc hr3 => ?_)
 refine yf (yd nL4 (yc 0 1 [5] rfl (yg (hS33.rf m5) rfl (ya 2 2 rfl (yb (W.cb hr3 (fun hc hr3 => ?_) (fun hc hr3 => ?_)))))))
 refine yd nL3 (yv ((cs_qTable p1 w_p1)) (hS33.rf m6) rfl (yx hS33.front4 0 (cs_qTable p1 w_p1) fun w272 hS271 => ya 2 1 rfl (yb (W.ret (ye (yp ?_))))))
 obtain rfl := sj hr3
 refine yp ?_
 obtain rfl := sj hr2
 refine yp ?_
 obtain rfl := sj hr1
 refine yj (ye ?_)
 obtain rfl := sj hr
 exact yan _ (hS271.rd m0) ⟨I31, w_p1, rfl, le, hS271.drop.drop.drop.drop.drop.drop.drop.drop, (h_p1.mono le)⟩
 refine yi (En.next (yf (yd nL7 (yc 0 2 [5] rfl (yg (hS33.rf m5) rfl ?_)))))
 obtain ⟨x292, hr3, hb_x292, _, ⟨w_x292, rfl, h_x292⟩, hc_x292⟩ := sl_ix ((RSl.mono h_p2.Cons (hl20.trans hl32))) hr3
 refine y3 100 12 hb_x292 rfl (yc 4 1 [0] rfl (yaf hc_x292 hS33.rm rfl (bsk hr3 fun r298 hx_r293 hr3 => WO.c1 (r14_Has_ok h_r35 hS33 hx_r293) rfl fun I295 w294 hl296 hS297 => yb (W.cb hr3 (fun hc hr3 => ?_) (fun hc hr3 => ?_)))))
 refine yd nL3 (yv ((cs_qTable p1 w_p1)) (hS297.rf m6) rfl (yx hS297.front4 0 (cs_qTable p1 w_p1) fun w301 hS300 => ya 2 1 rfl (yb (W.ret (ye (yp ?_))))))
 obtain rfl := sj hr3
 refine yp ?_
 obtain rfl := sj hr2
 refine yp ?_
 obtain rfl := sj hr1
 refine yj (ye ?_)
 obtain rfl := sj hr
 exact yan _ (hS300.rd m0) ⟨I295, w_p1, rfl, le, hS300.drop.drop.drop.drop.drop.drop.drop.drop, (h_p1.mono le)⟩
 refine yi (En.next (yf (yd nL4 (yc 0 1 [4] rfl (yg (hS297.rf m6) rfl (ya 2 2 rfl (yb (W.cb hr3 (fun hc hr3 => ?_) (fun hc hr3 => ?_)))))))))
 refine yd nL3 (yv ((cs_qTable p1 w_p1)) (hS297.rf m6) rfl (yx hS297.front4 0 (cs_qTable p1 w_p1) fun w312 hS311 => ya 2 1 rfl (yb (W.ret (ye (yp ?_))))))
 obtain rfl := sj hr3
 refine yp ?_
 obtain rfl := sj hr2
 refine yp ?_
 obtain rfl := sj hr1
 refine yj (ye ?_)
 obtain rfl := sj hr
 exact yan _ (hS311.rd m0) ⟨I295, w_p1, rfl, le, hS311.drop.drop.drop.drop.drop.drop.drop.drop, (h_p1.mono le)⟩
 refine yi (En.next (have hS321 := hS297.drew; yat nL10 7 (KR.cons (hS321.rd m0) (KR.cons (hS321.rd m5) (KR.nil hS321.im))) ?_))
 generalize World.drew _ = w322 at *
 refine yc 0 1 [4] rfl (yg (rd_c m0 (hS321.rd m0)) rfl (yc 2 1 [5] rfl (yg (rd_c m1 (hS321.rd m5)) rfl ?_)))
 obtain ⟨x323, hr3, hb_x323, _, ⟨w_x323, rfl, h_x323⟩, hc_x323⟩ := sl_ix ((RSl.mono h_p2.Cons ((hl20.trans hl32).trans hl296))) hr3
 refine y3 100 12 hb_x323 rfl (yak ((cs_qCons x323 w_x323)) hc_x323 0 (rd_i hS321.im) rfl (y4 (rel := R_qCons) (xs := ([x323] : List qCons)) hS321 rfl (by kernel_rfl) rfl 100 12 [(cs_qCons x323 w_x323)] (by kernel_rfl) rfl ((Elr.cons ⟨w_x323, rfl, h_x323⟩ Elr.nil)) (fun C325 w329 hS328 => (KR.cons (hS328.rd m1) (KR.cons (hS328.rd m6) (KR.nil hS328.im)))) ?_))
 intro a327 C325 w329 hS328 ho326
 refine WO.tail rfl ?_
 have hS331 := hS328.front3
 obtain ⟨x332, hx_x332, hr3⟩ := bsm hr3
 obtain ⟨h0_x332, he_x332⟩ := app_some hx_x332
 exact yaj 100 176 (cs_qCons z_qCons zw_qCons) hS331 (OwnSl.mono h_r22_4 le) ho326.sl (hS331.rd m1) h0_x332 he_x332 rfl fun a333 c334 w335 C336 hS337 ho338 => yc 8 1 [4] rfl (yx hS337.front1.drop.front1 4 (cs_qTable ({ r22 with Cols := r22.Cols, Cons := x332, Idx := r22.Idx }) (⟨⟨w_r22.Cols.a, w_r22.Cols.c⟩, ⟨a333, c334⟩, ⟨w_r22.Idx.a, w_r22.Idx.c⟩⟩ : W_qTable)) fun w343 hS342 => WO.nil (yq ⟨z_qTable, x332, r22.Idx, I295, zw_qTable, a333, c334, C336, w_r22.Idx.a, w_r22.Idx.c, C_r22_5, sj hr3, rfl, hl296, hS342.front5.drop.front5.drop.front5.drop.front3.front2.front3.front3.front4, zok_qTable, ho338, (OwnSl.mono h_r22_5 le)⟩))
 refine yd nL2 (ya 0 2 rfl (yb (bsk hr3 fun j358 hr4 hr3 => W.jw (J := (fun fr w => ∃ (s422 : qTable) (s423 : List qIndex), ∃ I360 w_s422 a_s423 c_s423 C_s423, (.inr (s422, s423)) = j358 ∧ fr = [(6, Pt b13 0), (8, Pt b23 0)] ∧ I31.Le I360 ∧ St E w I360 ((Bx b13 (cs_qTable s422 w_s422) 89) :: (Bx b23 (cs_qTable ({ r22 with Cols := r22.Cols, Cons := r22.Cons, Idx := s423 }) (⟨⟨w_r22.Cols.a, w_r22.Cols.c⟩, ⟨w_r22.Cons.a, w_r22.Cons.c⟩, ⟨a_s423, c_s423⟩⟩ : W_qTable)) 89) :: (C_r22_3) :: (C_r22_4) :: (C_s423) :: Os) ∧ ok_qTable I360 s422 w_s422 ∧ OwnSl 124 2 R_qIndex I360 C_s423 a_s423 c_s423 s423)) ?_ ?_)))
 refine W.cb hr4 (fun hc hr4 => ?_) (fun hc hr4 => ?_)
 refine yf (yd nL4 (yc 0 2 [2] rfl (yg (hS33.rf m5) rfl (bsk hr4 fun r367 hx_r362 hr4 => WO.c1 (r14_Has_ok h_r35 hS33 hx_r362) rfl fun I364 w363 hl365 hS366 => yb (W.cb hr4 (fun hc hr4 => ?_) (fun hc hr4 => ?_))))))
 refine yd nL3 (yv ((cs_qTable p1 w_p1)) (hS366.rf m6) rfl (yx hS366.front4 0 (cs_qTable p1 w_p1) fun w370 hS369 => ya 2 1 rfl (yb (W.ret (ye (yp ?_))))))
 obtain rfl := sj hr4
 refine yp ?_
 obtain rfl := sj hr3
 refine yp ?_
 obtain rfl := sj hr2
 refine yp ?_
 obtain rfl := sj hr1
 refine yj (ye ?_)
 obtain rfl := sj hr
 exact yan _ (hS369.rd m0) ⟨I364, w_p1, rfl, le, hS369.drop.drop.drop.drop.drop.drop.drop.drop, (h_p1.mono le)⟩
 refine yi (En.next (yf (yd nL4 (yc 0 1 [5] rfl (yg (hS366.rf m6) rfl (ya 2 2 rfl (yb (W.cb hr4 (fun hc hr4 => ?_) (fun hc hr4 => ?_)))))))))
 refine yd nL3 (yv ((cs_qTable p1 w_p1)) (hS366.rf m6) rfl (yx hS366.front4 0 (cs_qTable p1 w_p1) fun w392 hS391 => ya 2 1 rfl (yb (W.ret (ye (yp ?_))))))
 obtain rfl := sj hr4
 refine yp ?_
 obtain rfl := sj hr3
 refine yp ?_
 obtain rfl := sj hr2
 refine yp ?_
 obtain rfl := sj hr1
 refine yj (ye ?_)
 obtain rfl := sj hr
 exact yan _ (hS391.rd m0) ⟨I364, w_p1, rfl, le, hS391.drop.drop.drop.drop.drop.drop.drop.drop, (h_p1.mono le)⟩
 refine yi (En.next (yaa nL11 (yc 0 1 [5] rfl (yg (hS366.rf m0) rfl (yc 2 1 [2] rfl (yg (hS366.rf m5) rfl (yc 4 1 [6] rfl (yg (hS366.rf m5) rfl (yh 6 146 (.agg (cs_qIndex (⟨p2.Name, p2.Names⟩ : qIndex) (⟨⟨w_p2.Names.a, w_p2.Names.c⟩⟩ : W_qIndex)).toArray) ?_)))))))))
 have hk408 : ok_qIndex I364 (⟨p2.Name, p2.Names⟩ : qIndex) (⟨⟨w_p2.Names.a, w_p2.Names.c⟩⟩ : W_qIndex) := ⟨(RSl.mono h_p2.Names ((hl20.trans hl32).trans hl365))⟩
 refine y4 (rel := R_qIndex) (xs := ([(⟨p2.Name, p2.Names⟩ : qIndex)] : List qIndex)) hS366 rfl (by kernel_rfl) rfl 124 2 [(cs_qIndex (⟨p2.Name, p2.Names⟩ : qIndex) (⟨⟨w_p2.Names.a, w_p2.Names.c⟩⟩ : W_qIndex))] (by kernel_rfl) rfl ((Elr.cons ⟨(⟨⟨w_p2.Names.a, w_p2.Names.c⟩⟩ : W_qIndex), rfl, hk408⟩ Elr.nil)) (fun _ _ _ => trivial) ?_
 intro a404 C402 w406 hS405 ho403
 have hS409 := hS405.front4
 obtain ⟨x410, hx_x410, hr4⟩ := bsm hr4
 obtain ⟨h0_x410, he_x410⟩ := app_some hx_x410
 exact yaj 124 40 (cs_qIndex z_qIndex zw_qIndex) hS409 (OwnSl.mono h_r22_5 le) ho403.sl (hS409.rd m1) h0_x410 he_x410 rfl fun a411 c412 w413 C414 hS415 ho416 => yc 9 1 [5] rfl (yx hS415.front1.drop.front1 5 (cs_qTable ({ r22 with Cols := r22.Cols, Cons := r22.Cons, Idx := x410 }) (⟨⟨w_r22.Cols.a, w_r22.Cols.c⟩, ⟨w_r22.Cons.a, w_r22.Cons.c⟩, ⟨a411, c412⟩⟩ : W_qTable)) fun w421 hS420 => WO.nil (yq ⟨z_qTable, x410, I364, zw_qTable, a411, c412, C414, sj hr4, rfl, hl365, hS420.front5.drop.front5.drop.front5.drop.front1.front3.front3.front3.front4, zok_qTable, ho416⟩))
 refine yd nL2 (ya 0 2 rfl (yb (W.cb hr4 (fun hc hr4 => ?_) (fun hc hr4 => ?_))))
 refine yd nL9 (yv ((cs_qCatalog p0 w_p0)) (hS33.rf m7) rfl (yv ((cs_qTable p1 w_p1)) (hS33.rf m6) rfl (yc 2 1 [2] rfl (yg (hS33.rf m5) rfl ?_))))
 obtain ⟨⟨r440, r441⟩, hx_r435, hr4⟩ := bsm hr4
 refine yab (r17_dropped_ok (h_p0.mono le) (h_p1.mono le) hS33 hx_r435) ?_
 rintro _ w436 ⟨I437, w_r440, rfl, hl438, hS439, h_r440⟩
 refine ⟨_, rfl, trivial, ?_⟩
 refine ya 5 2 rfl (yx hS439.front4 0 (cs_qTable r440 w_r440) fun w444 hS443 => ya 8 1 rfl (yb (W.ret (yp ?_))))
 obtain rfl := sj hr4
 refine yp ?_
 obtain rfl := sj hr3
 refine yp ?_
 obtain rfl := sj hr2
 refine yp ?_
 obtain rfl := sj hr1
 refine yj (ye ?_)
 obtain rfl := sj hr
 exact yan _ (hS443.rd m0) ⟨I437, w_r440, rfl, le, hS443.drop.drop.drop.drop.drop.drop.drop.drop, h_r440⟩
 refine yd nL2 (ya 0 2 rfl (yb (W.cb hr4 (fun hc hr4 => ?_) (fun hc hr4 => ?_))))
 refine yf (yd [0] (ya 0 1 rfl (yb (W.block (bsk hr4 fun t453 hloop459 hr4 => have hlt472 := ((RSl.mono h_p1.Idx (hl20.trans hl32))).len_lt; W.wk (W.forN (m := p1.Idx.length) hloop459 (fun (i458 : Nat) => fun (s : qTable × (List qIndex)) fr w => match s with | (s456, s457) => ∃ I454 w_s456 a_s457 c_s457 C_s457, fr = [(4, Pt b5 0), (5, Pt b9 0), (6, Pt b13 0), (8, Pt b23 0), (12, Nv i458)] ∧ I31.Le I454 ∧ St E w I454 ((Bx b5 (cs_qTable p1 w_p1) 89) :: (Bx b9 (cs_qStmt p2 w_p2) 44) :: (Bx b13 (cs_qTable s456 w_s456) 89) :: (Bx b23 (cs_qTable ({ r22 with Cols := r22.Cols, Cons := r22.Cons, Idx := s457 }) (⟨⟨w_r22.Cols.a, w_r22.Cols.c⟩, ⟨w_r22.Cons.a, w_r22.Cons.c⟩, ⟨a_s457, c_s457⟩⟩ : W_qTable)) 89) :: (C_r22_3) :: (C_r22_4) :: (C_s457) :: Os) ∧ ok_qTable I454 s456 w_s456 ∧ OwnSl 124 2 R_qIndex I454 C_s457 a_s457 c_s457 s457) ⟨I31, zw_qTable, w_r22.Idx.a, w_r22.Idx.c, C_r22_5, rfl, lr, hS33.front7.drop.front3.front3.front3.front3.front4.front5.front6, zok_qTable, (OwnSl.mono h_r22_5 hl32)⟩ ?_ ?_))))))
 rintro i458 ⟨s456, s457⟩ _ w469 hi473 ⟨I454, w_s456, a_s457, c_s457, C_s457, rfl, hl455, hS470, h_s456, h_s457⟩ x471 hr5 hext453
 refine yf (yd nL5 (yc 0 2 [5] rfl (yg (hS470.rf m0) rfl (ya 3 2 rfl (yb (yah fun _ => yi (En.next (yf (W.block (yf (have hS474 := hS470.drew; yat nL9 8 (KR.cons (hS474.rd m0) (KR.cons (hS474.rd m1) (KR.nil hS474.im))) ?_)))))))))))
 generalize World.drew _ = w475 at *
 refine yc 0 1 [5] rfl (yg (rd_c m0 (hS474.rd m0)) rfl (ya 2 1 rfl ?_))
 obtain ⟨x476, hr5, hb_x476, _, ⟨w_x476, rfl, h_x476⟩, hc_x476⟩ := sl_ix ((RSl.mono h_p1.Idx ((hl20.trans hl32).trans hl455))) hr5
 refine y3 124 2 hb_x476 rfl (yc 4 1 [0] rfl (yaf hc_x476 (rd_i hS474.im) rfl (yc 6 1 [2] rfl (yg (rd_c m1 (hS474.rd m1)) rfl (WO.tail rfl (ya 8 1 rfl (yb (W.cb hr5 (fun hc hr5 => ?_) (fun hc hr5 => ?_)))))))))
 refine yd nL2 (yc 0 1 [5] rfl (yx hS474.front3 5 (cs_qTable ({ r22 with Cols := r22.Cols, Cons := r22.Cons, Idx := ([] : List qIndex) }) (⟨⟨w_r22.Cols.a, w_r22.Cols.c⟩, ⟨w_r22.Cons.a, w_r22.Cons.c⟩, ⟨none, 0⟩⟩ : W_qTable)) fun w479 hS478 => yb (yf (have hS482 := hS478.front6.drop.drew; yat nL9 6 (KR.cons (hS482.rd m0) (KR.cons (hS482.rd m1) (KR.nil hS482.im))) ?_))))
 generalize World.drew _ = w483 at *
 refine yc 0 1 [5] rfl (yg (rd_c m0 (hS482.rd m0)) rfl (yc 2 1 [5] rfl (yg (rd_c m1 (hS482.rd m1)) rfl (ya 4 1 rfl ?_))))
 obtain ⟨x484, hx_x484, hr5⟩ := bsm hr5
 obtain ⟨h0_x484, h1_x484, h2_x484, he_x484⟩ := sub_some hx_x484
 have hl_x484 : ((i458 : Int) : Int) ≤ (w_p1.Idx.c : Int) := Int.le_trans h2_x484 (Int.ofNat_le.2 ((RSl.mono h_p1.Idx ((hl20.trans hl32).trans hl455))).le)
 refine WO.slice (e := 124) (sz := 2) rfl (by kernel_rfl) (by kernel_rfl) (by kernel_rfl) rfl (0 : Int) ((i458 : Int) : Int) h0_x484 (.inl ⟨rfl, rfl⟩) (.inr ⟨_, _, rfl, rfl⟩) h1_x484 hl_x484 ?_
 obtain ⟨a_x484, c_x484, h_x484, ev_x484⟩ := sub_ok ((RSl.mono h_p1.Idx ((hl20.trans hl32).trans hl455))) h0_x484 h1_x484 h2_x484 he_x484
 refine y7 183 rfl ev_x484 ?_
 refine WO.tail rfl ?_
 have hS486 := hS482.no
 obtain ⟨x487, hx_x487, hr5⟩ := bsm hr5
 obtain ⟨h0_x487, he_x487⟩ := app_some hx_x487
 refine WO.append (e' := 124) (b := 40) (zs := (cs_qIndex z_qIndex zw_qIndex).toArray) hS486 (OwnSl.nil (T := 124) (rel := R_qIndex) (I := I454)) rfl (by kernel_rfl) rfl (by kernel_rfl) (by kernel_rfl) (by kernel_rfl) rfl rfl rfl rfl h_x484 hS486.im h0_x487 he_x487 (fun _ _ _ => trivial) ?_
 intro a488 c489 w490 C491 hS492 ho493
 refine yc 7 1 [5] rfl (yx hS492.front1 5 (cs_qTable ({ r22 with Cols := r22.Cols, Cons := r22.Cons, Idx := x487 }) (⟨⟨w_r22.Cols.a, w_r22.Cols.c⟩, ⟨w_r22.Cons.a, w_r22.Cons.c⟩, ⟨a488, c489⟩⟩ : W_qTable)) fun w496 hS495 => yb (yf (have hS497 := hS495.drew; yat nL10 7 (KR.cons (hS497.rd m0) (KR.cons (hS497.rd m2) (KR.nil hS497.im))) ?_)))
 generalize World.drew _ = w498 at *
 refine yc 0 1 [5] rfl (yg (rd_c m0 (hS497.rd m0)) rfl (yc 2 1 [5] rfl (yg (rd_c m1 (hS497.rd m2)) rfl (ya 4 2 rfl ?_))))
 obtain ⟨x499, hx_x499, hr5⟩ := bsm hr5
 obtain ⟨h0_x499, h1_x499, h2_x499, he_x499⟩ := sub_some hx_x499
 have hl_x499 : ((p1.Idx.length : Int) : Int) ≤ (w_p1.Idx.c : Int) := Int.le_trans h2_x499 (Int.ofNat_le.2 ((RSl.mono h_p1.Idx ((hl20.trans hl32).trans hl455))).le)
 refine WO.slice (e := 124) (sz := 2) rfl (by kernel_rfl) (by kernel_rfl) (by kernel_rfl) rfl ((w64 ((i458 : Int) + 1)) : Int) ((p1.Idx.length : Int) : Int) h0_x499 (.inr ⟨_, _, rfl, rfl⟩) (.inl ⟨rfl, rfl⟩) h1_x499 hl_x499 ?_
 obtain ⟨a_x499, c_x499, h_x499, ev_x499⟩ := sub_ok ((RSl.mono h_p1.Idx ((hl20.trans hl32).trans hl455))) h0_x499 h1_x499 h2_x499 he_x499
 refine y7 192 rfl ev_x499 ?_
 refine WO.tail rfl ?_
 have hS500 := hS497.front1
 obtain ⟨x501, hx_x501, hr5⟩ := bsm hr5
 obtain ⟨h0_x501, he_x501⟩ := app_some hx_x501
 refine yaj 124 40 (cs_qIndex z_qIndex zw_qIndex) hS500 ho493 h_x499 hS500.im h0_x501 he_x501 rfl fun a502 c503 w504 C505 hS506 ho507 => yc 8 1 [5] rfl (yx hS506.front1 5 (cs_qTable ({ r22 with Cols := r22.Cols, Cons := r22.Cons, Idx := x501 }) (⟨⟨w_r22.Cols.a, w_r22.Cols.c⟩, ⟨w_r22.Cons.a, w_r22.Cons.c⟩, ⟨a502, c503⟩⟩ : W_qTable)) fun w510 hS509 => y0 nL3 (yv ((cs_qTable ({ r22 with Cols := r22.Cols, Cons := r22.Cons, Idx := x501 }) (⟨⟨w_r22.Cols.a, w_r22.Cols.c⟩, ⟨w_r22.Cons.a, w_r22.Cons.c⟩, ⟨a502, c503⟩⟩ : W_qTable))) (hS509.rf m0) rfl ?_))
 obtain ⟨I512, hl513, hS515, hp514⟩ := y6 (h_r22_3.mono (hl32.trans hl455)) hS509.front5
 obtain ⟨I517, hl518, hS520, hp519⟩ := y6 (h_r22_4.mono ((hl32.trans hl455).trans hl513)) hS515.front5
 obtain ⟨I522, hl523, hS525, hp524⟩ := y6 (ho507.mono (hl513.trans hl518)) hS520.front1
 refine yx hS525.front3 0 (cs_qTable ({ r22 with Cols := r22.Cols, Cons := r22.Cons, Idx := x501 }) (⟨⟨w_r22.Cols.a, w_r22.Cols.c⟩, ⟨w_r22.Cons.a, w_r22.Cons.c⟩, ⟨a502, c503⟩⟩ : W_qTable)) fun w528 hS527 => ya 2 1 rfl (yb (W.ret (yj (ye (yp ?_)))))
 have hk540 : ok_qTable I522 ({ r22 with Cols := r22.Cols, Cons := r22.Cons, Idx := x501 }) (⟨⟨w_r22.Cols.a, w_r22.Cols.c⟩, ⟨w_r22.Cons.a, w_r22.Cons.c⟩, ⟨a502, c503⟩⟩ : W_qTable) := ⟨(RSl.mono hp514 (hl518.trans hl523)), (RSl.mono hp519 hl523), hp524⟩
 obtain rfl := hext453 _ (sj hr5).symm
 refine yj (ye (yp ?_))
 have hk541 : ok_qTable I522 ({ r22 with Cols := r22.Cols, Cons := r22.Cons, Idx := x501 }) (⟨⟨w_r22.Cols.a, w_r22.Cols.c⟩, ⟨w_r22.Cons.a, w_r22.Cons.c⟩, ⟨a502, c503⟩⟩ : W_qTable) := ⟨(RSl.mono hp514 (hl518.trans hl523)), (RSl.mono hp519 hl523), hp524⟩
 obtain rfl := sj hr4
 refine yp ?_
 have hk542 : ok_qTable I522 ({ r22 with Cols := r22.Cols, Cons := r22.Cons, Idx := x501 }) (⟨⟨w_r22.Cols.a, w_r22.Cols.c⟩, ⟨w_r22.Cons.a, w_r22.Cons.c⟩, ⟨a502, c503⟩⟩ : W_qTable) := ⟨(RSl.mono hp514 (hl518.trans hl523)), (RSl.mono hp519 hl523), hp524⟩
 obtain rfl := sj hr3
 refine yp ?_
 have hk543 : ok_qTable I522 ({ r22 with Cols := r22.Cols, Cons := r22.Cons, Idx := x501 }) (⟨⟨w_r22.Cols.a, w_r22.Cols.c⟩, ⟨w_r22.Cons.a, w_r22.Cons.c⟩, ⟨a502, c503⟩⟩ : W_qTable) := ⟨(RSl.mono hp514 (hl518.trans hl523)), (RSl.mono hp519 hl523), hp524⟩
 obtain rfl := sj hr2
 refine yp ?_
 have hk544 : ok_qTable I522 ({ r22 with Cols := r22.Cols, Cons := r22.Cons, Idx := x501 }) (⟨⟨w_r22.Cols.a, w_r22.Cols.c⟩, ⟨w_r22.Cons.a, w_r22.Cons.c⟩, ⟨a502, c503⟩⟩ : W_qTable) := ⟨(RSl.mono hp514 (hl518.trans hl523)), (RSl.mono hp519 hl523), hp524⟩
 obtain rfl := sj hr1
 refine yj (ye ?_)
 have hk549 : ok_qTable I522 ({ r22 with Cols := r22.Cols, Cons := r22.Cons, Idx := x501 }) (⟨⟨w_r22.Cols.a, w_r22.Cols.c⟩, ⟨w_r22.Cons.a, w_r22.Cons.c⟩, ⟨a502, c503⟩⟩ : W_qTable) := ⟨(RSl.mono hp514 (hl518.trans hl523)), (RSl.mono hp519 hl523), hp524⟩
 obtain rfl := sj hr
 exact yan _ (hS527.rd m0) ⟨I522, (⟨⟨w_r22.Cols.a, w_r22.Cols.c⟩, ⟨w_r22.Cons.a, w_r22.Cons.c⟩, ⟨a502, c503⟩⟩ : W_qTable), rfl, le, hS527.drop.drop.drop.drop, hk549⟩
 exact yi (yk (En.next (yaa nL3 (ya 0 1 rfl (yae i458 rfl (ya 2 1 rfl (WO.nil (yq ⟨(s456, s457), (sj hr5).symm, I454, w_s456, a_s457, c_s457, C_s457, rfl, hl455, hS474, h_s456, h_s457⟩))))))))
 rintro ⟨s456, s457⟩ _ w550 ⟨I454, w_s456, a_s457, c_s457, C_s457, rfl, hl455, hS551, h_s456, h_s457⟩ he
 cases he
 refine yf (yd nL5 (yc 0 2 [5] rfl (yg (hS551.rf m0) rfl (ya 3 2 rfl (yb (yai fun _ => yz (ym (yn (yo (En.next (yd nL3 (yv ((cs_qTable p1 w_p1)) (hS551.rf m0) rfl (yx hS551.front2 0 (cs_qTable p1 w_p1) fun w554 hS553 => ya 2 1 rfl (yb (W.ret (yp ?_))))))))))))))))
 obtain rfl := sj hr4
 refine yp ?_
 obtain rfl := sj hr3
 refine yp ?_
 obtain rfl := sj hr2
 refine yp ?_
 obtain rfl := sj hr1
 refine yj (ye ?_)
 obtain rfl := sj hr
 exact yan _ (hS553.rd m0) ⟨I454, w_p1, rfl, le, hS553.drop.drop.drop.drop.drop.drop.drop, (h_p1.mono le)⟩
 exact yi (yq ⟨z_qTable, r22.Idx, I31, zw_qTable, w_r22.Idx.a, w_r22.Idx.c, C_r22_5, sj hr4, rfl, lr, hS33.front5.drop.front5.drop.front5.drop.front3.front3.front3.front3.front4, zok_qTable, (OwnSl.mono h_r22_5 hl32)⟩)
 rintro _ w573 ⟨s422, s423, I360, w_s422, a_s423, c_s423, C_s423, rfl, rfl, hl361, hS574, h_s422, h_s423⟩
 exact yq ⟨s422, r22.Cons, s423, I360, w_s422, w_r22.Cons.a, w_r22.Cons.c, C_r22_4, a_s423, c_s423, C_s423, sj hr3, rfl, hl361, hS574, h_s422, (OwnSl.mono h_r22_4 le), h_s423⟩
 rintro _ w575 ⟨s344, s345, s346, I268, w_s344, a_s345, c_s345, C_s345, a_s346, c_s346, C_s346, rfl, rfl, hl269, hS576, h_s344, h_s345, h_s346⟩
 exact yq ⟨s344, r22.Cols, s345, s346, I268, w_s344, w_r22.Cols.a, w_r22.Cols.c, C_r22_3, a_s345, c_s345, C_s345, a_s346, c_s346, C_s346, sj hr2, rfl, hl269, hS576, h_s344, (OwnSl.mono h_r22_3 le), h_s345, h_s346⟩
 rintro _ w577 ⟨s251, s252, s253, s254, I122, w_s251, a_s252, c_s252, C_s252, a_s253, c_s253, C_s253, a_s254, c_s254, C_s254, rfl, rfl, hl123, hS578, h_s251, h_s252, h_s253, h_s254⟩
 exact yq ⟨s251, s252, s253, s254, I122, w_s251, a_s252, c_s252, C_s252, a_s253, c_s253, C_s253, a_s254, c_s254, C_s254, sj hr1, rfl, hl123, hS578, h_s251, h_s252, h_s253, h_s254⟩
 rintro _ w579 ⟨s105, s106, s107, s108, I38, w_s105, a_s106, c_s106, C_s106, a_s107, c_s107, C_s107, a_s108, c_s108, C_s108, rfl, rfl, hl39, hS580, h_s105, h_s106, h_s107, h_s108⟩
 refine yk (En.next (yd nL3 (yv ((cs_qTable ({ r22 with Cols := s106, Cons := s107, Idx := s108 }) (⟨⟨a_s106, c_s106⟩, ⟨a_s107, c_s107⟩, ⟨a_s108, c_s108⟩⟩ : W_qTable))) (hS580.rf m1) rfl ?_)))
 obtain ⟨I582, hl583, hS585, hp584⟩ := y6 h_s106 hS580.front2
 obtain ⟨I587, hl588, hS590, hp589⟩ := y6 (h_s107.mono hl583) hS585.front2
 obtain ⟨I592, hl593, hS595, hp594⟩ := y6 (h_s108.mono (hl583.trans hl588)) hS590.front2
 refine yx hS595 0 (cs_qTable ({ r22 with Cols := s106, Cons := s107, Idx := s108 }) (⟨⟨a_s106, c_s106⟩, ⟨a_s107, c_s107⟩, ⟨a_s108, c_s108⟩⟩ : W_qTable)) fun w597 hS596 => ya 2 1 rfl (yb (W.ret ?_))
 have hk600 : ok_qTable I592 ({ r22 with Cols := s106, Cons := s107, Idx := s108 }) (⟨⟨a_s106, c_s106⟩, ⟨a_s107, c_s107⟩, ⟨a_s108, c_s108⟩⟩ : W_qTable) := ⟨(RSl.mono hp584 (hl588.trans hl593)), (RSl.mono hp589 hl593), hp594⟩
 obtain rfl := sj hr
 exact yan _ (hS596.rd m0) ⟨I592, (⟨⟨a_s106, c_s106⟩, ⟨a_s107, c_s107⟩, ⟨a_s108, c_s108⟩⟩ : W_qTable), rfl, le, hS596.drop.drop, hk600⟩
def r14_twice (p0 : List ByteArray) : Option Bool := (forN (fun (i4 : Nat) => fun (_s : Unit) => (sub p0 0 (i4 : Int)).bind (fun x13 => (idx p0 (i4 : Int)).bind (fun x14 => (r14_Has x13 x14).bind (fun r20 => (bif r20 then some (.inr true) else some (.inl ())))))) p0.length 0 ()).bind (fun (t : Unit ⊕ (Bool)) => match t with | .inl _ => some false | .inr s22 => some s22)
theorem r14_twice_ok {p0 : List ByteArray} {a_p0 : Option Addr} {c_p0 : Nat} (h_p0 : RSl 1 RStr I a_p0 c_p0 p0) (hS : St E w I Os) {r : Bool} (hr : r14_twice p0 = some r) :
    Calls P 153 #[(Sl a_p0 p0 c_p0)] w (fun e w' => ∃ I', e = .returned (.bool r) ∧ I.Le I' ∧ St E w' I' Os) := by
 refine calls_W (fn := Tryz.f153) rfl rfl rfl ?_
 unfold r14_twice at hr
 refine yd [0] (ya 0 1 rfl (yb (yf (yd [0] (ya 0 1 rfl (yb (W.block (bsk hr fun t1 hloop5 hr => have hlt9 := (h_p0).len_lt; W.wk (W.forN (m := p0.length) hloop5 (fun (i4 : Nat) => fun (_s : Unit) fr w => ∃ I2, fr = [(0, Sl a_p0 p0 c_p0), (3, Nv i4)] ∧ I.Le I2 ∧ St E w I2 Os) ⟨I, rfl, lr, hS⟩ ?_ ?_)))))))))
 rintro i4 _ _ w6 hi10 ⟨I2, rfl, hl3, hS7⟩ x8 hr1 hext1
 refine yf (yd nL4 (ya 0 4 rfl (yb (yah fun _ => yi (En.next (yf (W.block (yf (have hS11 := hS7.drew; yat nL8 7 (KR.nil hS11.im) ?_)))))))))
 generalize World.drew _ = w12 at *
 refine ya 0 2 rfl ?_
 obtain ⟨x13, hx_x13, hr1⟩ := bsm hr1
 obtain ⟨h0_x13, h1_x13, h2_x13, he_x13⟩ := sub_some hx_x13
 have hl_x13 : ((i4 : Int) : Int) ≤ (c_p0 : Int) := Int.le_trans h2_x13 (Int.ofNat_le.2 ((RSl.mono h_p0 hl3)).le)
 refine WO.slice (e := 9) (sz := 1) rfl (by kernel_rfl) (by kernel_rfl) (by kernel_rfl) rfl (0 : Int) ((i4 : Int) : Int) h0_x13 (.inl ⟨rfl, rfl⟩) (.inr ⟨_, _, rfl, rfl⟩) h1_x13 hl_x13 ?_
 obtain ⟨a_x13, c_x13, h_x13, ev_x13⟩ := sub_ok ((RSl.mono h_p0 hl3)) h0_x13 h1_x13 h2_x13 he_x13
 refine y7 12 rfl ev_x13 ?_
 refine ya 3 2 rfl ?_
 obtain ⟨x14, hr1, hb_x14, _, rfl, hc_x14⟩ := sl_ix ((RSl.mono h_p0 hl3)) hr1
 refine y3 9 1 hb_x14 rfl (yaf hc_x14 (rd_i hS11.im) rfl (WO.tail rfl (bsk hr1 fun r20 hx_r15 hr1 => WO.c1 (r14_Has_ok h_x13 hS11 hx_r15) rfl fun I17 w16 hl18 hS19 => yb (W.cb hr1 (fun hc hr1 => ?_) (fun hc hr1 => ?_)))))
 refine yd [0] (ya 0 1 rfl (yb (W.ret (yj (ye (yp ?_))))))
 obtain rfl := hext1 _ (sj hr1).symm
 refine yj (ye ?_)
 obtain rfl := sj hr
 exact yu ⟨I17, rfl, le, hS19⟩
 exact yi (yk (En.next (yaa nL3 (ya 0 1 rfl (yae i4 rfl (ya 2 1 rfl (WO.nil (yq ⟨(), (sj hr1).symm, I17, rfl, le, hS19⟩))))))))
 rintro _ _ w23 ⟨I2, rfl, hl3, hS24⟩ he
 cases he
 refine yf (yd nL4 (ya 0 4 rfl (yb (yai fun _ => yz (ym (yn (yo (En.next (yd [0] (ya 0 1 rfl (yb (W.ret ?_))))))))))))
 obtain rfl := sj hr
 exact yu ⟨I2, rfl, hl3, hS24⟩
end Go.Proofs.YtdmapcjbbbifbaaGreat
