/- What functions of the program come to, each by a plain one. Conditions: none. -/
import Derived.Test.YtdmapcjbbbifbaaGreatF4
import Derived.Test.YtdmapcjbbbifbaaGreatProg
set_option maxRecDepth 100000
namespace Go.Proofs.YtdmapcjbbbifbaaGreat
open Go.Gv
set_option maxHeartbeats 1000000
variable {E w : World} {I : Mem} {Os : List Mem}
noncomputable def table_Clone (p0 : qT) : Option qT := (slices_Clone_qL p0.Cols).bind (fun r14 => (slices_Clone_qK p0.Cons).bind (fun r27 => (forE (fun (i35 : Nat) => fun (s34 : List qK) => (idx s34 (i35 : Int)).bind (fun x45 => (slices_Clone_string x45.Cols).bind (fun r59 => (slices_Clone_string x45.Refs).bind (fun r65 => (expr_Clone x45.Check).bind (fun r71 => (idx s34 (i35 : Int)).bind (fun x72 => (idx (s34.set ((i35 : Int)).toNat ({ x72 with Cols := r59 })) (i35 : Int)).bind (fun x85 => (idx ((s34.set ((i35 : Int)).toNat ({ x72 with Cols := r59 })).set ((i35 : Int)).toNat ({ x85 with Refs := r65 })) (i35 : Int)).bind (fun x97 => some (((s34.set ((i35 : Int)).toNat ({ x72 with Cols := r59 })).set ((i35 : Int)).toNat ({ x85 with Refs := r65 })).set ((i35 : Int)).toNat ({ x97 with Check := r71 })))))))))) r27.length 0 r27).bind (fun s34 => (slices_Clone_qI p0.Idx).bind (fun r115 => (forE (fun (i123 : Nat) => fun (s122 : List qI) => (idx s122 (i123 : Int)).bind (fun x134 => (slices_Clone_string x134.Cols).bind (fun r148 => (idx s122 (i123 : Int)).bind (fun x149 => some (s122.set ((i123 : Int)).toNat ({ x149 with Cols := r148 })))))) r115.length 0 r115).bind (fun s122 => some { p0 with Cols := r14, Cons := s34, Idx := s122 })))))
theorem table_Clone_ok {p0 : qT} {w_p0 : W_qT} (h_p0 : ok_qT I p0 w_p0) (hS : St E w I Os) {r : qT} (hr : table_Clone p0 = some r) :
    Calls P 77 #[(vT p0 w_p0)] w (fun e w' => ∃ I' w_rw0, e = .returned (vT r w_rw0) ∧ I.Le I' ∧ St E w' I' Os ∧ ok_qT I' r w_rw0) := by
 refine calls_W (fn := Tryz.f77) rfl rfl rfl ?_
 unfold table_Clone at hr
 refine ye nL2 (yac hS (cs_qT p0 w_p0) 89 z fun b1 w4 S3 => yac S3 (cs_qT z_qT zw_qT) 89 z fun b5 w8 S7 => yz nL5 (yi 0 1 [3] z (yk (S7.rf m1) z (bsk hr fun r14 Xr9 hr => yaj (slices_Clone_qL_ok h_p0.Cols S7 Xr9) ?_))))
 rintro _ w10 ⟨I11, a_r14, c_r14, C_r14, rfl, L12, S13, h_r14⟩
 refine cv (yi 3 1 [3] z ?_)
 obtain ⟨I15, L16, S18, hp17⟩ := OwnSl.pub h_r14 S13
 refine yad S18.front1 3 (cs_qT ({ p0 with Cols := r14 }) ({ w_p0 with Cols := ⟨a_r14, c_r14⟩ })) fun w21 S20 => yz nL5 (yi 0 1 [4] z (yk (S20.rf m0) z (bsk hr fun r27 Xr22 hr => yaj (slices_Clone_qK_ok (up h_p0.Cons) S20 Xr22) ?_)))
 rintro _ w23 ⟨I24, a_r27, c_r27, C_r27, rfl, L25, S26, h_r27⟩
 refine cv (yi 3 1 [4] z (yad S26.front1 4 (cs_qT ({ p0 with Cols := r14, Cons := r27 }) ({ w_p0 with Cols := ⟨a_r14, c_r14⟩, Cons := ⟨a_r27, c_r27⟩ })) fun w30 S29 => yb (yh (ye nL4 (yi 0 1 [4] z (yk (S29.rf m0) z (ya 2 2 z (yb (yo (bsk hr fun s34 hloop36 hr => have hlt43 := (h_r27.sl).len_lt; W.wk (ya1 (m := r27.length) hloop36 (fun (i35 : Nat) => fun (s34 : List qK) fr w => ∃ I32 C_s34, fr = [(1, Pt b1 0), (2, Pt b5 0), (16, Sl a_r27 s34 c_r27), (17, Nv r27.length), (18, Nv i35)] ∧ I24.Le I32 ∧ St E w I32 ((Bx b1 (cs_qT ({ p0 with Cols := r14, Cons := s34 }) ({ w_p0 with Cols := ⟨a_r14, c_r14⟩, Cons := ⟨a_r27, c_r27⟩ })) 89) :: (bT b5 z_qT zw_qT) :: (C_s34) :: Os) ∧ OwnSl 100 12 R_qK I32 C_s34 a_r27 c_r27 s34) ⟨I24, C_r27, rfl, lr, S29.front1.front2.front2, h_r27⟩ ?_ ?_)))))))))))
 rintro i35 s34 _ w40 hi44 ⟨I32, C_s34, rfl, L33, S41, h_s34⟩ x42 R1
 refine ye [0] (ya 0 1 z (yb (yh (yaw fun _ => yl (yc (yh (yo (ye nL6 (ya 0 1 z ?_)))))))))
 obtain ⟨x45, R1, Hx45, _, ⟨w_x45, rfl, h_x45⟩, Zx45⟩ := sl_ix (h_s34.sl) R1
 refine yag 100 12 Hx45 z (ya0 ((cs_qK x45 w_x45)) Zx45 0 (S41.rf m2) z (yac S41 (cs_qK z_qK zw_qK) 100 z fun b46 w49 S48 => ya 4 1 z (yad S48 0 (cs_qK x45 w_x45) fun w51 S50 => yb (have S52 := S50.drew; yby (l := nL27) kr 24 (KR I32 [bK b46 x45 w_x45, Bx b1 (cs_qT ({ p0 with Cols := r14, Cons := s34 }) ({ w_p0 with Cols := ⟨a_r14, c_r14⟩, Cons := ⟨a_r27, c_r27⟩ })) 89]) qR (.ords nL27 [0, 1, 2, 9, 10, 11, 12, 13, 14, 15, 16, 17, 18, 19, 20, 3, 4, 5, 21, 22, 23, 6, 7, 8, 24, 25, 26] kr kr kr kr kr) kr (yv (S52.rd m0) (yv (S52.rd m1) (yae S52.im))) ?_))))
 generalize World.drew _ = w53 at *
 refine yi 0 1 [4] z (yk (rd_c m1 (S52.rd m1)) z (yi 2 2 [4] z (yk (rd_c m1 (S52.rd m1)) z (yi 5 2 [4] z (yk (rd_c m1 (S52.rd m1)) z (yi 8 2 [2] z (yk (rd_c m0 (S52.rd m0)) z (bsk R1 fun r59 Xr54 R1 => yaj (slices_Clone_string_ok h_x45.Cols S52 Xr54) ?_))))))))
 rintro _ w55 ⟨I56, a_r59, c_r59, C_r59, rfl, L57, S58, h_r59⟩
 refine ⟨_, rfl, (yv (S58.rd m1) (yv (S58.rd m2) (yae (S58.im.of_le L57)))), ?_⟩
 refine yi 12 1 [11] z (yk (rd_c m0 (S58.rd m1)) z (bsk R1 fun r65 Xr60 R1 => yaj (slices_Clone_string_ok (RSl.mono h_x45.Refs L57) S58 Xr60) ?_))
 rintro _ w61 ⟨I62, a_r65, c_r65, C_r65, rfl, L63, S64, h_r65⟩
 refine ⟨_, rfl, (yv (S64.rd m2) (yv (S64.rd m3) (yae (S64.im.of_le le)))), ?_⟩
 refine yi 15 1 [3] z (yaa ((cs_qE x45.Check w_x45.Check)) (rd_c m0 (S64.rd m2)) z (bsk R1 fun r71 Xr66 R1 => yaj (expr_Clone_ok (h_x45.Check.mono le) S64 Xr66) ?_))
 rintro _ w67 ⟨I68, w_r71, rfl, L69, S70, h_r71⟩
 refine ⟨_, rfl, (yv (S70.rd m2) (yv (S70.rd m3) (yae (S70.im.of_le le)))), ?_⟩
 obtain ⟨x72, R1, h0_x72, h1_x72, Xx72, ha_x72, _, _, ⟨w_x72, rfl, h_x72⟩, Zx72⟩ := sl_at (h_s34.sl) R1
 refine ybd 100 12 ha_x72 h0_x72 h1_x72 ?_
 refine yi 19 1 [2] z ?_
 obtain ⟨I74, L75, S77, hp76⟩ := OwnSl.pub (h_r59.mono (L63.trans L69)) S70.front1
 have hk83 : ok_qK I74 ({ x72 with Cols := r59 }) ({ w_x72 with Cols := ⟨a_r59, c_r59⟩ }) := ⟨hp76, (h_x72.Check.mono (((L57.trans L63).trans L69).trans L75)), (RSl.mono h_x72.Refs (((L57.trans L63).trans L69).trans L75))⟩
 refine ya4 S77.front4 (OwnSl.mono h_s34 le) z kr z Xx72 (u' := { x72 with Cols := r59 }) 2 z z kr z z (fun cs hrel => (by obtain ⟨w_zz, rfl, h_zz⟩ := hrel; exact ⟨{ w_zz with Cols := ⟨a_r59, c_r59⟩ }, rfl, { h_zz with Cols := hp76 }⟩)) (fun w80 C81 S79 => (yv (S79.rd m2) (yv (S79.rd m3) (yae (S79.im.of_le le))))) ?_
 intro w80 C81 S79 ho82
 refine y8 16 z (show Value.slice a_r27 s34.length c_r27 = Value.slice a_r27 (s34.set ((i35 : Int)).toNat ({ x72 with Cols := r59 })).length c_r27 by simp only [List.length_set]) ?_
 refine y8 24 z (show Value.slice a_r27 s34.length c_r27 = Value.slice a_r27 (s34.set ((i35 : Int)).toNat ({ x72 with Cols := r59 })).length c_r27 by simp only [List.length_set]) ?_
 refine y8 27 z (show Value.slice a_r27 s34.length c_r27 = Value.slice a_r27 (s34.set ((i35 : Int)).toNat ({ x72 with Cols := r59 })).length c_r27 by simp only [List.length_set]) ?_
 refine y8 30 z (show Value.slice a_r27 s34.length c_r27 = Value.slice a_r27 (s34.set ((i35 : Int)).toNat ({ x72 with Cols := r59 })).length c_r27 by simp only [List.length_set]) ?_
 have S84 : St E w80 I74 ((C81) :: (C_r65) :: (bK b46 x45 w_x45) :: (Bx b1 (cs_qT ({ p0 with Cols := r14, Cons := (s34.set ((i35 : Int)).toNat ({ x72 with Cols := r59 })) }) ({ w_p0 with Cols := ⟨a_r14, c_r14⟩, Cons := ⟨a_r27, c_r27⟩ })) 89) :: (bT b5 z_qT zw_qT) :: Os) := by have hq := S79; simp only [cs_qT, List.length_set] at hq ⊢; exact hq
 obtain ⟨x85, R1, h0_x85, h1_x85, Xx85, ha_x85, _, _, ⟨w_x85, rfl, h_x85⟩, Zx85⟩ := sl_at (ho82.sl) R1
 refine ybd 100 12 ha_x85 h0_x85 h1_x85 ?_
 refine yi 22 1 [11] z ?_
 obtain ⟨I87, L88, S90, hp89⟩ := OwnSl.pub (h_r65.mono (L69.trans L75)) S84.front1
 have hk95 : ok_qK I87 ({ x85 with Refs := r65 }) ({ w_x85 with Refs := ⟨a_r65, c_r65⟩ }) := ⟨(RSl.mono h_x85.Cols L88), (h_x85.Check.mono L88), hp89⟩
 refine ya4 S90 (OwnSl.mono ho82 L88) z kr z Xx85 (u' := { x85 with Refs := r65 }) 11 z z kr z z (fun cs hrel => (by obtain ⟨w_zz, rfl, h_zz⟩ := hrel; exact ⟨{ w_zz with Refs := ⟨a_r65, c_r65⟩ }, rfl, { h_zz with Refs := hp89 }⟩)) (fun w92 C93 S91 => (yv (S91.rd m1) (yv (Rdb.eq (by simp only [cs_qT, List.length_set]) (S91.rd m2)) (yae (S91.im.of_le le))))) ?_
 intro w92 C93 S91 ho94
 refine y8 16 z (show Value.slice a_r27 (s34.set ((i35 : Int)).toNat ({ x72 with Cols := r59 })).length c_r27 = Value.slice a_r27 ((s34.set ((i35 : Int)).toNat ({ x72 with Cols := r59 })).set ((i35 : Int)).toNat ({ x85 with Refs := r65 })).length c_r27 by simp only [List.length_set]) ?_
 refine y8 24 z (show Value.slice a_r27 (s34.set ((i35 : Int)).toNat ({ x72 with Cols := r59 })).length c_r27 = Value.slice a_r27 ((s34.set ((i35 : Int)).toNat ({ x72 with Cols := r59 })).set ((i35 : Int)).toNat ({ x85 with Refs := r65 })).length c_r27 by simp only [List.length_set]) ?_
 refine y8 27 z (show Value.slice a_r27 (s34.set ((i35 : Int)).toNat ({ x72 with Cols := r59 })).length c_r27 = Value.slice a_r27 ((s34.set ((i35 : Int)).toNat ({ x72 with Cols := r59 })).set ((i35 : Int)).toNat ({ x85 with Refs := r65 })).length c_r27 by simp only [List.length_set]) ?_
 refine y8 30 z (show Value.slice a_r27 (s34.set ((i35 : Int)).toNat ({ x72 with Cols := r59 })).length c_r27 = Value.slice a_r27 ((s34.set ((i35 : Int)).toNat ({ x72 with Cols := r59 })).set ((i35 : Int)).toNat ({ x85 with Refs := r65 })).length c_r27 by simp only [List.length_set]) ?_
 have S96 : St E w92 I87 ((C93) :: (bK b46 x45 w_x45) :: (Bx b1 (cs_qT ({ p0 with Cols := r14, Cons := ((s34.set ((i35 : Int)).toNat ({ x72 with Cols := r59 })).set ((i35 : Int)).toNat ({ x85 with Refs := r65 })) }) ({ w_p0 with Cols := ⟨a_r14, c_r14⟩, Cons := ⟨a_r27, c_r27⟩ })) 89) :: (bT b5 z_qT zw_qT) :: Os) := by have hq := S91; simp only [cs_qT, List.length_set] at hq ⊢; exact hq
 refine WO.tail z ?_
 obtain ⟨x97, R1, h0_x97, h1_x97, Xx97, ha_x97, _, _, ⟨w_x97, rfl, h_x97⟩, Zx97⟩ := sl_at (ho94.sl) R1
 refine ybd 100 12 ha_x97 h0_x97 h1_x97 ?_
 refine yi 25 1 [3] z ?_
 have hk102 : ok_qK I87 ({ x97 with Check := r71 }) ({ w_x97 with Check := w_r71 }) := ⟨h_x97.Cols, (h_r71.mono (L75.trans L88)), h_x97.Refs⟩
 refine ya4 S96 ho94 z kr z Xx97 (u' := { x97 with Check := r71 }) 3 z z kr z z (fun cs hrel => (by obtain ⟨w_zz, rfl, h_zz⟩ := hrel; exact ⟨{ w_zz with Check := w_r71 }, rfl, { h_zz with Check := (h_r71.mono le) }⟩)) (fun _ _ _ => trivial) ?_
 intro w99 C100 S98 ho101
 refine y8 16 z (show Value.slice a_r27 ((s34.set ((i35 : Int)).toNat ({ x72 with Cols := r59 })).set ((i35 : Int)).toNat ({ x85 with Refs := r65 })).length c_r27 = Value.slice a_r27 (((s34.set ((i35 : Int)).toNat ({ x72 with Cols := r59 })).set ((i35 : Int)).toNat ({ x85 with Refs := r65 })).set ((i35 : Int)).toNat ({ x97 with Check := r71 })).length c_r27 by simp only [List.length_set]) ?_
 refine y8 24 z (show Value.slice a_r27 ((s34.set ((i35 : Int)).toNat ({ x72 with Cols := r59 })).set ((i35 : Int)).toNat ({ x85 with Refs := r65 })).length c_r27 = Value.slice a_r27 (((s34.set ((i35 : Int)).toNat ({ x72 with Cols := r59 })).set ((i35 : Int)).toNat ({ x85 with Refs := r65 })).set ((i35 : Int)).toNat ({ x97 with Check := r71 })).length c_r27 by simp only [List.length_set]) ?_
 refine y8 27 z (show Value.slice a_r27 ((s34.set ((i35 : Int)).toNat ({ x72 with Cols := r59 })).set ((i35 : Int)).toNat ({ x85 with Refs := r65 })).length c_r27 = Value.slice a_r27 (((s34.set ((i35 : Int)).toNat ({ x72 with Cols := r59 })).set ((i35 : Int)).toNat ({ x85 with Refs := r65 })).set ((i35 : Int)).toNat ({ x97 with Check := r71 })).length c_r27 by simp only [List.length_set]) ?_
 refine y8 30 z (show Value.slice a_r27 ((s34.set ((i35 : Int)).toNat ({ x72 with Cols := r59 })).set ((i35 : Int)).toNat ({ x85 with Refs := r65 })).length c_r27 = Value.slice a_r27 (((s34.set ((i35 : Int)).toNat ({ x72 with Cols := r59 })).set ((i35 : Int)).toNat ({ x85 with Refs := r65 })).set ((i35 : Int)).toNat ({ x97 with Check := r71 })).length c_r27 by simp only [List.length_set]) ?_
 have S103 : St E w99 I87 ((C100) :: (bK b46 x45 w_x45) :: (Bx b1 (cs_qT ({ p0 with Cols := r14, Cons := (((s34.set ((i35 : Int)).toNat ({ x72 with Cols := r59 })).set ((i35 : Int)).toNat ({ x85 with Refs := r65 })).set ((i35 : Int)).toNat ({ x97 with Check := r71 })) }) ({ w_p0 with Cols := ⟨a_r14, c_r14⟩, Cons := ⟨a_r27, c_r27⟩ })) 89) :: (bT b5 z_qT zw_qT) :: Os) := by have hq := S98; simp only [cs_qT, List.length_set] at hq ⊢; exact hq
 exact yp (yn (yc (yak nL2 (yaq i35 z (ya 1 1 z (yp (sj R1 ▸ yx ⟨I87, C100, rfl, le, S103.front1.drop.front2.front2, ho101⟩)))))))
 rintro _ w108 ⟨I32, C_s34, rfl, L33, S109, h_s34⟩
 refine ye [0] (ya 0 1 z (yb (yh (yax fun _ => yab (yr (yt (yu (yc (ye nL5 (yi 0 1 [5] z (yk (S109.rf m0) z (bsk hr fun r115 Xr110 hr => yaj (slices_Clone_qI_ok (up h_p0.Idx) S109 Xr110) ?_))))))))))))
 rintro _ w111 ⟨I112, a_r115, c_r115, C_r115, rfl, L113, S114, h_r115⟩
 refine cv (yi 3 1 [5] z (yad S114.front1 5 (cs_qT ({ p0 with Cols := r14, Cons := s34, Idx := r115 }) (⟨⟨a_r14, c_r14⟩, ⟨a_r27, c_r27⟩, ⟨a_r115, c_r115⟩⟩ : W_qT)) fun w118 S117 => yb (yh (ye nL4 (yi 0 1 [5] z (yk (S117.rf m0) z (ya 2 2 z (yb (yo (bsk hr fun s122 hloop124 hr => have hlt132 := (h_r115.sl).len_lt; W.wk (ya1 (m := r115.length) hloop124 (fun (i123 : Nat) => fun (s122 : List qI) fr w => ∃ I120 C_s122, fr = [(1, Pt b1 0), (2, Pt b5 0), (53, Sl a_r115 s122 c_r115), (54, Nv r115.length), (55, Nv i123)] ∧ I112.Le I120 ∧ St E w I120 ((Bx b1 (cs_qT ({ p0 with Cols := r14, Cons := s34, Idx := s122 }) (⟨⟨a_r14, c_r14⟩, ⟨a_r27, c_r27⟩, ⟨a_r115, c_r115⟩⟩ : W_qT)) 89) :: (bT b5 z_qT zw_qT) :: (C_s122) :: (C_s34) :: Os) ∧ OwnSl 124 2 R_qI I120 C_s122 a_r115 c_r115 s122) ⟨I112, C_r115, rfl, lr, S117.front3.front2.front3.front3, h_r115⟩ ?_ ?_)))))))))))
 rintro i123 s122 _ w129 hi133 ⟨I120, C_s122, rfl, L121, S130, h_s122⟩ x131 R1
 refine ye [0] (ya 0 1 z (yb (yh (yaw fun _ => yl (yc (yh (yo (ye nL6 (ya 0 1 z ?_)))))))))
 obtain ⟨x134, R1, Hx134, _, ⟨w_x134, rfl, h_x134⟩, Zx134⟩ := sl_ix (h_s122.sl) R1
 refine yag 124 2 Hx134 z (ya0 ((cs_qI x134 w_x134)) Zx134 0 (S130.rf m2) z (yac S130 (cs_qI z_qI zw_qI) 124 z fun b135 w138 S137 => ya 4 1 z (yad S137 0 (cs_qI x134 w_x134) fun w140 S139 => yb (have S141 := S139.drew; ybg nL9 6 (yv (S141.rd m0) (yv (S141.rd m1) (yae S141.im))) ?_))))
 generalize World.drew _ = w142 at *
 refine yi 0 1 [5] z (yk (rd_c m1 (S141.rd m1)) z (yi 2 2 [1] z (yk (rd_c m0 (S141.rd m0)) z (bsk R1 fun r148 Xr143 R1 => yaj (slices_Clone_string_ok h_x134.Cols S141 Xr143) ?_))))
 rintro _ w144 ⟨I145, a_r148, c_r148, C_r148, rfl, L146, S147, h_r148⟩
 refine ⟨_, rfl, (yv (S147.rd m1) (yv (S147.rd m2) (yae (S147.im.of_le L146)))), ?_⟩
 refine WO.tail z ?_
 obtain ⟨x149, R1, h0_x149, h1_x149, Xx149, ha_x149, _, _, ⟨w_x149, rfl, h_x149⟩, Zx149⟩ := sl_at ((h_s122.mono L146).sl) R1
 refine ybd 124 2 ha_x149 h0_x149 h1_x149 ?_
 refine yi 7 1 [1] z ?_
 obtain ⟨I150, L151, S153, hp152⟩ := OwnSl.pub h_r148 S147
 have hk159 : ok_qI I150 ({ x149 with Cols := r148 }) (⟨⟨a_r148, c_r148⟩⟩ : W_qI) := ⟨hp152⟩
 refine ya4 S153.front3 (OwnSl.mono h_s122 le) z kr z Xx149 (u' := { x149 with Cols := r148 }) 1 z z kr z z (fun cs hrel => (by obtain ⟨w_zz, rfl, h_zz⟩ := hrel; exact ⟨{ w_zz with Cols := ⟨a_r148, c_r148⟩ }, rfl, { h_zz with Cols := hp152 }⟩)) (fun _ _ _ => trivial) ?_
 intro w156 C157 S155 ho158
 refine y8 53 z (show Value.slice a_r115 s122.length c_r115 = Value.slice a_r115 (s122.set ((i123 : Int)).toNat ({ x149 with Cols := r148 })).length c_r115 by simp only [List.length_set]) ?_
 refine y8 61 z (show Value.slice a_r115 s122.length c_r115 = Value.slice a_r115 (s122.set ((i123 : Int)).toNat ({ x149 with Cols := r148 })).length c_r115 by simp only [List.length_set]) ?_
 have S160 : St E w156 I150 ((C157) :: (bI b135 x134 w_x134) :: (Bx b1 (cs_qT ({ p0 with Cols := r14, Cons := s34, Idx := (s122.set ((i123 : Int)).toNat ({ x149 with Cols := r148 })) }) (⟨⟨a_r14, c_r14⟩, ⟨a_r27, c_r27⟩, ⟨a_r115, c_r115⟩⟩ : W_qT)) 89) :: (bT b5 z_qT zw_qT) :: (C_s34) :: Os) := by have hq := S155; simp only [cs_qT, List.length_set] at hq ⊢; exact hq
 exact yp (yn (yc (yak nL2 (yaq i123 z (ya 1 1 z (yp (sj R1 ▸ yx ⟨I150, C157, rfl, le, S160.front1.drop.front3.front1.front3.front3, ho158⟩)))))))
 rintro _ w167 ⟨I120, C_s122, rfl, L121, S168, h_s122⟩
 refine ye [0] (ya 0 1 z (yb (yh (yax fun _ => yab (yr (yt (yu (yc (ye nL2 (yaa ((cs_qT ({ p0 with Cols := r14, Cons := s34, Idx := s122 }) (⟨⟨a_r14, c_r14⟩, ⟨a_r27, c_r27⟩, ⟨a_r115, c_r115⟩⟩ : W_qT))) (S168.rf m0) z ?_))))))))))
 obtain ⟨I170, L171, S173, hp172⟩ := OwnSl.pub (h_s34.mono (L113.trans L121)) S168.front3
 obtain ⟨I175, L176, S178, hp177⟩ := OwnSl.pub (h_s122.mono L171) S173.front2
 refine yad S178.front1 0 (cs_qT ({ p0 with Cols := r14, Cons := s34, Idx := s122 }) (⟨⟨a_r14, c_r14⟩, ⟨a_r27, c_r27⟩, ⟨a_r115, c_r115⟩⟩ : W_qT)) fun w181 S180 => yb (yq ?_)
 have hk184 : ok_qT I175 ({ p0 with Cols := r14, Cons := s34, Idx := s122 }) (⟨⟨a_r14, c_r14⟩, ⟨a_r27, c_r27⟩, ⟨a_r115, c_r115⟩⟩ : W_qT) := ⟨(RSl.mono hp17 (((((L25.trans L33).trans L113).trans L121).trans L171).trans L176)), (RSl.mono hp172 L176), hp177⟩
 exact sj hr ▸ En.c1 _ (S180.rd m0) ⟨I175, (⟨⟨a_r14, c_r14⟩, ⟨a_r27, c_r27⟩, ⟨a_r115, c_r115⟩⟩ : W_qT), rfl, le, S180.drop.drop, hk184⟩
def catalog_Find_1 (p0 : qT) (q1 : By8) : Option Bool := some (sEq p0.Name q1)
theorem catalog_Find_1_ok {p0 : qT} {q1 : By8} {w_p0 : W_qT} {kb1 : Nat} (h_p0 : ok_qT I p0 w_p0) (hm1 : (Bx kb1 [(.string q1)] 9) ∈ Os) (hS : St E w I Os) {r : Bool} (hr : catalog_Find_1 p0 q1 = some r) :
    Calls P 76 #[(vT p0 w_p0), (Pt kb1 0)] w (RT E I Os (.bool r)) := by
 refine calls_W (fn := Tryz.f76) rfl rfl rfl ?_
 unfold catalog_Find_1 at hr
 exact ye nL2 (yac hS (cs_qT p0 w_p0) 89 z fun b1 w4 S3 => ya 1 1 z (yz nL5 (yi 0 1 [0] z (yk (S3.rf m0) z (yk (rd_f (S3.rd (List.Mem.tail _ hm1))) z (ya 3 2 z (yb (yq (sj hr ▸ yy ⟨I, rfl, lr, S3.drop⟩)))))))))
noncomputable def catalog_Find (p0 : qC) (p1 : By8) : Option (qT × Bool) := (slices_IndexFunc_qT p0.Tables (fun (u0 : qT) => catalog_Find_1 u0 p1)).bind (fun r18 => (bif (decide (r18 ≥ 0)) then (idx p0.Tables r18).bind (fun x19 => (table_Clone x19).bind (fun r25 => some (r25, true))) else some (z_qT, false)))
theorem catalog_Find_ok {p0 : qC} {p1 : By8} {w_p0 : W_qC} (h_p0 : ok_qC I p0 w_p0) (hS : St E w I Os) {r : qT × Bool} (hr : catalog_Find p0 p1 = some r) :
    Calls P 43 #[(vC p0 w_p0), (.string p1)] w (fun e w' => ∃ I' w_rw0, e = .returned (.tuple #[(vT r.1 w_rw0), (.bool r.2)]) ∧ I.Le I' ∧ St E w' I' Os ∧ ok_qT I' r.1 w_rw0) := by
 refine calls_W (fn := Tryz.f43) rfl rfl rfl ?_
 unfold catalog_Find at hr
 refine ye nL4 (yac hS (cs_qC p0 w_p0) 29 z fun b1 w4 S3 => yac S3 [(.string p1)] 9 z fun b5 w8 S7 => yac S7 (cs_qT z_qT zw_qT) 89 z fun b9 w12 S11 => ya 3 1 z (yb (yh (ye nL5 (yi 0 1 [1] z (yk (S11.rf m2) z (y7 2 9 (.func (.func 76) #[] #[(Pt b5 0)]) (bsk hr fun r18 Xr13 hr => WO.c1 (slices_IndexFunc_qT_ok h_p0.Tables (fun {F Ic wc} {_} {_} hlc hSc h_u0 {rc} hrc => catalog_Find_1_ok h_u0 (List.mem_append_right _ m1) hSc hrc) (fun _ _ => by kernel_rfl) S11 Xr13) z fun I15 w14 L16 S17 => ya 4 1 z (yz nL2 (ya 0 2 z (yb (y6 hr (fun hc hr => ?_) (fun hc hr => ?_)))))))))))))
 refine ye nL8 (yi 0 1 [1] z (yk (S17.rf m2) z (ya 2 1 z ?_)))
 obtain ⟨x19, hr, Hx19, _, ⟨w_x19, rfl, h_x19⟩, Zx19⟩ := sl_ix ((RSl.mono h_p0.Tables L16)) hr
 refine yag 89 6 Hx19 z (ya0 ((cs_qT x19 w_x19)) Zx19 0 S17.rm z (bsk hr fun r25 Xr20 hr => yaj (table_Clone_ok h_x19 S17 Xr20) ?_))
 rintro _ w21 ⟨I22, w_r25, rfl, L23, S24, h_r25⟩
 exact cv (yad S24 0 (cs_qT r25 w_r25) fun w27 S26 => ya 7 1 z (yb (yq (yf (sj hr ▸ ya9 _ (S26.rd m0) ⟨I22, w_r25, rfl, le, S26.drop.drop.drop, h_r25⟩)))))
 exact yl (yc (ye nL3 (y7 0 19 (vT z_qT zw_qT) (yad S17 0 (cs_qT z_qT zw_qT) fun w32 S31 => ya 2 1 z (yb (yq (sj hr ▸ ya9 _ (S31.rd m0) ⟨I15, zw_qT, rfl, L16, S31.drop.drop.drop, zok_qT⟩)))))))
def slices_IndexFunc_qG (p0 : List qG) (p1 : qG → Option Bool) : Option Int := (forN (fun (i4 : Nat) => fun (_s : Unit) => (idx p0 (i4 : Int)).bind (fun x11 => (p1 x11).bind (fun (r17 : Bool) => (bif r17 then some (.inr (i4 : Int)) else some (.inl ()))))) p0.length 0 ()).bind (fun (t : Unit ⊕ (Int)) => match t with | .inl _ => some (-1) | .inr s19 => some s19)
theorem slices_IndexFunc_qG_ok {p0 : List qG} {p1 : qG → Option Bool} {a_p0 : Option Addr} {c_p0 : Nat} {g_p1 : FuncId} {k_p1 : List Value} (h_p0 : RSl 5 R_qG I a_p0 c_p0 p0) (h_p1 : ∀ {F : List Mem} {I' : Mem} {w : World} {u0 : qG}, I.Le I' → St E w I' (F ++ Os) → ∀ {r : Bool}, p1 u0 = some r → Calls P g_p1 (([(vG u0)] : List Value) ++ k_p1).toArray w (fun e w' => ∃ (I'' : Mem), e = .returned (.bool r) ∧ I'.Le I'' ∧ St E w' I'' (F ++ Os))) (hcall_p1 : Callable P g_p1) (hS : St E w I Os) {r : Int} (hr : slices_IndexFunc_qG p0 p1 = some r) :
    Calls P 111 #[(Sl a_p0 p0 c_p0), (.func (.func g_p1) #[] k_p1.toArray)] w (RT E I Os (Iv r)) := by
 refine calls_W (fn := Tryz.f111) rfl rfl rfl ?_
 unfold slices_IndexFunc_qG at hr
 refine ye [0] (ya 0 1 z (yb (yh (ye nL3 (ya 0 3 z (yb (yo (bsk hr fun t1 hloop5 hr => have hlt9 := (h_p0).len_lt; W.wk (yat (m := p0.length) hloop5 (fun (i4 : Nat) => fun (_s : Unit) => JI E I [(0, Sl a_p0 p0 c_p0), (1, .func (.func g_p1) #[] k_p1.toArray), (7, Nv p0.length), (8, Nv i4)] Os) ⟨I, rfl, lr, hS⟩ ?_ ?_)))))))))
 rintro i4 _ _ w6 hi10 ⟨I2, rfl, L3, S7⟩ x8 R1 hext1
 refine ye [0] (ya 0 1 z (yb (yh (yaw fun _ => yl (yc (yh (yo (ye nL2 (ya 0 2 z (yz nL6 (y7 0 11 (.func (.func g_p1) #[] k_p1.toArray) (ya 1 2 z ?_))))))))))))
 obtain ⟨x11, R1, Hx11, _, rfl, Zx11⟩ := sl_ix ((RSl.mono h_p0 L3)) R1
 refine yag 67 5 Hx11 z (ya0 ((cs_qG x11)) Zx11 0 S7.rm z (bsk R1 fun r17 Xr12 R1 => ybw z kr z (g := g_p1) (kk := k_p1) (args := [(vG x11)]) z kr hcall_p1 (h_p1 (F := []) L3 S7  Xr12) ?_))
 rintro _ w13 ⟨I14, rfl, L15, S16⟩
 refine cv (yb (y6 R1 (fun hc R1 => ?_) (fun hc R1 => ?_)))
 refine ye nL2 (ya 0 2 z (yb (yq (ym (yf (yw ?_))))))
 obtain rfl := hext1 _ (sj R1).symm
 exact ym (yf (sj hr ▸ yy ⟨I14, rfl, le, S16⟩))
 exact yl (yn (yc (yak nL2 (yaq i4 z (ya 1 1 z (yp (yx ⟨(), (sj R1).symm, I14, rfl, le, S16⟩)))))))
 rintro _ _ w20 ⟨I2, rfl, L3, S21⟩ he
 cases he
 exact ye [0] (ya 0 1 z (yb (yh (yax fun _ => yab (yr (yt (yu (yc (ye [0] (ya 0 1 z (yb (yq (sj hr ▸ yy ⟨I2, rfl, L3, S21⟩)))))))))))))
def grants_place_1 (p0 : qG) (q1 : qS) (q2 : By8) : Option Bool := (some (((sEq p0.To q1.Role) && (sEq p0.By q2)) && (sEq p0.Table q1.Table))).bind (fun (q7 : Bool) => some (q7 && (p0.Priv == q1.Priv)))
theorem grants_place_1_ok {p0 : qG} {q1 : qS} {q2 : By8} {kb1 : Nat} {w_q1 : W_qS} {kb2 : Nat} (h_q1 : ok_qS I q1 w_q1) (hm1 : (bS kb1 q1 w_q1) ∈ Os) (hm2 : (Bx kb2 [(.string q2)] 9) ∈ Os) (hS : St E w I Os) {r : Bool} (hr : grants_place_1 p0 q1 q2 = some r) :
    Calls P 112 #[(vG p0), (Pt kb1 0), (Pt kb2 0)] w (RT E I Os (.bool r)) := by
 refine calls_W (fn := Tryz.f112) rfl rfl rfl ?_
 unfold grants_place_1 at hr
 exact ye nL2 (yac hS (cs_qG p0) 67 z fun b1 w4 S3 => ya 1 1 z (yz nL26 (yi 0 1 [0] z (yk (S3.rf m0) z (yi 2 1 [3] z (yk (rd_f (S3.rd (List.Mem.tail _ hm1))) z (ya 4 2 z (yav [6, 7, 8, 9] 10 10 15 (.refl ((sEq p0.To q1.Role) && (sEq p0.By q2))) (fun _ => yi 6 1 [1] z (yk (S3.rf m0) z (yk (rd_f (S3.rd (List.Mem.tail _ hm2))) z (ya 9 2 z yam)))) (ya 11 1 z (bsq hr fun q7 Xq7 hr => yav [12, 13, 14, 15, 16] 17 16 22 Xq7 (fun _ => yi 12 1 [2] z (yk (S3.rf m0) z (yi 14 1 [1] z (yk (rd_f (S3.rd (List.Mem.tail _ hm1))) z (ya 16 2 z yam))))) (ya 18 1 z (yav [19, 20, 21, 22, 23] 24 23 29 (.refl (q7 && (p0.Priv == q1.Priv))) (fun _ => yi 19 1 [3] z (yk (S3.rf m0) z (yi 21 1 [18] z (yk (rd_f (S3.rd (List.Mem.tail _ hm1))) z (ya 23 2 z yam))))) (ya 25 1 z (yb (yq (sj hr ▸ yy ⟨I, rfl, lr, S3.drop⟩))))))))))))))))
def grants_place (p0 : qC) (p1 : qS) (p2 : By8) : Option Int := (slices_IndexFunc_qG p0.Grants (fun (u0 : qG) => grants_place_1 u0 p1 p2)).bind (fun r18 => some r18)
theorem grants_place_ok {p0 : qC} {p1 : qS} {p2 : By8} {w_p0 : W_qC} {w_p1 : W_qS} (h_p0 : ok_qC I p0 w_p0) (h_p1 : ok_qS I p1 w_p1) (hS : St E w I Os) {r : Int} (hr : grants_place p0 p1 p2 = some r) :
    Calls P 66 #[(vC p0 w_p0), (vS p1 w_p1), (.string p2)] w (RT E I Os (Iv r)) := by
 refine calls_W (fn := Tryz.f66) rfl rfl rfl ?_
 unfold grants_place at hr
 exact ye nL4 (yac hS (cs_qC p0 w_p0) 29 z fun b1 w4 S3 => yac S3 (cs_qS p1 w_p1) 44 z fun b5 w8 S7 => yac S7 [(.string p2)] 9 z fun b9 w12 S11 => ya 3 1 z (yz nL5 (yi 0 1 [3] z (yk (S11.rf m2) z (y7 2 9 (.func (.func 112) #[] #[(Pt b5 0), (Pt b9 0)]) (bsk hr fun r18 Xr13 hr => WO.c1 (slices_IndexFunc_qG_ok h_p0.Grants (fun {F Ic wc} {_} hlc hSc  {rc} hrc => grants_place_1_ok (h_p1.mono hlc) (List.mem_append_right _ m1) (List.mem_append_right _ m0) hSc hrc) (fun _ _ => by kernel_rfl) S11 Xr13) z fun I15 w14 L16 S17 => ya 4 1 z (yb (yq (sj hr ▸ yy ⟨I15, rfl, L16, S17.drop.drop.drop⟩)))))))))
noncomputable def grants_Owns (p0 : qC) (p1 : By8) (p2 : By8) : Option Bool := (catalog_Find p0 p2).bind (fun (r10, r11) => ((bif r11 then (member_Is p0.Roles p1 r10.Owner).bind (fun r27 => some r27) else some false)).bind (fun (j18 : Bool) => some j18))
theorem grants_Owns_ok {p0 : qC} {p1 : By8} {p2 : By8} {w_p0 : W_qC} (h_p0 : ok_qC I p0 w_p0) (hS : St E w I Os) {r : Bool} (hr : grants_Owns p0 p1 p2 = some r) :
    Calls P 21 #[(vC p0 w_p0), (.string p1), (.string p2)] w (RT E I Os (.bool r)) := by
 refine calls_W (fn := Tryz.f21) rfl rfl rfl ?_
 unfold grants_Owns at hr
 refine ye nL2 (yac hS (cs_qC p0 w_p0) 29 z fun b1 w4 S3 => ya 1 1 z (yz nL9 (yaa ((cs_qC p0 w_p0)) (S3.rf m0) z (ya 1 1 z ?_))))
 obtain ⟨⟨r10, r11⟩, Xr5, hr⟩ := bsm hr
 refine yaj (catalog_Find_ok h_p0 S3 Xr5) ?_
 rintro _ w6 ⟨I7, w_r10, rfl, L8, S9, h_r10⟩
 refine cv (ya 3 3 z (yac S9 (cs_qT z_qT zw_qT) 89 z fun b12 w15 S14 => yad S14 0 (cs_qT r10 w_r10) fun w17 S16 => ya 8 1 z (yz nL10 (ya 0 2 z (bsk hr fun j18 R1 hr => yap (l1 := [2, 3, 4, 5, 6, 7, 8]) (J := JI E I7 [(23, .bool j18)] Os) ?_ ?_)))))
 refine yao R1 (fun hc R1 => ?_) (fun hc R1 => ?_)
 exact y4 16 hc (yi 2 1 [2] z (yk (S16.rf m1) z (yi 4 2 [1] z (yk (S16.rf m0) z (bsk R1 fun r27 Xr22 R1 => WO.c1 (member_Is_ok (RSl.mono h_p0.Roles L8) S16 Xr22) z fun I24 w23 L25 S26 => ya 8 1 z (sj R1 ▸ y3 ⟨I24, rfl, L25, S26.drop.drop⟩))))))
 refine y4 16 hc ?_
 iterate 6 refine yan ?_
 exact ya 8 1 z (sj R1 ▸ y3 ⟨I7, rfl, lr, S16.drop.drop⟩)
 rintro _ w32 ⟨I20, rfl, L21, S33⟩
 exact ya 9 1 z (yb (yq (sj hr ▸ yy ⟨I20, rfl, le, S33⟩)))
def slices_ContainsFunc_qG (p0 : List qG) (p1 : qG → Option Bool) : Option Bool := (slices_IndexFunc_qG p0 p1).bind (fun r6 => some (decide (r6 ≥ 0)))
theorem slices_ContainsFunc_qG_ok {p0 : List qG} {p1 : qG → Option Bool} {a_p0 : Option Addr} {c_p0 : Nat} {g_p1 : FuncId} {k_p1 : List Value} (h_p0 : RSl 5 R_qG I a_p0 c_p0 p0) (h_p1 : ∀ {F : List Mem} {I' : Mem} {w : World} {u0 : qG}, I.Le I' → St E w I' (F ++ Os) → ∀ {r : Bool}, p1 u0 = some r → Calls P g_p1 (([(vG u0)] : List Value) ++ k_p1).toArray w (fun e w' => ∃ (I'' : Mem), e = .returned (.bool r) ∧ I'.Le I'' ∧ St E w' I'' (F ++ Os))) (hcall_p1 : Callable P g_p1) (hS : St E w I Os) {r : Bool} (hr : slices_ContainsFunc_qG p0 p1 = some r) :
    Calls P 78 #[(Sl a_p0 p0 c_p0), (.func (.func g_p1) #[] k_p1.toArray)] w (RT E I Os (.bool r)) := by
 refine calls_W (fn := Tryz.f78) rfl rfl rfl ?_
 unfold slices_ContainsFunc_qG at hr
 exact ye [0] (ya 0 1 z (yz nL5 (ya 0 1 z (y7 1 6 (.func (.func g_p1) #[] k_p1.toArray) (bsk hr fun r6 Xr1 hr => WO.c1 (slices_IndexFunc_qG_ok h_p0 (fun {F Ic wc} {_} hlc hSc  {rc} hrc => h_p1 hlc hSc  hrc) hcall_p1 hS Xr1) z fun I3 w2 L4 S5 => ya 3 2 z (yb (yq (sj hr ▸ yy ⟨I3, rfl, L4, S5⟩))))))))
noncomputable def grants_has_1 (p0 : qG) (q1 : Int) (q2 : By8) (q3 : Bool) (q4 : qC) (q5 : By8) : Option Bool := (some (((p0.Priv == q1) && (sEq p0.Table q2)) && (p0.Option || (!q3)))).bind (fun (q9 : Bool) => ((bif q9 then (member_Is q4.Roles q5 p0.To).bind (fun r23 => some r23) else some false)).bind (fun (j14 : Bool) => some j14))
theorem grants_has_1_ok {p0 : qG} {q1 : Int} {q2 : By8} {q3 : Bool} {q4 : qC} {q5 : By8} {kb1 : Nat} {kb2 : Nat} {kb3 : Nat} {kb4 : Nat} {w_q4 : W_qC} {kb5 : Nat} (h_q4 : ok_qC I q4 w_q4) (hm1 : (Bx kb1 [(Iv q1)] 3) ∈ Os) (hm2 : (Bx kb2 [(.string q2)] 9) ∈ Os) (hm3 : (Bx kb3 [(.bool q3)] 4) ∈ Os) (hm4 : (bC kb4 q4 w_q4) ∈ Os) (hm5 : (Bx kb5 [(.string q5)] 9) ∈ Os) (hS : St E w I Os) {r : Bool} (hr : grants_has_1 p0 q1 q2 q3 q4 q5 = some r) :
    Calls P 79 #[(vG p0), (Pt kb1 0), (Pt kb2 0), (Pt kb3 0), (Pt kb4 0), (Pt kb5 0)] w (RT E I Os (.bool r)) := by
 refine calls_W (fn := Tryz.f79) rfl rfl rfl ?_
 unfold grants_has_1 at hr
 refine ye nL2 (yac hS (cs_qG p0) 67 z fun b1 w4 S3 => ya 1 1 z (yz nL27 (yi 0 1 [3] z (yk (S3.rf m0) z (yk (rd_f (S3.rd (List.Mem.tail _ hm1))) z (ya 3 2 z (yav [5, 6, 7, 8] 9 12 17 (.refl ((p0.Priv == q1) && (sEq p0.Table q2))) (fun _ => yi 5 1 [2] z (yk (S3.rf m0) z (yk (rd_f (S3.rd (List.Mem.tail _ hm2))) z (ya 8 2 z yam)))) (ya 10 1 z (bsq hr fun q9 Xq9 hr => yav [11, 12, 13, 14, 15, 16] 17 18 25 Xq9 (fun _ => yi 11 1 [4] z (yk (S3.rf m0) z (ya 13 1 z (ya8 [14, 15] 16 21 24 (.refl (p0.Option || (!q3))) (fun _ => yk (rd_f (S3.rd (List.Mem.tail _ hm3))) z (ya 15 2 z yam)) (ya 17 1 z yam))))) (ya 18 1 z (bsk hr fun j14 R1 hr => yap (l1 := [19, 20, 21, 22, 23, 24, 25]) (J := JI E I [(33, .bool j14)] Os) ?_ ?_)))))))))))
 refine yao R1 (fun hc R1 => ?_) (fun hc R1 => ?_)
 exact y4 26 hc (yi 19 1 [2] z (yk (rd_f (S3.rd (List.Mem.tail _ hm4))) z (yk (rd_f (S3.rd (List.Mem.tail _ hm5))) z (yi 22 1 [0] z (yk (S3.rf m0) z (bsk R1 fun r23 Xr18 R1 => WO.c1 (member_Is_ok h_q4.Roles S3 Xr18) z fun I20 w19 L21 S22 => ya 25 1 z (sj R1 ▸ y3 ⟨I20, rfl, L21, S22.drop⟩)))))))
 refine y4 26 hc ?_
 iterate 6 refine yan ?_
 exact ya 25 1 z (sj R1 ▸ y3 ⟨I, rfl, lr, S3.drop⟩)
 rintro _ w26 ⟨I16, rfl, L17, S27⟩
 exact ya 26 1 z (yb (yq (sj hr ▸ yy ⟨I16, rfl, L17, S27⟩)))
noncomputable def grants_has (p0 : qC) (p1 : List qG) (p2 : By8) (p3 : Int) (p4 : By8) (p5 : Bool) : Option Bool := (slices_ContainsFunc_qG p1 (fun (u0 : qG) => grants_has_1 u0 p3 p4 p5 p0 p2)).bind (fun r26 => some r26)
theorem grants_has_ok {p0 : qC} {p1 : List qG} {p2 : By8} {p3 : Int} {p4 : By8} {p5 : Bool} {w_p0 : W_qC} {a_p1 : Option Addr} {c_p1 : Nat} (h_p0 : ok_qC I p0 w_p0) (h_p1 : RSl 5 R_qG I a_p1 c_p1 p1) (hS : St E w I Os) {r : Bool} (hr : grants_has p0 p1 p2 p3 p4 p5 = some r) :
    Calls P 44 #[(vC p0 w_p0), (Sl a_p1 p1 c_p1), (.string p2), (Iv p3), (.string p4), (.bool p5)] w (RT E I Os (.bool r)) := by
 refine calls_W (fn := Tryz.f44) rfl rfl rfl ?_
 unfold grants_has at hr
 exact ye nL6 (yac hS (cs_qC p0 w_p0) 29 z fun b1 w4 S3 => yac S3 [(.string p2)] 9 z fun b5 w8 S7 => yac S7 [(Iv p3)] 3 z fun b9 w12 S11 => yac S11 [(.string p4)] 9 z fun b13 w16 S15 => yac S15 [(.bool p5)] 4 z fun b17 w20 S19 => ya 5 1 z (yz nL4 (ya 0 1 z (y7 1 14 (.func (.func 79) #[] #[(Pt b9 0), (Pt b13 0), (Pt b17 0), (Pt b1 0), (Pt b5 0)]) (bsk hr fun r26 Xr21 hr => WO.c1 (slices_ContainsFunc_qG_ok h_p1 (fun {F Ic wc} {_} hlc hSc  {rc} hrc => grants_has_1_ok (h_p0.mono hlc) (List.mem_append_right _ m2) (List.mem_append_right _ m1) (List.mem_append_right _ m0) (List.mem_append_right _ m4) (List.mem_append_right _ m3) hSc hrc) (fun _ _ => by kernel_rfl) S19 Xr21) z fun I23 w22 L24 S25 => ya 3 1 z (yb (yq (sj hr ▸ yy ⟨I23, rfl, L24, S25.drop.drop.drop.drop.drop⟩))))))))
def grants_Held_1 (q0 : qC) (q1 : List Bool) : Option (List qG) := (forE (fun (i5 : Nat) => fun (s4 : List qG) => (idx q0.Grants (i5 : Int)).bind (fun x14 => (idx q1 (i5 : Int)).bind (fun x21 => ((bif x21 then (app 64 s4 ([x14] : List qG)).bind (fun x34 => some x34) else some s4)).bind (fun (j22 : List qG) => some j22)))) q0.Grants.length 0 ([] : List qG)).bind (fun s4 => some s4)
theorem grants_Held_1_ok {q0 : qC} {q1 : List Bool} {kb0 : Nat} {w_q0 : W_qC} {kb1 : Nat} {a_q1 : Option Addr} {c_q1 : Nat} (h_q0 : ok_qC I q0 w_q0) (h_q1 : RSl 1 RBool I a_q1 c_q1 q1) (hm0 : (bC kb0 q0 w_q0) ∈ Os) (hm1 : (Bx kb1 [(Sl a_q1 q1 c_q1)] 90) ∈ Os) (hS : St E w I Os) {r : (List qG)} (hr : grants_Held_1 q0 q1 = some r) :
    Calls P 42 #[(Pt kb0 0), (Pt kb1 0)] w (fun e w' => ∃ (I' : Mem) (ra0 : Option Addr) (rc0 : Nat) (rC0 : Mem), e = .returned (Sl ra0 r rc0) ∧ I.Le I' ∧ St E w' I' (rC0 :: Os) ∧ OwnSl 67 5 R_qG I' rC0 ra0 rc0 r) := by
 refine calls_W (fn := Tryz.f42) rfl rfl rfl ?_
 unfold grants_Held_1 at hr
 refine ye [0] (y7 0 2 (.slice none 0 0) (yz [0] (y7 0 3 (.slice none 0 0) (yb (yh (ye nL4 (yi 0 1 [3] z (yk (rd_f (hS.rd hm0)) z (ya 2 2 z (yb (yo (bsk hr fun s4 hloop6 hr => have hlt12 := (h_q0.Grants).len_lt; W.wk (ya1 (m := q0.Grants.length) hloop6 (fun (i5 : Nat) => fun (s4 : List qG) fr w => ∃ I2 a_s4 c_s4 C_s4, fr = [(1, Pt kb1 0), (3, Sl a_s4 s4 c_s4), (7, Sl w_q0.Grants.a q0.Grants w_q0.Grants.c), (8, Nv q0.Grants.length), (9, Nv i5)] ∧ I.Le I2 ∧ St E w I2 ((C_s4) :: Os) ∧ OwnSl 67 5 R_qG I2 C_s4 a_s4 c_s4 s4) ⟨I, none, 0, Mem.no, rfl, lr, hS.no, OwnSl.nil⟩ ?_ ?_)))))))))))))
 rintro i5 s4 _ w9 hi13 ⟨I2, a_s4, c_s4, C_s4, rfl, L3, S10, h_s4⟩ x11 R1
 refine ye [0] (ya 0 1 z (yb (yh (yaw fun _ => yl (yc (yh (yo (ye nL6 (ya 0 1 z ?_)))))))))
 obtain ⟨x14, R1, Hx14, _, rfl, Zx14⟩ := sl_ix ((RSl.mono h_q0.Grants L3)) R1
 refine yag 67 5 Hx14 z (ya0 ((cs_qG x14)) Zx14 0 S10.rm z (yac S10 (cs_qG z_qG) 67 z fun b15 w18 S17 => ya 4 1 z (yad S17 0 (cs_qG x14) fun w20 S19 => yz nL4 (yk (rd_f (S19.rd (List.Mem.tail _ (List.Mem.tail _ hm1)))) z (ya 1 1 z ?_)))))
 obtain ⟨x21, R1, Hx21, _, rfl, Zx21⟩ := sl_ix ((RSl.mono h_q1 L3)) R1
 refine yag 4 1 Hx21 z (yar Zx21 S19.rm z (yb (bsk R1 fun j22 R2 R1 => yaz (J := (fun fr w => ∃ I24 a_j22 c_j22 C_j22, fr = [(1, Pt kb1 0), (3, Sl a_j22 j22 c_j22), (7, Sl w_q0.Grants.a q0.Grants w_q0.Grants.c), (8, Nv q0.Grants.length), (9, Nv i5)] ∧ I2.Le I24 ∧ St E w I24 ((C_j22) :: Os) ∧ OwnSl 67 5 R_qG I24 C_j22 a_j22 c_j22 j22)) ?_ ?_)))
 refine y6 R2 (fun hc R2 => ?_) (fun hc R2 => ?_)
 refine yak nL5 (ya 0 1 z (yaa ((cs_qG x14)) (S19.rf m0) z (yai (rel := R_qG) (xs := ([x14] : List qG)) S19 z kr z 67 5 [(cs_qG x14)] kr z ((Elr.cons z Elr.nil)) (fun _ _ _ => trivial) ?_)))
 intro a29 C27 w31 S30 ho28
 have S33 := S30.front2
 exact apk R2 fun x34 h0_x34 he_x34 R2 => yay 67 64 (cs_qG z_qG) S33 h_s4 ho28.sl (S33.rd m1) h0_x34 he_x34 z fun a35 c36 w37 C38 S39 ho40 => ya 4 1 z (yp (sj R2 ▸ yx ⟨I2, a35, c36, C38, rfl, lr, S39.front1.drop.front1.drop, ho40⟩))
 exact yl (sj R2 ▸ yx ⟨I2, a_s4, c_s4, C_s4, rfl, lr, S19.drop, h_s4⟩)
 rintro _ w46 ⟨I24, a_j22, c_j22, C_j22, rfl, L25, S47, h_j22⟩
 exact yn (yc (yak nL2 (yaq i5 z (ya 1 1 z (yp (sj R1 ▸ yx ⟨I24, a_j22, c_j22, C_j22, rfl, le, S47, h_j22⟩))))))
 rintro _ w48 ⟨I2, a_s4, c_s4, C_s4, rfl, L3, S49, h_s4⟩
 exact ye [0] (ya 0 1 z (yb (yh (yax fun _ => yab (yr (yt (yu (yc (ye nL2 (ya 0 2 z (yb (yq (sj hr ▸ yy ⟨I2, a_s4, c_s4, C_s4, rfl, L3, S49, h_s4⟩)))))))))))))
noncomputable def grants_Held (p0 : qC) : Option (List qG) := (mk 1 (p0.Grants.length : Int)).bind (fun n5 => (loopO (fun (s : Bool × (List Bool)) => match s with | (s21, s22) => (bif s21 then (grants_Held_1 p0 s22).bind (fun r38 => (forE (fun (i50 : Nat) => fun (s : Bool × (List Bool)) => match s with | (s48, s49) => (idx p0.Grants (i50 : Int)).bind (fun x59 => (catalog_Find p0 x59.Table).bind (fun (r71, r72) => (member_Find p0.Roles x59.To).bind (fun (r84, r85) => (idx s49 (i50 : Int)).bind (fun x92 => ((bif (((!x92) && r72) && r85) then (grants_Owns p0 x59.By x59.Table).bind (fun r106 => ((bif r106 then some true else (grants_has p0 r38 x59.By x59.Priv x59.Table true).bind (fun r119 => some r119))).bind (fun (j107 : Bool) => some j107)) else some false)).bind (fun (j97 : Bool) => ((bif j97 then (idx s49 (i50 : Int)).bind (fun x134 => some (true, (s49.set ((i50 : Int)).toNat true))) else some (s48, s49))).bind (fun ((s141, s142) : Bool × (List Bool)) => some (s141, s142)))))))) p0.Grants.length 0 (false, s22)).bind (fun (s48, s49) => some (.inl (s48, s49)))) else some (.inr s22))) (true, (List.replicate n5 false))).bind (fun (s150 : List Bool) => (grants_Held_1 p0 s150).bind (fun r159 => some r159)))
theorem grants_Held_ok {p0 : qC} {w_p0 : W_qC} (h_p0 : ok_qC I p0 w_p0) (hS : St E w I Os) {r : (List qG)} (hr : grants_Held p0 = some r) :
    Calls P 18 #[(vC p0 w_p0)] w (fun e w' => ∃ (I' : Mem) (ra0 : Option Addr) (rc0 : Nat), e = .returned (Sl ra0 r rc0) ∧ I.Le I' ∧ St E w' I' Os ∧ RSl 5 R_qG I' ra0 rc0 r) := by
 refine calls_W (fn := Tryz.f18) rfl rfl rfl ?_
 unfold grants_Held at hr
 refine ye nL2 (yac hS (cs_qC p0 w_p0) 29 z fun b1 w4 S3 => y7 1 2 (.slice none 0 0) (yz nL6 (yi 0 1 [3] z (yk (S3.rf m0) z (ya 2 1 z ?_)))))
 obtain ⟨n5, Xn5, hr⟩ := bsm hr
 obtain ⟨h0_n5, he_n5⟩ := mk_some Xn5
 refine WO.make (rel := RBool) S3 z kr z kr (T := 4) (sz := 1) (b := 1) (zs := #[(.bool false)]) kr z z n5 (congrArg (Value.int .i64) he_n5) (congrArg (Value.int .i64) he_n5) h0_n5 z (z0 := false) z (fun _ _ _ => trivial) ?_
 intro a6 w10 C7 S9 ho8
 refine y8 16 z (show Value.slice a6 n5 n5 = Value.slice a6 (List.replicate n5 false).length n5 by simp only [List.length_replicate]) ?_
 refine yac S9 [(.slice none 0 0)] 90 z fun b12 w15 S14 => yad S14 0 [(.slice a6 (List.replicate n5 false).length n5)] fun w17 S16 => yz nL2 (WO.vs 0 [(17, .func (.func 42) #[] #[(Pt b1 0), (Pt b12 0)]), (4, .func (.func 42) #[] #[(Pt b1 0), (Pt b12 0)])] (yb (yh (ye [0] (ya 0 1 z (yb (yo (bsk hr fun t18 hloop23 hr => W.wk (ybc hloop23 (fun (s : Bool × (List Bool)) fr w => match s with | (s21, s22) => ∃ I19 C_s22, fr = [(1, Pt b1 0), (3, Pt b12 0), (4, .func (.func 42) #[] #[(Pt b1 0), (Pt b12 0)]), (5, .bool s21)] ∧ I.Le I19 ∧ St E w I19 (bC b1 p0 w_p0 :: (Bx b12 [(Sl a6 s22 n5)] 90) :: (C_s22) :: Os) ∧ OwnSl 4 1 RBool I19 C_s22 a6 n5 s22) ⟨I, C7, rfl, lr, S16.front1.front1.front2, ho8⟩ ?_)))))))))
 rintro ⟨s21, s22⟩ _ w27 ⟨I19, C_s22, rfl, L20, S28, h_s22⟩ x29 R1 hext18
 refine yh (ye [0] (ya 0 1 z (yb (y6 R1 (fun hc R1 => ?_) (fun hc R1 => ?_)))))
 refine yl (yc (yo (ye [0] (ya 0 1 z (yz nL3 (y7 0 19 (.func (.func 42) #[] #[(Pt b1 0), (Pt b12 0)]) (have S30 := S28.front2; have hp32 := (h_s22).publish S30; bsk R1 fun r38 Xr33 R1 => yaj (grants_Held_1_ok (h_p0.mono (L20.trans (ybf I19 C_s22))) hp32 m0 m1 S30.publish Xr33) ?_)))))))
 rintro _ w34 ⟨I35, a_r38, c_r38, C_r38, rfl, L36, S37, h_r38⟩
 have S39 := yb8 S30 L36 S37
 have ho40 := yca h_r38 I19 (fun hq => hq)
 refine cv ?_
 obtain ⟨I41, L42, S44, hp43⟩ := OwnSl.pub ho40 S39
 refine ya 2 1 z (yz nL4 (yi 0 1 [3] z (yk (S44.rf m1) z (ya 2 2 z (yb (yo ?_))))))
 obtain ⟨⟨s48, s49⟩, hloop51, R1⟩ := bsm R1
 have hlt57 := ((RSl.mono h_p0.Grants (L20.trans L42))).len_lt
 refine W.wk (ya1 (m := p0.Grants.length) hloop51 (fun (i50 : Nat) => fun (s : Bool × (List Bool)) fr w => match s with | (s48, s49) => ∃ I46 C_s49, fr = [(1, Pt b1 0), (3, Pt b12 0), (4, .func (.func 42) #[] #[(Pt b1 0), (Pt b12 0)]), (5, .bool s48), (6, Sl a_r38 r38 c_r38), (22, Sl w_p0.Grants.a p0.Grants w_p0.Grants.c), (23, Nv p0.Grants.length), (24, Nv i50)] ∧ I41.Le I46 ∧ St E w I46 (bC b1 p0 w_p0 :: (Bx b12 [(Sl a6 s49 n5)] 90) :: (C_s49) :: Os) ∧ OwnSl 4 1 RBool I46 C_s49 a6 n5 s49) ⟨I41, C_s22, rfl, lr, S44.front2.front2, (OwnSl.mono h_s22 L42)⟩ ?_ ?_)
 rintro i50 ⟨s48, s49⟩ _ w54 hi58 ⟨I46, C_s49, rfl, L47, S55, h_s49⟩ x56 R2
 refine ye [0] (ya 0 1 z (yb (yh (yaw fun _ => yl (yc (yh (yo (ye nL6 (ya 0 1 z ?_)))))))))
 obtain ⟨x59, R2, Hx59, _, rfl, Zx59⟩ := sl_ix ((RSl.mono h_p0.Grants ((L20.trans L42).trans L47))) R2
 refine yag 67 5 Hx59 z (ya0 ((cs_qG x59)) Zx59 0 S55.rm z (yac S55 (cs_qG z_qG) 67 z fun b60 w63 S62 => ya 4 1 z (yad S62 0 (cs_qG x59) fun w65 S64 => yz nL10 (yaa ((cs_qC p0 w_p0)) (S64.rf m1) z (yi 1 1 [2] z (yk (S64.rf m0) z ?_))))))
 obtain ⟨⟨r71, r72⟩, Xr66, R2⟩ := bsm R2
 refine yaj (catalog_Find_ok (h_p0.mono le) S64 Xr66) ?_
 rintro _ w67 ⟨I68, w_r71, rfl, L69, S70, h_r71⟩
 refine cv (ya 4 3 z (yac S70 (cs_qT z_qT zw_qT) 89 z fun b73 w76 S75 => yad S75 0 (cs_qT r71 w_r71) fun w78 S77 => ya 9 1 z (yz nL11 (yi 0 1 [2] z (yk (S77.rf m2) z (yi 2 1 [0] z (yk (S77.rf m1) z ?_)))))))
 obtain ⟨⟨r84, r85⟩, Xr79, R2⟩ := bsm R2
 refine yaj (member_Find_ok (up h_p0.Roles) S77 Xr79) ?_
 rintro _ w80 ⟨I81, w_r84, rfl, L82, S83, h_r84⟩
 refine cv (ya 5 3 z (yac S83 (cs_qJ z_qJ zw_qJ) 62 z fun b86 w89 S88 => yad S88 0 (cs_qJ r84 w_r84) fun w91 S90 => ya 10 1 z (yz nL30 (yk (S90.rf m4) z (ya 1 1 z ?_)))))
 obtain ⟨x92, R2, Hx92, _, rfl, Zx92⟩ := sl_ix ((h_s49.mono (L69.trans L82)).sl) R2
 refine yag 4 1 Hx92 z (yar Zx92 (S90.rf m5) z (ya 4 2 z (yav [6] 7 49 51 (.refl ((!x92) && r72)) (fun _ => ya 6 2 z yam) (ya 8 1 z (yav [9] 10 52 54 (.refl (((!x92) && r72) && r85)) (fun _ => ya 9 2 z yam) (ya 11 1 z (bsk R2 fun j97 R3 R2 => yap (l1 := [12, 13, 14, 15, 16, 17, 18, 19, 20, 21, 22, 23, 24, 25, 26, 27, 28, 29]) (J := JI E I81 [(1, Pt b1 0), (3, Pt b12 0), (4, .func (.func 42) #[] #[(Pt b1 0), (Pt b12 0)]), (5, .bool s48), (6, Sl a_r38 r38 c_r38), (7, Nv i50), (22, Sl w_p0.Grants.a p0.Grants w_p0.Grants.c), (23, Nv p0.Grants.length), (24, Nv i50), (73, .bool j97)] (bC b1 p0 w_p0 :: (Bx b12 [(Sl a6 s49 n5)] 90) :: (C_s49) :: Os)) ?_ ?_)))))))
 refine yao R3 (fun hc R3 => ?_) (fun hc R3 => ?_)
 refine y4 55 hc (yaa ((cs_qC p0 w_p0)) (S90.rf m3) z (yi 13 1 [1] z (yk (S90.rf m2) z (yi 15 1 [2] z (yk (S90.rf m2) z (bsk R3 fun r106 Xr101 R3 => WO.c1 (grants_Owns_ok (h_p0.mono le) S90 Xr101) z fun I103 w102 L104 S105 => ya 18 1 z (bsk R3 fun j107 R4 R3 => yap (l1 := [19, 20, 21, 22, 23, 24, 25, 26, 27, 28]) (J := JI E I103 [(1, Pt b1 0), (3, Pt b12 0), (4, .func (.func 42) #[] #[(Pt b1 0), (Pt b12 0)]), (5, .bool s48), (6, Sl a_r38 r38 c_r38), (7, Nv i50), (22, Sl w_p0.Grants.a p0.Grants w_p0.Grants.c), (23, Nv p0.Grants.length), (24, Nv i50), (55, .bool true), (72, .bool j107)] (bC b1 p0 w_p0 :: (Bx b12 [(Sl a6 s49 n5)] 90) :: (C_s49) :: Os)) ?_ ?_)))))))
 refine yao R4 (fun hc R4 => ?_) (fun hc R4 => ?_)
 refine y4 62 hc ?_
 iterate 9 refine yan ?_
 exact ya 28 1 z (sj R4 ▸ y3 ⟨I103, rfl, lr, S105.drop.drop.drop⟩)
 exact y4 62 hc (yaa ((cs_qC p0 w_p0)) (S105.rf m3) z (yi 20 2 [1] z (yk (S105.rf m2) z (yi 23 1 [3] z (yk (S105.rf m2) z (yi 25 1 [2] z (yk (S105.rf m2) z (bsk R4 fun r119 Xr114 R4 => WO.c1 (grants_has_ok (h_p0.mono le) (up hp43) S105 Xr114) z fun I116 w115 L117 S118 => ya 28 1 z (sj R4 ▸ y3 ⟨I116, rfl, L117, S118.drop.drop.drop⟩)))))))))
 rintro _ w123 ⟨I109, rfl, L110, S124⟩
 exact ya 29 1 z (sj R3 ▸ y3 ⟨I109, rfl, le, S124⟩)
 refine y4 55 hc ?_
 iterate 17 refine yan ?_
 exact ya 29 1 z (sj R3 ▸ y3 ⟨I81, rfl, lr, S90.drop.drop.drop⟩)
 rintro _ w128 ⟨I99, rfl, L100, S129⟩
 refine yb (bsk R2 fun j130 R3 R2 => yaz (J := (fun fr w => ∃ (s141 : Bool) (s142 : List Bool), ∃ I132 C_s142, (s141, s142) = j130 ∧ fr = [(1, Pt b1 0), (3, Pt b12 0), (4, .func (.func 42) #[] #[(Pt b1 0), (Pt b12 0)]), (5, .bool s141), (6, Sl a_r38 r38 c_r38), (22, Sl w_p0.Grants.a p0.Grants w_p0.Grants.c), (23, Nv p0.Grants.length), (24, Nv i50)] ∧ I99.Le I132 ∧ St E w I132 (bC b1 p0 w_p0 :: (Bx b12 [(Sl a6 s142 n5)] 90) :: (C_s142) :: Os) ∧ OwnSl 4 1 RBool I132 C_s142 a6 n5 s142)) ?_ ?_)
 refine y6 R3 (fun hc R3 => ?_) (fun hc R3 => ?_)
 refine ye nL4 (yk (S129.rf m1) z (ya 1 1 z ?_))
 obtain ⟨x134, R3, h0_x134, h1_x134, Xx134, ha_x134, _, _, rfl, Zx134⟩ := sl_at ((h_s49.mono ((L69.trans L82).trans L100)).sl) R3
 refine ybd 4 1 ha_x134 h0_x134 h1_x134 ?_
 refine ya4 S129.front2 (OwnSl.mono h_s49 le) z kr z Xx134 (u' := true) 0 z z kr z z (fun cs hrel => (by obtain rfl := hrel; exact z)) (fun _ _ _ => trivial) ?_
 intro w137 C138 S136 ho139
 refine y8 74 z (show Value.slice a6 s49.length n5 = Value.slice a6 (s49.set ((i50 : Int)).toNat true).length n5 by simp only [List.length_set]) ?_
 have S140 : St E w137 I99 ((C138) :: (bC b1 p0 w_p0) :: (Bx b12 [(.slice a6 (s49.set ((i50 : Int)).toNat true).length n5)] 90) :: Os) := by have hq := S136; simp only [List.length_set] at hq ⊢; exact hq
 exact yb (yak [0] (ya 0 1 z (yp (yx ⟨true, (s49.set ((i50 : Int)).toNat true), I99, C138, sj R3, rfl, lr, S140.front2.front2, ho139⟩))))
 exact yl (yx ⟨s48, s49, I99, C_s49, sj R3, rfl, lr, S129, (OwnSl.mono h_s49 le)⟩)
 rintro _ w145 ⟨s141, s142, I132, C_s142, rfl, rfl, L133, S146, h_s142⟩
 exact yn (yc (yak nL2 (yaq i50 z (ya 1 1 z (yp (sj R2 ▸ yx ⟨I132, C_s142, rfl, le, S146, h_s142⟩))))))
 rintro _ w147 ⟨I46, C_s49, rfl, L47, S148, h_s49⟩
 exact ye [0] (ya 0 1 z (yb (yh (yax fun _ => yab (yr (yt (yu (yn (yx ⟨(s48, s49), (sj R1).symm, I46, C_s49, rfl, le, S148, h_s49⟩)))))))))
 refine yab (yr (yt ?_))
 obtain rfl := hext18 _ (sj R1).symm
 refine yu (yc (ye nL3 (y7 0 78 (.func (.func 42) #[] #[(Pt b1 0), (Pt b12 0)]) (have S169 := S28.front2; have hp171 := (h_s22).publish S169; bsk hr fun r177 Xr172 hr => yaj (grants_Held_1_ok (h_p0.mono (L20.trans (ybf I19 C_s22))) hp171 m0 m1 S169.publish Xr172) ?_))))
 rintro _ w173 ⟨I174, a_r177, c_r177, C_r177, rfl, L175, S176, h_r177⟩
 have S178 := yb8 S169 L175 S176
 have ho179 := yca h_r177 I19 (fun hq => hq)
 refine cv ?_
 obtain ⟨I180, L181, S183, hp182⟩ := OwnSl.pub ho179 S178
 exact ya 2 1 z (yb (yq (sj hr ▸ yy ⟨I180, a_r177, c_r177, rfl, le, S183.drop.drop.drop, hp182⟩)))
noncomputable def grants_Can (p0 : qC) (p1 : By8) (p2 : Int) (p3 : By8) : Option Bool := (grants_Owns p0 p1 p3).bind (fun r12 => ((bif r12 then some true else (grants_Held p0).bind (fun r22 => (grants_has p0 r22 p1 p2 p3 true).bind (fun r28 => some r28)))).bind (fun (j13 : Bool) => some j13))
theorem grants_Can_ok {p0 : qC} {p1 : By8} {p2 : Int} {p3 : By8} {w_p0 : W_qC} (h_p0 : ok_qC I p0 w_p0) (hS : St E w I Os) {r : Bool} (hr : grants_Can p0 p1 p2 p3 = some r) :
    Calls P 25 #[(vC p0 w_p0), (.string p1), (Iv p2), (.string p3)] w (RT E I Os (.bool r)) := by
 refine calls_W (fn := Tryz.f25) rfl rfl rfl ?_
 unfold grants_Can at hr
 refine ye nL2 (yac hS (cs_qC p0 w_p0) 29 z fun b1 w4 S3 => ya 1 1 z (yb (yh (have S5 := S3.drew; ybg nL14 13 (yv (S5.rd m0) (yae S5.im)) ?_))))
 generalize World.drew _ = w6 at *
 refine yaa ((cs_qC p0 w_p0)) (rd_c m0 (S5.rd m0)) z (ya 1 2 z (bsk hr fun r12 Xr7 hr => yaj (grants_Owns_ok h_p0 S5 Xr7) ?_))
 rintro _ w8 ⟨I9, rfl, L10, S11⟩
 refine ⟨_, rfl, (yv (S11.rd m0) (yae (S11.im.of_le L10))), ?_⟩
 refine ya 4 1 z (bsk hr fun j13 R1 hr => yap (l1 := [5, 6, 7, 8, 9, 10, 11, 12]) (J := JI E I9 [(21, .bool j13)] (bC b1 p0 w_p0 :: Os)) ?_ ?_)
 refine yao R1 (fun hc R1 => ?_) (fun hc R1 => ?_)
 refine y4 13 hc ?_
 iterate 7 refine yan ?_
 exact ya 12 1 z (sj R1 ▸ y3 ⟨I9, rfl, lr, S11⟩)
 refine y4 13 hc (yaa ((cs_qC p0 w_p0)) (rd_c m0 (S11.rd m0)) z (yaa ((cs_qC p0 w_p0)) (rd_c m0 (S11.rd m0)) z (bsk R1 fun r22 Xr17 R1 => yaj (grants_Held_ok (h_p0.mono L10) S11 Xr17) ?_)))
 rintro _ w18 ⟨I19, a_r22, c_r22, rfl, L20, S21, h_r22⟩
 refine ⟨_, rfl, (yv (S21.rd m0) (yae (S21.im.of_le le))), ?_⟩
 refine ya 8 3 z (bsk R1 fun r28 Xr23 R1 => yaj (grants_has_ok (h_p0.mono le) h_r22 S21 Xr23) ?_)
 rintro _ w24 ⟨I25, rfl, L26, S27⟩
 refine ⟨_, rfl, (yv (S27.rd m0) (yae (S27.im.of_le le))), ?_⟩
 exact ya 12 1 z (sj R1 ▸ y3 ⟨I25, rfl, le, S27⟩)
 rintro _ w29 ⟨I15, rfl, L16, S30⟩
 exact WO.tail z (ya 13 1 z (yb (yq (sj hr ▸ yy ⟨I15, rfl, le, S30.drop⟩))))
def slices_Clone_qG (p0 : List qG) : Option (List qG) := (app 64 ([] : List qG) p0).bind (fun x10 => some x10)
theorem slices_Clone_qG_ok {p0 : List qG} {a_p0 : Option Addr} {c_p0 : Nat} (h_p0 : RSl 5 R_qG I a_p0 c_p0 p0) (hS : St E w I Os) {r : (List qG)} (hr : slices_Clone_qG p0 = some r) :
    Calls P 67 #[(Sl a_p0 p0 c_p0)] w (fun e w' => ∃ (I' : Mem) (ra0 : Option Addr) (rc0 : Nat) (rC0 : Mem), e = .returned (Sl ra0 r rc0) ∧ I.Le I' ∧ St E w' I' (rC0 :: Os) ∧ OwnSl 67 5 R_qG I' rC0 ra0 rc0 r) := by
 refine calls_W (fn := Tryz.f67) rfl rfl rfl ?_
 unfold slices_Clone_qG at hr
 refine ye [0] (y7 0 2 (.slice none 0 0) (yb (yh (ye nL2 (ya 0 1 z (ybq (e := 67) z kr kr z z ?_))))))
 refine yb (ybx (fun hc => ?_) (fun hc => ?_))
 have ha0 := Option.isNone_iff_eq_none.1 hc
 subst ha0
 have hx0 := (h_p0).none_nil
 subst hx0
 replace hr : some ([] : List qG) = some r := by simpa [app] using hr
 exact ye [0] (y7 0 2 (.slice none 0 0) (yb (yq (yf (sj hr ▸ yy ⟨I, none, 0, Mem.no, rfl, lr, hS.no, OwnSl.nil⟩)))))
 clear hc
 refine yl (yc (ye nL4 (yai (rel := R_qG) (xs := ([] : List qG)) hS z kr z 67 5 [] kr z (Elr.nil) (fun _ _ _ => trivial) ?_)))
 intro a6 C4 w8 S7 ho5
 exact ya 1 1 z (apk hr fun x10 h0_x10 he_x10 hr => yay 67 64 (cs_qG z_qG) S7 ho5 h_p0 S7.im h0_x10 he_x10 z fun a11 c12 w13 C14 S15 ho16 => ya 3 1 z (yb (yq (sj hr ▸ yy ⟨I, a11, c12, C14, rfl, lr, S15, ho16⟩))))
noncomputable def grants_give (p0 : qC) (p1 : qS) (p2 : By8) : Option ((List qG) × Int) := (catalog_Find p0 p1.Table).bind (fun (r14, r15) => (member_Find p0.Roles p1.Role).bind (fun (r27, r28) => (grants_place p0 p1 p2).bind (fun r40 => (bif ((!r15) || (!r28)) then some (([] : List qG), 4) else (grants_Can p0 p2 p1.Priv p1.Table).bind (fun r52 => (bif (!r52) then some (([] : List qG), 36) else ((bif (decide (r40 ≥ 0)) then (idx p0.Grants r40).bind (fun x61 => some (x61.Option || (!p1.Option))) else some false)).bind (fun (j57 : Bool) => (bif j57 then some (([] : List qG), 19) else (bif (decide (r40 ≥ 0)) then (slices_Clone_qG p0.Grants).bind (fun r79 => (idx r79 r40).bind (fun x80 => some ((r79.set (r40).toNat ({ x80 with Option := true })), 0))) else (bif (decide ((p0.Grants.length : Int) ≥ 40)) then some (([] : List qG), 5) else ((slices_Clone_qG p0.Grants).bind (fun r111 => (app 64 r111 ([(⟨p1.Role, p2, p1.Table, p1.Priv, p1.Option⟩ : qG)] : List qG)).bind (fun x112 => some (x112, (0 : Int))))).bind (fun ((s125, s126) : (List qG) × Int) => some (s125, s126))))))))))))
theorem grants_give_ok {p0 : qC} {p1 : qS} {p2 : By8} {w_p0 : W_qC} {w_p1 : W_qS} (h_p0 : ok_qC I p0 w_p0) (h_p1 : ok_qS I p1 w_p1) (hS : St E w I Os) {r : (List qG) × Int} (hr : grants_give p0 p1 p2 = some r) :
    Calls P 35 #[(vC p0 w_p0), (vS p1 w_p1), (.string p2)] w (fun e w' => ∃ (I' : Mem) (ra0 : Option Addr) (rc0 : Nat), e = .returned (.tuple #[(Sl ra0 r.1 rc0), (Iv r.2)]) ∧ I.Le I' ∧ St E w' I' Os ∧ RSl 5 R_qG I' ra0 rc0 r.1) := by
 refine calls_W (fn := Tryz.f35) rfl rfl rfl ?_
 unfold grants_give at hr
 refine ye nL4 (yac hS (cs_qC p0 w_p0) 29 z fun b1 w4 S3 => yac S3 (cs_qS p1 w_p1) 44 z fun b5 w8 S7 => y7 2 6 (.slice none 0 0) (ya 3 1 z (yz nL10 (yaa ((cs_qC p0 w_p0)) (S7.rf m1) z (yi 1 1 [1] z (yk (S7.rf m0) z ?_))))))
 obtain ⟨⟨r14, r15⟩, Xr9, hr⟩ := bsm hr
 refine yaj (catalog_Find_ok h_p0 S7 Xr9) ?_
 rintro _ w10 ⟨I11, w_r14, rfl, L12, S13, h_r14⟩
 refine cv (ya 4 3 z (yac S13 (cs_qT z_qT zw_qT) 89 z fun b16 w19 S18 => yad S18 0 (cs_qT r14 w_r14) fun w21 S20 => ya 9 1 z (yz nL11 (yi 0 1 [2] z (yk (S20.rf m2) z (yi 2 1 [3] z (yk (S20.rf m1) z ?_)))))))
 obtain ⟨⟨r27, r28⟩, Xr22, hr⟩ := bsm hr
 refine yaj (member_Find_ok (RSl.mono h_p0.Roles L12) S20 Xr22) ?_
 rintro _ w23 ⟨I24, w_r27, rfl, L25, S26, h_r27⟩
 refine cv (ya 5 3 z (yac S26 (cs_qJ z_qJ zw_qJ) 62 z fun b29 w32 S31 => yad S31 0 (cs_qJ r27 w_r27) fun w34 S33 => ya 10 1 z (yz nL5 (yaa ((cs_qC p0 w_p0)) (S33.rf m3) z (yaa ((cs_qS p1 w_p1)) (S33.rf m2) z (ya 2 1 z (bsk hr fun r40 Xr35 hr => WO.c1 (grants_place_ok (h_p0.mono le) (h_p1.mono le) S33 Xr35) z fun I37 w36 L38 S39 => ya 4 1 z (yb (yh (yo (ye nL7 (ya 0 3 z (ya8 [3, 4] 5 36 39 (.refl ((!r15) || (!r28))) (fun _ => ya 3 3 z yam) (ya 6 1 z (yb (y6 hr (fun hc hr => ?_) (fun hc hr => ?_)))))))))))))))))
 exact ye nL2 (y7 0 6 (.slice none 0 0) (ya 1 1 z (yb (yq (ym (yf (sj hr ▸ yas ⟨I37, none, 0, rfl, le, S39.drop.drop.drop.drop, SlAt.nil⟩)))))))
 refine ye nL9 (yaa ((cs_qC p0 w_p0)) (S39.rf m3) z (yi 1 2 [18] z (yk (S39.rf m2) z (yi 4 1 [1] z (yk (S39.rf m2) z (bsk hr fun r52 Xr47 hr => WO.c1 (grants_Can_ok (h_p0.mono le) S39 Xr47) z fun I49 w48 L50 S51 => ya 7 2 z (yb (y6 hr (fun hc hr => ?_) (fun hc hr => ?_)))))))))
 exact ye nL2 (y7 0 6 (.slice none 0 0) (ya 1 1 z (yb (yq (ym (yf (sj hr ▸ yas ⟨I49, none, 0, rfl, le, S51.drop.drop.drop.drop, SlAt.nil⟩)))))))
 refine ye nL16 (ya 0 3 z (bsk hr fun j57 R1 hr => yap (l1 := [3, 4, 5, 6, 7, 8, 9, 10, 11, 12, 13, 14]) (J := JI E I49 [(2, .string p2), (3, Pt b1 0), (4, Pt b5 0), (12, Iv r40), (64, .bool j57)] (bC b1 p0 w_p0 :: (bS b5 p1 w_p1) :: Os)) ?_ ?_))
 refine yao R1 (fun hc R1 => ?_) (fun hc R1 => ?_)
 refine y4 52 hc (yi 3 1 [3] z (yk (S51.rf m3) z (ya 5 1 z ?_)))
 obtain ⟨x61, R1, Hx61, _, rfl, Zx61⟩ := sl_ix ((RSl.mono h_p0.Grants (((L12.trans L25).trans L38).trans L50))) R1
 exact yag 67 5 Hx61 z (yi 7 1 [4] z (ya5 Zx61 4 S51.rm z (ya 9 1 z (ya8 [10, 11, 12] 13 59 63 (.refl (x61.Option || (!p1.Option))) (fun _ => yi 10 1 [19] z (yk (S51.rf m2) z (ya 12 2 z yam))) (ya 14 1 z (sj R1 ▸ y3 ⟨I49, rfl, lr, S51.drop.drop.front1⟩))))))
 refine y4 52 hc ?_
 iterate 11 refine yan ?_
 exact ya 14 1 z (sj R1 ▸ y3 ⟨I49, rfl, lr, S51.drop.drop.front1⟩)
 rintro _ w70 ⟨I59, rfl, L60, S71⟩
 refine ya 15 1 z (yb (y6 hr (fun hc hr => ?_) (fun hc hr => ?_)))
 exact ye nL2 (y7 0 6 (.slice none 0 0) (ya 1 1 z (yb (yq (ym (yf (sj hr ▸ yas ⟨I59, none, 0, rfl, le, S71.drop.drop, SlAt.nil⟩)))))))
 refine ye nL3 (ya 0 3 z (yb (y6 hr (fun hc hr => ?_) (fun hc hr => ?_))))
 refine ye nL4 (yi 0 1 [3] z (yk (S71.rf m0) z (bsk hr fun r79 Xr74 hr => yaj (slices_Clone_qG_ok (up h_p0.Grants) S71 Xr74) ?_)))
 rintro _ w75 ⟨I76, a_r79, c_r79, C_r79, rfl, L77, S78, h_r79⟩
 refine cv (ya 3 1 z (yz nL5 (ya 0 2 z ?_)))
 obtain ⟨x80, hr, h0_x80, h1_x80, Xx80, ha_x80, _, _, rfl, Zx80⟩ := sl_at (h_r79.sl) hr
 refine ybd 67 5 ha_x80 h0_x80 h1_x80 ?_
 refine yi 3 1 [4] z (ya4 S78 h_r79 z kr z Xx80 (u' := { x80 with Option := true }) 4 z z kr z z (fun cs hrel => (by obtain rfl := hrel; exact z)) (fun _ _ _ => trivial) ?_)
 intro w82 C83 S81 ho84
 refine y8 13 z (show Value.slice a_r79 r79.length c_r79 = Value.slice a_r79 (r79.set (r40).toNat ({ x80 with Option := true })).length c_r79 by simp only [List.length_set]) ?_
 refine yz nL3 (ya 0 1 z ?_)
 obtain ⟨I85, L86, S88, hp87⟩ := OwnSl.pub ho84 S81
 exact ya 1 2 z (yb (yq (ym (yf (sj hr ▸ yas ⟨I85, a_r79, c_r79, rfl, le, S88.drop.drop, hp87⟩)))))
 refine ye nL5 (yi 0 1 [3] z (yk (S71.rf m0) z (ya 2 3 z (yb (y6 hr (fun hc hr => ?_) (fun hc hr => ?_))))))
 exact ye nL2 (y7 0 6 (.slice none 0 0) (ya 1 1 z (yb (yq (ym (yf (sj hr ▸ yas ⟨I59, none, 0, rfl, le, S71.drop.drop, SlAt.nil⟩)))))))
 refine yl (yn (yc (yh (bsk hr fun j93 R1 hr => yaz (J := (fun fr w => ∃ (s125 : List qG) (s126 : Int), ∃ I95 a_s125 c_s125, (s125, s126) = j93 ∧ fr = [(6, Sl a_s125 s125 c_s125), (7, Iv s126)] ∧ I59.Le I95 ∧ St E w I95 Os ∧ RSl 5 R_qG I95 a_s125 c_s125 s125)) ?_ ?_))))
 have S97 := S71.drew
 refine W.draws (.split 12 2 (.split 13 2 (.leaf [0, 1, 3, 4, 5, 6, 7, 8, 9, 10, 11, 12, 13, 2, 14, 15, 16]) (.leaf [0, 1, 3, 4, 5, 6, 7, 8, 9, 10, 11, 12, 2, 13, 14, 15, 16])) (.leaf [0, 1, 3, 4, 5, 6, 7, 8, 9, 10, 11, 2, 12, 13, 14, 15, 16])) 14 (KR I59 [bC b1 p0 w_p0, bS b5 p1 w_p1]) qR (.back kr) kr (yv (S97.rd m0) (yv (S97.rd m1) (yae S97.im))) ?_
 generalize World.drew _ = w98 at *
 refine ⟨?_, ?_⟩
 refine ⟨?_, ?_⟩
 show WO _ _ _ _ _ _ _ [0, 1, 3, 4, 5, 6, 7, 8, 9, 10, 11, 12, 13, 2, 14, 15, 16] _ _
 refine yi 0 1 [3] z (yk (rd_c m0 (S97.rd m0)) z (yi 3 1 [3] z (yk (rd_c m1 (S97.rd m1)) z (yi 5 2 [1] z (yk (rd_c m1 (S97.rd m1)) z (yi 8 1 [18] z (yk (rd_c m1 (S97.rd m1)) z (yi 10 1 [19] z (yk (rd_c m1 (S97.rd m1)) z (y7 12 93 (.agg (cs_qG (⟨p1.Role, p2, p1.Table, p1.Priv, p1.Option⟩ : qG)).toArray) (yai (rel := R_qG) (xs := ([(⟨p1.Role, p2, p1.Table, p1.Priv, p1.Option⟩ : qG)] : List qG)) S97 z kr z 67 5 [(cs_qG (⟨p1.Role, p2, p1.Table, p1.Priv, p1.Option⟩ : qG))] kr z ((Elr.cons z Elr.nil)) (fun C100 w104 S103 => (yv (S103.rd m1) (yv (S103.rd m2) (yae S103.im)))) ?_)))))))))))
 intro a102 C100 w104 S103 ho101
 refine bsk R1 fun r111 Xr106 R1 => yaj (slices_Clone_qG_ok (up h_p0.Grants) S103 Xr106) ?_
 rintro _ w107 ⟨I108, a_r111, c_r111, C_r111, rfl, L109, S110, h_r111⟩
 refine ⟨_, rfl, (yv (S110.rd m2) (yv (S110.rd m3) (yae (S110.im.of_le L109)))), ?_⟩
 refine WO.tail z (apk R1 fun x112 h0_x112 he_x112 R1 => yay 67 64 (cs_qG z_qG) S110 h_r111 (ho101.mono L109).sl (S110.rd m1) h0_x112 he_x112 z ?_)
 intro a113 c114 w115 C116 S117 ho118
 obtain ⟨I121, L122, S124, hp123⟩ := OwnSl.pub ho118 S117.front1.drop
 exact ya 15 2 z (yp (yx ⟨x112, 0, I121, a113, c114, sj R1, rfl, le, S124.drop.drop, hp123⟩))
 show WO _ _ _ _ _ _ _ [0, 1, 3, 4, 5, 6, 7, 8, 9, 10, 11, 12, 2, 13, 14, 15, 16] _ _
 refine yi 0 1 [3] z (yk (rd_c m0 (S97.rd m0)) z (yi 3 1 [3] z (yk (rd_c m1 (S97.rd m1)) z (yi 5 2 [1] z (yk (rd_c m1 (S97.rd m1)) z (yi 8 1 [18] z (yk (rd_c m1 (S97.rd m1)) z (yi 10 1 [19] z (yk (rd_c m1 (S97.rd m1)) z (y7 12 93 (.agg (cs_qG (⟨p1.Role, p2, p1.Table, p1.Priv, p1.Option⟩ : qG)).toArray) (bsk R1 fun r134 Xr129 R1 => yaj (slices_Clone_qG_ok (up h_p0.Grants) S97 Xr129) ?_)))))))))))
 rintro _ w130 ⟨I131, a_r134, c_r134, C_r134, rfl, L132, S133, h_r134⟩
 refine ⟨_, rfl, (yv (S133.rd m1) (yv (S133.rd m2) (yae (S133.im.of_le L132)))), ?_⟩
 refine yai (rel := R_qG) (xs := ([(⟨p1.Role, p2, p1.Table, p1.Priv, p1.Option⟩ : qG)] : List qG)) S133 z kr z 67 5 [(cs_qG (⟨p1.Role, p2, p1.Table, p1.Priv, p1.Option⟩ : qG))] kr z ((Elr.cons z Elr.nil)) (fun C136 w140 S139 => (yv (S139.rd m2) (yv (S139.rd m3) (yae (S139.im.of_le L132))))) ?_
 intro a138 C136 w140 S139 ho137
 refine WO.tail z (have S142 := S139.front1; apk R1 fun x143 h0_x143 he_x143 R1 => yay 67 64 (cs_qG z_qG) S142 h_r134 ho137.sl (S142.rd m1) h0_x143 he_x143 z ?_)
 intro a144 c145 w146 C147 S148 ho149
 obtain ⟨I152, L153, S155, hp154⟩ := OwnSl.pub ho149 S148.front1.drop
 exact ya 15 2 z (yp (yx ⟨x143, 0, I152, a144, c145, sj R1, rfl, le, S155.drop.drop, hp154⟩))
 show WO _ _ _ _ _ _ _ [0, 1, 3, 4, 5, 6, 7, 8, 9, 10, 11, 2, 12, 13, 14, 15, 16] _ _
 refine yi 0 1 [3] z (yk (rd_c m0 (S97.rd m0)) z (yi 3 1 [3] z (yk (rd_c m1 (S97.rd m1)) z (yi 5 2 [1] z (yk (rd_c m1 (S97.rd m1)) z (yi 8 1 [18] z (yk (rd_c m1 (S97.rd m1)) z (yi 10 1 [19] z (yk (rd_c m1 (S97.rd m1)) z (bsk R1 fun r163 Xr158 R1 => yaj (slices_Clone_qG_ok (up h_p0.Grants) S97 Xr158) ?_))))))))))
 rintro _ w159 ⟨I160, a_r163, c_r163, C_r163, rfl, L161, S162, h_r163⟩
 refine ⟨_, rfl, (yv (S162.rd m1) (yv (S162.rd m2) (yae (S162.im.of_le L161)))), ?_⟩
 refine y7 12 93 (.agg (cs_qG (⟨p1.Role, p2, p1.Table, p1.Priv, p1.Option⟩ : qG)).toArray) (yai (rel := R_qG) (xs := ([(⟨p1.Role, p2, p1.Table, p1.Priv, p1.Option⟩ : qG)] : List qG)) S162 z kr z 67 5 [(cs_qG (⟨p1.Role, p2, p1.Table, p1.Priv, p1.Option⟩ : qG))] kr z ((Elr.cons z Elr.nil)) (fun C165 w169 S168 => (yv (S168.rd m2) (yv (S168.rd m3) (yae (S168.im.of_le L161))))) ?_)
 intro a167 C165 w169 S168 ho166
 refine WO.tail z (have S171 := S168.front1; apk R1 fun x172 h0_x172 he_x172 R1 => yay 67 64 (cs_qG z_qG) S171 h_r163 ho166.sl (S171.rd m1) h0_x172 he_x172 z ?_)
 intro a173 c174 w175 C176 S177 ho178
 obtain ⟨I181, L182, S184, hp183⟩ := OwnSl.pub ho178 S177.front1.drop
 exact ya 15 2 z (yp (yx ⟨x172, 0, I181, a173, c174, sj R1, rfl, le, S184.drop.drop, hp183⟩))
 rintro _ w187 ⟨s125, s126, I95, a_s125, c_s125, rfl, rfl, L96, S188, h_s125⟩
 exact yc (yq (sj hr ▸ yas ⟨I95, a_s125, c_s125, rfl, le, S188, h_s125⟩))
theorem del68_ok {E w : World} {I C : Mem} {Os : List Mem} {xs : List qG} {a : Option Addr} {cap : Nat} (h : OwnSl 67 5 R_qG I C a cap xs) (hS : St E w I (C :: Os)) {p q : Nat} (hpq : p < q) (hq : q ≤ xs.length) :
    Calls P 68 #[.slice a xs.length cap, .int .i64 (p : Int), .int .i64 (q : Int)] w (fun e w' => ∃ (C' : Mem), e = .returned (.slice a (xs.take p ++ xs.drop q).length cap) ∧ St E w' I (C' :: Os) ∧ OwnSl 67 5 R_qG I C' a cap (xs.take p ++ xs.drop q)) := by
 have hxl := h.sl.le
 have hxc := h.sl.lt
 have hlen : (xs.take p ++ xs.drop q).length = p + (xs.length - q) := by simp; omega
 refine calls_W (fn := Tryz.f68) rfl rfl rfl ?_
 refine ye [0] (y7 0 6 (.slice none 0 0) (yz nL6 (WO.vs 0 [(8, Sl a xs cap), (9, Iv (p : Int)), (10, Iv (q : Int)), (11, Sl a xs cap), (12, Nv xs.length)] (WO.slice3 (e := 67) (sz := 5) z kr kr kr z p q xs.length z z z (by omega) hq hxl ?_))))
 refine yb (yh (ye nL3 (WO.vs 0 [(14, Iv (p : Int)), (15, Iv (q : Int)), (16, .bool ((p : Int) == (q : Int)))] (yb (ybx (fun hc => ?_) (fun hc => ?_))))))
 exfalso
 simp at hc
 omega
 clear hc
 refine yl (yc (ye nL3 (WO.vs 0 [(18, Sl a xs cap), (19, Nv xs.length), (7, Nv xs.length)] (yb (yh (have S1 := hS.drew; ybg nL8 6 (yae S1.im) ?_))))))
 generalize World.drew _ = w1 at *
 refine WO.vs 0 [(20, Sl a xs cap), (21, Iv (p : Int))] (ya2 (e := 67) (sz := 5) z kr kr kr z (0 : Int) (p : Int) (by omega) (.inl ⟨rfl, rfl⟩) (.inr ⟨_, _, rfl, rfl⟩) (by omega) (by omega) ?_)
 refine WO.vs 3 [(23, Sl a xs cap), (24, Iv (q : Int))] (ya2 (e := 67) (sz := 5) z kr kr kr z (q : Int) (xs.length : Int) (by omega) (.inr ⟨_, _, rfl, rfl⟩) (.inl ⟨rfl, rfl⟩) (by omega) (by omega) ?_)
 refine WO.tail z (yb2 (T := 67) (e' := 67) (b := 64) (zs := #[(.string (⟨#[]⟩ : By8)), (.string (⟨#[]⟩ : By8)), (.string (⟨#[]⟩ : By8)), (Iv 0), (.bool false)]) S1 h z kr z kr kr kr (Nat.le_of_lt hpq) hq z z (fun _ _ _ => trivial) ?_)
 intro w2 C2 S2 h2
 refine y7 7 0 (.slice a (p + (xs.length - q)) cap) (yb ?_)
 have hfl : (xs.take p ++ xs.drop q ++ xs.drop (p + (xs.length - q))).length = xs.length := by simp; omega
 refine ye nL6 (WO.vs 0 [(27, .slice a (p + (xs.length - q)) cap), (28, .slice a (p + (xs.length - q)) cap), (29, Iv ((p + (xs.length - q) : Nat) : Int)), (30, Nv xs.length)] (ya2 (e := 67) (sz := 5) z kr kr kr z ((p + (xs.length - q) : Nat) : Int) (xs.length : Int) (by omega) (.inr ⟨_, _, rfl, rfl⟩) (.inr ⟨_, _, rfl, rfl⟩) (by omega) (by omega) ?_))
 refine WO.clear S2 h2 (e := 67) kr (zs := [(.string (⟨#[]⟩ : By8)), (.string (⟨#[]⟩ : By8)), (.string (⟨#[]⟩ : By8)), (Iv 0), (.bool false)]) kr (z0 := z_qG) z kr kr kr z kr z (lo := p + (xs.length - q)) (by rw [hfl]; omega) (by rw [hfl]; rfl) (fun _ _ _ => trivial) ?_
 intro w3 C3 S3 h3
 refine yz nL2 (WO.vs 0 [(32, .slice a (p + (xs.length - q)) cap), (6, .slice a (p + (xs.length - q)) cap)] (yb (yq ?_)))
 rw [hlen]
 refine yy ⟨C3, rfl, S3, ?_⟩
 have h4 := h3.shorter (p + (xs.length - q))
 rwa [List.take_append_of_le_length (by rw [List.length_take, hfl]; omega), List.take_take, Nat.min_self, List.take_append_of_le_length (by rw [hlen]; exact Nat.le_refl _), List.take_of_length_le (by rw [hlen]; exact Nat.le_refl _)] at h4
def slices_Delete_qG (p0 : List qG) (p1 p2 : Int) : Option (List qG) := delO p0 p1 p2
theorem slices_Delete_qG_ok {p0 : List qG} {p1 p2 : Int} {a_p0 : Option Addr} {c_p0 : Nat} {C_p0 : Mem} (h_p0 : OwnSl 67 5 R_qG I C_p0 a_p0 c_p0 p0) (hS : St E w I (C_p0 :: Os)) {r : List qG} (hr : slices_Delete_qG p0 p1 p2 = some r) :
    Calls P 68 #[.slice a_p0 p0.length c_p0, .int .i64 p1, .int .i64 p2] w (fun e w' => ∃ (I' : Mem) (ra0 : Option Addr) (rc0 : Nat) (rC0 : Mem), e = .returned (.slice ra0 r.length rc0) ∧ I.Le I' ∧ St E w' I' (rC0 :: Os) ∧ OwnSl 67 5 R_qG I' rC0 ra0 rc0 r) := by
  obtain ⟨p, q, rfl, rfl, h1, h2, rfl⟩ := delO_some hr
  refine (del68_ok h_p0 hS h1 h2).mono ?_
  rintro e w' ⟨C', rfl, hS', ho⟩
  exact ⟨I, a_p0, c_p0, C', rfl, Mem.Le.refl _, hS', ho⟩
def grants_take (p0 : qC) (p1 : qS) (p2 : By8) : Option ((List qG) × Int) := (grants_place p0 p1 p2).bind (fun r14 => (bif (decide (r14 < 0)) then some (([] : List qG), 4) else (slices_Clone_qG p0.Grants).bind (fun r22 => (slices_Delete_qG r22 r14 (w64 (r14 + 1))).bind (fun r28 => some (r28, 0)))))
theorem grants_take_ok {p0 : qC} {p1 : qS} {p2 : By8} {w_p0 : W_qC} {w_p1 : W_qS} (h_p0 : ok_qC I p0 w_p0) (h_p1 : ok_qS I p1 w_p1) (hS : St E w I Os) {r : (List qG) × Int} (hr : grants_take p0 p1 p2 = some r) :
    Calls P 36 #[(vC p0 w_p0), (vS p1 w_p1), (.string p2)] w (fun e w' => ∃ (I' : Mem) (ra0 : Option Addr) (rc0 : Nat), e = .returned (.tuple #[(Sl ra0 r.1 rc0), (Iv r.2)]) ∧ I.Le I' ∧ St E w' I' Os ∧ RSl 5 R_qG I' ra0 rc0 r.1) := by
 refine calls_W (fn := Tryz.f36) rfl rfl rfl ?_
 unfold grants_take at hr
 refine ye nL4 (yac hS (cs_qC p0 w_p0) 29 z fun b1 w4 S3 => yac S3 (cs_qS p1 w_p1) 44 z fun b5 w8 S7 => y7 2 6 (.slice none 0 0) (ya 3 1 z (yz nL5 (yaa ((cs_qC p0 w_p0)) (S7.rf m1) z (yaa ((cs_qS p1 w_p1)) (S7.rf m0) z (ya 2 1 z (bsk hr fun r14 Xr9 hr => WO.c1 (grants_place_ok h_p0 h_p1 S7 Xr9) z fun I11 w10 L12 S13 => ya 4 1 z (yb (yh (ye nL2 (ya 0 2 z (yb (y6 hr (fun hc hr => ?_) (fun hc hr => ?_))))))))))))))
 exact ye nL2 (y7 0 6 (.slice none 0 0) (ya 1 1 z (yb (yq (yf (sj hr ▸ yas ⟨I11, none, 0, rfl, L12, S13.drop.drop, SlAt.nil⟩))))))
 refine yl (yc (ye nL9 (yi 0 1 [3] z (yk (S13.rf m1) z (bsk hr fun r22 Xr17 hr => yaj (slices_Clone_qG_ok (RSl.mono h_p0.Grants L12) S13 Xr17) ?_)))))
 rintro _ w18 ⟨I19, a_r22, c_r22, C_r22, rfl, L20, S21, h_r22⟩
 refine cv (ya 3 3 z (bsk hr fun r28 Xr23 hr => yaj (slices_Delete_qG_ok h_r22 S21 Xr23) ?_))
 rintro _ w24 ⟨I25, a_r28, c_r28, C_r28, rfl, L26, S27, h_r28⟩
 refine cv ?_
 obtain ⟨I29, L30, S32, hp31⟩ := OwnSl.pub h_r28 S27
 exact ya 7 2 z (yb (yq (sj hr ▸ yas ⟨I29, a_r28, c_r28, rfl, le, S32.drop.drop, hp31⟩)))
noncomputable def grants_Trim (p0 : qC) : Option qC := (grants_Held p0).bind (fun r14 => some { p0 with Grants := r14 })
theorem grants_Trim_ok {p0 : qC} {w_p0 : W_qC} (h_p0 : ok_qC I p0 w_p0) (hS : St E w I Os) {r : qC} (hr : grants_Trim p0 = some r) :
    Calls P 20 #[(vC p0 w_p0)] w (fun e w' => ∃ I' w_rw0, e = .returned (vC r w_rw0) ∧ I.Le I' ∧ St E w' I' Os ∧ ok_qC I' r w_rw0) := by
 refine calls_W (fn := Tryz.f20) rfl rfl rfl ?_
 unfold grants_Trim at hr
 refine ye nL2 (yac hS (cs_qC p0 w_p0) 29 z fun b1 w4 S3 => yac S3 (cs_qC z_qC zw_qC) 29 z fun b5 w8 S7 => yz nL4 (yaa ((cs_qC p0 w_p0)) (S7.rf m1) z (bsk hr fun r14 Xr9 hr => yaj (grants_Held_ok h_p0 S7 Xr9) ?_)))
 rintro _ w10 ⟨I11, a_r14, c_r14, rfl, L12, S13, h_r14⟩
 refine cv (yi 2 1 [3] z (yad S13.front1 3 (cs_qC ({ p0 with Grants := r14 }) ({ w_p0 with Grants := ⟨a_r14, c_r14⟩ })) fun w17 S16 => yz nL2 (yaa ((cs_qC ({ p0 with Grants := r14 }) ({ w_p0 with Grants := ⟨a_r14, c_r14⟩ }))) (S16.rf m0) z (yad S16.front1 0 (cs_qC ({ p0 with Grants := r14 }) ({ w_p0 with Grants := ⟨a_r14, c_r14⟩ })) fun w20 S19 => yb (yq ?_)))))
 have hk23 : ok_qC I11 ({ p0 with Grants := r14 }) ({ w_p0 with Grants := ⟨a_r14, c_r14⟩ }) := ⟨(RSl.mono h_p0.Tables L12), (RSl.mono h_p0.Roles L12), h_r14⟩
 exact sj hr ▸ En.c1 _ (S19.rd m0) ⟨I11, ({ w_p0 with Grants := ⟨a_r14, c_r14⟩ }), rfl, L12, S19.drop.drop, hk23⟩
noncomputable def grants_Make (p0 : qC) (p1 : qS) (p2 : By8) (p3 : Int) : Option (qC × Int) := (bif ((decide (p1.Kind < 10)) || (decide (p1.Kind > 15))) then some (z_qC, 2) else (member_Find p0.Roles p2).bind (fun (r25, r26) => (bif (!r26) then some (z_qC, 4) else ((((bif (p1.Kind == 10) then some (p1.Kind == 10) else ((bif (p1.Kind == 11) then some (p1.Kind == 11) else some (p1.Kind == 12))).bind (fun (j63 : Bool) => some j63))).bind (fun (j54 : Bool) => (bif j54 then some (.inl ()) else (bif (p1.Kind == 13) then some (.inl ()) else (bif (p1.Kind == 14) then some (.inr (.inl ())) else some (.inr (.inr ()))))))).bind (fun (t : Unit ⊕ Unit ⊕ Unit) => match t with | (.inl ()) => (member_Is p0.Roles p2 (⟨#[114, 111, 111, 116]⟩ : By8)).bind (fun r155 => (bif (!r155) then some (.inr (36, z_qC, p0)) else (grants_roles p0 p1).bind (fun (r177, r178) => some (.inl (r178, z_qC, { p0 with Roles := r177 }))))) | (.inr (.inl ())) => (grants_give p0 p1 p2).bind (fun (r87, r88) => some (.inl (r88, z_qC, { p0 with Grants := r87 }))) | (.inr (.inr ())) => (grants_take p0 p1 p2).bind (fun (r122, r123) => some (.inl (r123, z_qC, { p0 with Grants := r122 }))))).bind (fun (t : (Int × qC × qC) ⊕ (Int × qC × qC)) => match t with | (.inl (s91, s92, s93)) => ((bif ((s91 == 0) && (decide (p0.Version ≥ p3))) then some 52 else some s91)).bind (fun (j191 : Int) => (bif (j191 != 0) then some (z_qC, j191) else (grants_Trim ({ s93 with Version := (w64 (p0.Version + 1)) })).bind (fun r212 => some (r212, 0)))) | (.inr (s160, s161, s162)) => some (s161, s160)))))
theorem grants_Make_ok {p0 : qC} {p1 : qS} {p2 : By8} {p3 : Int} {w_p0 : W_qC} {w_p1 : W_qS} (h_p0 : ok_qC I p0 w_p0) (h_p1 : ok_qS I p1 w_p1) (hS : St E w I Os) {r : qC × Int} (hr : grants_Make p0 p1 p2 p3 = some r) :
    Calls P 11 #[(vC p0 w_p0), (vS p1 w_p1), (.string p2), (Iv p3)] w (fun e w' => ∃ I' w_rw0, e = .returned (.tuple #[(vC r.1 w_rw0), (Iv r.2)]) ∧ I.Le I' ∧ St E w' I' Os ∧ ok_qC I' r.1 w_rw0) := by
 refine calls_W (fn := Tryz.f11) rfl rfl rfl ?_
 unfold grants_Make at hr
 refine ye nL4 (yac hS (cs_qC p0 w_p0) 29 z fun b1 w4 S3 => yac S3 (cs_qS p1 w_p1) 44 z fun b5 w8 S7 => yac S7 (cs_qC z_qC zw_qC) 29 z fun b9 w12 S11 => ya 3 1 z (yb (yh (ye nL8 (yi 0 1 [0] z (yk (S11.rf m1) z (ya 2 2 z (ya8 [4, 5, 6] 7 17 21 (.refl ((decide (p1.Kind < 10)) || (decide (p1.Kind > 15)))) (fun _ => yi 4 1 [0] z (yk (S11.rf m1) z (ya 6 2 z yam))) (yb (y6 hr (fun hc hr => ?_) (fun hc hr => ?_)))))))))))
 exact ye nL3 (y7 0 22 (vC z_qC zw_qC) (yad S11 0 (cs_qC z_qC zw_qC) fun w16 S15 => ya 2 1 z (yb (yq (yf (sj hr ▸ ya9 _ (S15.rd m0) ⟨I, zw_qC, rfl, lr, S15.drop.drop.drop, zok_qC⟩))))))
 refine yl (yc (yh (ye nL10 (yi 0 1 [2] z (yk (S11.rf m2) z (ya 2 1 z ?_))))))
 obtain ⟨⟨r25, r26⟩, Xr20, hr⟩ := bsm hr
 refine yaj (member_Find_ok h_p0.Roles S11 Xr20) ?_
 rintro _ w21 ⟨I22, w_r25, rfl, L23, S24, h_r25⟩
 refine cv (ya 4 3 z (yac S24 (cs_qJ z_qJ zw_qJ) 62 z fun b27 w30 S29 => yad S29 0 (cs_qJ r25 w_r25) fun w32 S31 => ya 9 1 z (yz nL2 (ya 0 2 z (yb (y6 hr (fun hc hr => ?_) (fun hc hr => ?_)))))))
 exact ye nL3 (y7 0 32 (vC z_qC zw_qC) (yad S31.front1 0 (cs_qC z_qC zw_qC) fun w35 S34 => ya 2 1 z (yb (yq (yf (sj hr ▸ ya9 _ (S34.rd m0) ⟨I22, zw_qC, rfl, L23, S34.drop.drop.drop.drop, zok_qC⟩))))))
 refine yl (yc (ye nL3 (yaa ((cs_qC p0 w_p0)) (S31.rf m3) z (yac S31 (cs_qC z_qC zw_qC) 29 z fun b40 w43 S42 => yad S42 0 (cs_qC p0 w_p0) fun w45 S44 => yz [0] (ya 0 1 z (yb (yh (ye nL2 (yi 0 1 [0] z (yk (S44.rf m3) z (yb (bsk hr fun j46 R1 hr => yaz (J := (fun fr w => ∃ (s91 : Int) (s92 : qC) (s93 : qC), ∃ I48 w_s92 w_s93, (.inl (s91, s92, s93)) = j46 ∧ fr = [(3, Iv p3), (4, Pt b1 0), (8, Pt b9 0), (12, Pt b40 0), (13, Iv s91)] ∧ I22.Le I48 ∧ St E w I48 (bC b1 p0 w_p0 :: (bC b9 s92 w_s92) :: (bC b40 s93 w_s93) :: Os) ∧ ok_qC I48 s92 w_s92 ∧ ok_qC I48 s93 w_s93)) ?_ ?_))))))))))))
 refine yo (yh (yo (yh (yo (yh (bsk R1 fun j50 R2 R1 => yaz (J := (fun fr w => ∃ I52, (.inl ()) = j50 ∧ fr = [(2, .string p2), (3, Iv p3), (4, Pt b1 0), (5, Pt b5 0), (8, Pt b9 0), (12, Pt b40 0)] ∧ I22.Le I52 ∧ St E w I52 (bC b1 p0 w_p0 :: (bS b5 p1 w_p1) :: (bC b9 z_qC zw_qC) :: (bC b40 p0 w_p0) :: Os))) ?_ ?_))))))
 refine yo (yo (yh (yh (yh (ye nL2 (ya 0 2 z (yb (bsk R2 fun j54 R3 R2 => yaz (J := JI E I22 [(2, .string p2), (3, Iv p3), (4, Pt b1 0), (5, Pt b5 0), (8, Pt b9 0), (12, Pt b40 0), (35, Iv p1.Kind), (36, .bool j54)] (bC b1 p0 w_p0 :: (bS b5 p1 w_p1) :: (bC b9 z_qC zw_qC) :: (bC b40 p0 w_p0) :: Os)) ?_ ?_))))))))
 refine y6 R3 (fun hc R3 => ?_) (fun hc R3 => ?_)
 exact yl (sj R3 ▸ yx ⟨I22, rfl, lr, S44.front1.drop.front1.front2.front3⟩)
 refine ye nL2 (ya 0 2 z (yb (bsk R3 fun j63 R4 R3 => yaz (J := JI E I22 [(2, .string p2), (3, Iv p3), (4, Pt b1 0), (5, Pt b5 0), (8, Pt b9 0), (12, Pt b40 0), (35, Iv p1.Kind), (36, .bool j63)] (bC b1 p0 w_p0 :: (bS b5 p1 w_p1) :: (bC b9 z_qC zw_qC) :: (bC b40 p0 w_p0) :: Os)) ?_ ?_)))
 refine y6 R4 (fun hc R4 => ?_) (fun hc R4 => ?_)
 exact yl (sj R4 ▸ yx ⟨I22, rfl, lr, S44.front1.drop.front1.front2.front3⟩)
 exact yak nL2 (ya 0 2 z (yp (sj R4 ▸ yx ⟨I22, rfl, lr, S44.front1.drop.front1.front2.front3⟩)))
 rintro _ w77 ⟨I65, rfl, L66, S78⟩
 exact sj R3 ▸ yx ⟨I65, rfl, L66, S78⟩
 rintro _ w79 ⟨I56, rfl, L57, S80⟩
 refine yc (y6 R2 (fun hc R2 => ?_) (fun hc R2 => ?_))
 exact yab (yr (yr (yu (yn (yx ⟨I56, sj R2, rfl, L57, S80⟩)))))
 refine yl (yc (yh (ye nL2 (ya 0 2 z (yb (y6 R2 (fun hc R2 => ?_) (fun hc R2 => ?_)))))))
 refine yab (yr (yr (ybb z ?_)))
 exact yu (yx ⟨I56, sj R2, rfl, L57, S80⟩)
 refine yl (yc (ye nL2 (ya 0 2 z (yb (y6 R2 (fun hc R2 => ?_) (fun hc R2 => ?_))))))
 refine yab (yr (ybb z ?_))
 refine ybb z ?_
 refine yt ?_
 obtain rfl := sj R2
 refine yr (yu (yc (ye nL10 (yaa ((cs_qC p0 w_p0)) (S80.rf m0) z (yaa ((cs_qS p1 w_p1)) (S80.rf m1) z (ya 2 1 z ?_))))))
 obtain ⟨⟨r106, r107⟩, Xr101, R1⟩ := bsm R1
 refine yaj (grants_give_ok (h_p0.mono le) (h_p1.mono le) S80 Xr101) ?_
 rintro _ w102 ⟨I103, a_r106, c_r106, rfl, L104, S105, h_r106⟩
 refine cv (yi 4 4 [3] z (yad S105.front3 3 (cs_qC ({ p0 with Grants := r106 }) ({ w_p0 with Grants := ⟨a_r106, c_r106⟩ })) fun w110 S109 => ya 9 1 z (yb (yab (ybb z ?_)))))
 refine yr (yu ?_)
 have hk111 : ok_qC I103 ({ p0 with Grants := r106 }) ({ w_p0 with Grants := ⟨a_r106, c_r106⟩ }) := ⟨(RSl.mono h_p0.Tables ((L23.trans L57).trans L104)), (RSl.mono h_p0.Roles ((L23.trans L57).trans L104)), h_r106⟩
 exact yx ⟨r107, z_qC, { p0 with Grants := r106 }, I103, zw_qC, ({ w_p0 with Grants := ⟨a_r106, c_r106⟩ }), sj R1, rfl, le, S109.front2.drop.front2.front2, zok_qC, hk111⟩
 refine yl (yc (yab (ybb z ?_)))
 refine ybb z ?_
 refine yt ?_
 obtain rfl := sj R2
 refine yr (ybb z ?_)
 refine yr (yu (yc (ye nL10 (yaa ((cs_qC p0 w_p0)) (S80.rf m0) z (yaa ((cs_qS p1 w_p1)) (S80.rf m1) z (ya 2 1 z ?_))))))
 obtain ⟨⟨r138, r139⟩, Xr133, R1⟩ := bsm R1
 refine yaj (grants_take_ok (h_p0.mono le) (h_p1.mono le) S80 Xr133) ?_
 rintro _ w134 ⟨I135, a_r138, c_r138, rfl, L136, S137, h_r138⟩
 refine cv (yi 4 4 [3] z (yad S137.front3 3 (cs_qC ({ p0 with Grants := r138 }) ({ w_p0 with Grants := ⟨a_r138, c_r138⟩ })) fun w142 S141 => ya 9 1 z (yb (yab (yu ?_)))))
 have hk143 : ok_qC I135 ({ p0 with Grants := r138 }) ({ w_p0 with Grants := ⟨a_r138, c_r138⟩ }) := ⟨(RSl.mono h_p0.Tables ((L23.trans L57).trans L136)), (RSl.mono h_p0.Roles ((L23.trans L57).trans L136)), h_r138⟩
 exact yx ⟨r139, z_qC, { p0 with Grants := r138 }, I135, zw_qC, ({ w_p0 with Grants := ⟨a_r138, c_r138⟩ }), sj R1, rfl, le, S141.front2.drop.front2.front2, zok_qC, hk143⟩
 rintro _ w148 ⟨I52, rfl, rfl, L53, S149⟩
 refine yc (yh (yh (ye nL5 (yi 0 1 [2] z (yk (S149.rf m0) z (ya 2 1 z (bsk R1 fun r155 Xr150 R1 => WO.c1 (member_Is_ok (up h_p0.Roles) S149 Xr150) z fun I152 w151 L153 S154 => ya 4 1 z (yb (y6 R1 (fun hc R1 => ?_) (fun hc R1 => ?_))))))))))
 refine ye nL3 (y7 0 49 (vC z_qC zw_qC) (yad S154.front2 0 (cs_qC z_qC zw_qC) fun w158 S157 => ya 2 1 z (yb (yq (yf (yf (ym (yf (ym (yf (ym (yw ?_))))))))))))
 obtain rfl := sj R1
 exact yf (sj hr ▸ ya9 _ (S157.rd m0) ⟨I152, zw_qC, rfl, le, S157.drop.drop.drop.drop, zok_qC⟩)
 refine yl (yc (yak nL9 (yaa ((cs_qC p0 w_p0)) (S154.rf m0) z (yaa ((cs_qS p1 w_p1)) (S154.rf m1) z ?_))))
 obtain ⟨⟨r177, r178⟩, Xr172, R1⟩ := bsm R1
 refine yaj (grants_roles_ok (h_p0.mono le) (h_p1.mono le) S154 Xr172) ?_
 rintro _ w173 ⟨I174, a_r177, c_r177, rfl, L175, S176, h_r177⟩
 refine cv (yi 3 4 [2] z (yad S176.front3 2 (cs_qC ({ p0 with Roles := r177 }) ({ w_p0 with Roles := ⟨a_r177, c_r177⟩ })) fun w181 S180 => ya 8 1 z (yb (yab (ybb z ?_)))))
 refine yr (ybb z ?_)
 refine yr (yu ?_)
 have hk182 : ok_qC I174 ({ p0 with Roles := r177 }) ({ w_p0 with Roles := ⟨a_r177, c_r177⟩ }) := ⟨(RSl.mono h_p0.Tables (((L23.trans L53).trans L153).trans L175)), h_r177, (RSl.mono h_p0.Grants (((L23.trans L53).trans L153).trans L175))⟩
 exact yx ⟨r178, z_qC, { p0 with Roles := r177 }, I174, zw_qC, ({ w_p0 with Roles := ⟨a_r177, c_r177⟩ }), sj R1, rfl, le, S180.front2.drop.front2.front2, zok_qC, hk182⟩
 rintro _ w187 ⟨s91, s92, s93, I48, w_s92, w_s93, rfl, rfl, L49, S188, h_s92, h_s93⟩
 refine yc (yh (ye nL8 (ya 0 3 z (yav [3, 4, 5, 6] 7 75 80 (.refl ((s91 == 0) && (decide (p0.Version ≥ p3)))) (fun _ => yi 3 1 [0] z (yk (S188.rf m0) z (ya 5 3 z yam))) (yb (bsk hr fun j191 R1 hr => yaz (J := JI E I48 [(4, Pt b1 0), (8, Pt b9 0), (12, Pt b40 0), (13, Iv j191)] (bC b1 p0 w_p0 :: (bC b9 s92 w_s92) :: (bC b40 s93 w_s93) :: Os)) ?_ ?_))))))
 refine y6 R1 (fun hc R1 => ?_) (fun hc R1 => ?_)
 exact yak [0] (ya 0 1 z (yp (sj R1 ▸ yx ⟨I48, rfl, lr, S188⟩)))
 exact yl (sj R1 ▸ yx ⟨I48, rfl, lr, S188⟩)
 rintro _ w195 ⟨I193, rfl, L194, S196⟩
 refine yc (yh (ye nL2 (ya 0 2 z (yb (y6 hr (fun hc hr => ?_) (fun hc hr => ?_))))))
 exact ye nL4 (y7 0 83 (vC z_qC zw_qC) (ya 1 1 z (yad S196.front1 0 (cs_qC z_qC zw_qC) fun w199 S198 => ya 3 1 z (yb (yq (yf (sj hr ▸ ya9 _ (S198.rd m0) ⟨I193, zw_qC, rfl, le, S198.drop.drop.drop, zok_qC⟩)))))))
 refine yl (yc (ye nL5 (yi 0 1 [0] z (yk (S196.rf m0) z (yi 2 2 [0] z (yad S196.front2 0 (cs_qC ({ s93 with Version := (w64 (p0.Version + 1)) }) w_s93) fun w205 S204 => yz nL4 (yaa ((cs_qC ({ s93 with Version := (w64 (p0.Version + 1)) }) w_s93)) (S204.rf m0) z ?_)))))))
 have hk206 : ok_qC I193 ({ s93 with Version := (w64 (p0.Version + 1)) }) w_s93 := ⟨(RSl.mono h_s93.Tables L194), (RSl.mono h_s93.Roles L194), (RSl.mono h_s93.Grants L194)⟩
 refine bsk hr fun r212 Xr207 hr => yaj (grants_Trim_ok hk206 S204 Xr207) ?_
 rintro _ w208 ⟨I209, w_r212, rfl, L210, S211, h_r212⟩
 exact cv (yad S211.front2 0 (cs_qC r212 w_r212) fun w215 S214 => ya 3 1 z (yb (yq (sj hr ▸ ya9 _ (S214.rd m0) ⟨I209, w_r212, rfl, le, S214.drop.drop.drop, h_r212⟩))))
noncomputable def grants_May (p0 : qC) (p1 : By8) (p2 : Int) (p3 : By8) : Option Bool := (grants_Owns p0 p1 p3).bind (fun r12 => ((bif r12 then some true else (grants_Held p0).bind (fun r22 => (grants_has p0 r22 p1 p2 p3 false).bind (fun r28 => some r28)))).bind (fun (j13 : Bool) => some j13))
theorem grants_May_ok {p0 : qC} {p1 : By8} {p2 : Int} {p3 : By8} {w_p0 : W_qC} (h_p0 : ok_qC I p0 w_p0) (hS : St E w I Os) {r : Bool} (hr : grants_May p0 p1 p2 p3 = some r) :
    Calls P 23 #[(vC p0 w_p0), (.string p1), (Iv p2), (.string p3)] w (RT E I Os (.bool r)) := by
 refine calls_W (fn := Tryz.f23) rfl rfl rfl ?_
 unfold grants_May at hr
 refine ye nL2 (yac hS (cs_qC p0 w_p0) 29 z fun b1 w4 S3 => ya 1 1 z (yb (yh (have S5 := S3.drew; ybg nL14 13 (yv (S5.rd m0) (yae S5.im)) ?_))))
 generalize World.drew _ = w6 at *
 refine yaa ((cs_qC p0 w_p0)) (rd_c m0 (S5.rd m0)) z (ya 1 2 z (bsk hr fun r12 Xr7 hr => yaj (grants_Owns_ok h_p0 S5 Xr7) ?_))
 rintro _ w8 ⟨I9, rfl, L10, S11⟩
 refine ⟨_, rfl, (yv (S11.rd m0) (yae (S11.im.of_le L10))), ?_⟩
 refine ya 4 1 z (bsk hr fun j13 R1 hr => yap (l1 := [5, 6, 7, 8, 9, 10, 11, 12]) (J := JI E I9 [(21, .bool j13)] (bC b1 p0 w_p0 :: Os)) ?_ ?_)
 refine yao R1 (fun hc R1 => ?_) (fun hc R1 => ?_)
 refine y4 13 hc ?_
 iterate 7 refine yan ?_
 exact ya 12 1 z (sj R1 ▸ y3 ⟨I9, rfl, lr, S11⟩)
 refine y4 13 hc (yaa ((cs_qC p0 w_p0)) (rd_c m0 (S11.rd m0)) z (yaa ((cs_qC p0 w_p0)) (rd_c m0 (S11.rd m0)) z (bsk R1 fun r22 Xr17 R1 => yaj (grants_Held_ok (h_p0.mono L10) S11 Xr17) ?_)))
 rintro _ w18 ⟨I19, a_r22, c_r22, rfl, L20, S21, h_r22⟩
 refine ⟨_, rfl, (yv (S21.rd m0) (yae (S21.im.of_le le))), ?_⟩
 refine ya 8 3 z (bsk R1 fun r28 Xr23 R1 => yaj (grants_has_ok (h_p0.mono le) h_r22 S21 Xr23) ?_)
 rintro _ w24 ⟨I25, rfl, L26, S27⟩
 refine ⟨_, rfl, (yv (S27.rd m0) (yae (S27.im.of_le le))), ?_⟩
 exact ya 12 1 z (sj R1 ▸ y3 ⟨I25, rfl, le, S27⟩)
 rintro _ w29 ⟨I15, rfl, L16, S30⟩
 exact WO.tail z (ya 13 1 z (yb (yq (sj hr ▸ yy ⟨I15, rfl, le, S30.drop⟩))))
def law19_works_1 (p0 : By8) (p1 : By8) : Option law19_Act := some (⟨{ z_qS with Kind := 14, Table := (⟨#[116]⟩ : By8), Role := p1, Priv := 1, Option := true }, p0⟩ : law19_Act)
theorem law19_works_1_ok {p0 : By8} {p1 : By8} (hS : St E w I Os) {r : law19_Act} (hr : law19_works_1 p0 p1 = some r) :
    Calls P 29 #[(.string p0), (.string p1)] w (fun e w' => ∃ I' w_rw0, e = .returned (.agg (cs_law19_Act r w_rw0).toArray) ∧ I.Le I' ∧ St E w' I' Os ∧ ok_law19_Act I' r w_rw0) := by
 refine calls_W (fn := Tryz.f29) rfl rfl rfl ?_
 unfold law19_works_1 at hr
 refine ye [0] (yac hS (cs_law19_Act z_law19_Act zw_law19_Act) 46 z fun b1 w4 S3 => yz nL5 (ya 0 1 z (y7 1 6 (.agg (cs_qS ({ z_qS with Kind := 14, Table := (⟨#[116]⟩ : By8), Role := p1, Priv := 1, Option := true }) zw_qS).toArray) (ya 2 1 z (y7 3 8 (.agg (cs_law19_Act (⟨{ z_qS with Kind := 14, Table := (⟨#[116]⟩ : By8), Role := p1, Priv := 1, Option := true }, p0⟩ : law19_Act) (⟨zw_qS⟩ : W_law19_Act)).toArray) (yad S3 0 (cs_law19_Act (⟨{ z_qS with Kind := 14, Table := (⟨#[116]⟩ : By8), Role := p1, Priv := 1, Option := true }, p0⟩ : law19_Act) (⟨zw_qS⟩ : W_law19_Act)) fun w6 S5 => yb (yq ?_)))))))
 have hk8 : ok_law19_Act I (⟨{ z_qS with Kind := 14, Table := (⟨#[116]⟩ : By8), Role := p1, Priv := 1, Option := true }, p0⟩ : law19_Act) (⟨zw_qS⟩ : W_law19_Act) := ⟨⟨SlAt.nil, SlAt.nil, SlAt.nil, SlAt.nil, zok_qS.Where, SlAt.nil, SlAt.nil, SlAt.nil⟩⟩
 exact sj hr ▸ En.c1 _ (S5.rd m0) ⟨I, (⟨zw_qS⟩ : W_law19_Act), rfl, lr, S5.drop, hk8⟩
noncomputable def law19_works  : Option Bool := (law19_works_1 (⟨#[97, 110, 110]⟩ : By8) (⟨#[98, 111, 98]⟩ : By8)).bind (fun r6 => (law19_works_1 (⟨#[98, 111, 98]⟩ : By8) (⟨#[99, 121]⟩ : By8)).bind (fun r12 => (law19_Grown ([r6, r12] : List law19_Act)).bind (fun r29 => (grants_Make r29 ({ z_qS with Kind := 15, Table := (⟨#[116]⟩ : By8), Role := (⟨#[98, 111, 98]⟩ : By8), Priv := 1 }) (⟨#[97, 110, 110]⟩ : By8) 1000).bind (fun (r42, r43) => ((bif (r43 == 0) then (grants_May r29 (⟨#[99, 121]⟩ : By8) 1 (⟨#[116]⟩ : By8)).bind (fun r59 => some r59) else some false)).bind (fun (j50 : Bool) => ((bif j50 then (grants_May r42 (⟨#[99, 121]⟩ : By8) 1 (⟨#[116]⟩ : By8)).bind (fun r76 => some (!r76)) else some false)).bind (fun (j67 : Bool) => some (j67 && ((r42.Grants.length : Int) == 0))))))))
theorem law19_works_ok (hS : St E w I Os) {r : Bool} (hr : law19_works = some r) :
    Calls P 8 #[] w (RT E I Os (.bool r)) := by
 refine calls_W (fn := Tryz.f8) rfl rfl rfl ?_
 unfold law19_works at hr
 refine ye [0] (ya 0 1 z (yz [0] (y7 0 1 (.func (.func 29) #[] #[]) (yz nL8 (y7 0 5 (.func (.func 29) #[] #[]) (bsk hr fun r6 Xr1 hr => yaj (law19_works_1_ok  hS Xr1) ?_))))))
 rintro _ w2 ⟨I3, w_r6, rfl, L4, S5, h_r6⟩
 refine cv (y7 2 7 (.func (.func 29) #[] #[]) (bsk hr fun r12 Xr7 hr => yaj (law19_works_1_ok  S5 Xr7) ?_))
 rintro _ w8 ⟨I9, w_r12, rfl, L10, S11, h_r12⟩
 refine cv (yai (rel := R_law19_Act) (xs := ([r6, r12] : List law19_Act)) S11 z kr z 46 22 [(cs_law19_Act r6 w_r6), (cs_law19_Act r12 w_r12)] kr z ((Elr.cons ⟨w_r6, rfl, (h_r6.mono L10)⟩ (Elr.cons ⟨w_r12, rfl, h_r12⟩ Elr.nil))) (fun _ _ _ => trivial) ?_)
 intro a16 C14 w18 S17 ho15
 obtain ⟨I20, L21, S23, hp22⟩ := OwnSl.pub ho15 S17
 refine bsk hr fun r29 Xr24 hr => yaj (law19_Grown_ok hp22 S23 Xr24) ?_
 rintro _ w25 ⟨I26, w_r29, rfl, L27, S28, h_r29⟩
 refine cv (yac S28 (cs_qC z_qC zw_qC) 29 z fun b30 w33 S32 => yad S32 0 (cs_qC r29 w_r29) fun w35 S34 => yz nL9 (yaa ((cs_qC r29 w_r29)) (S34.rf m0) z (y7 1 13 (.agg (cs_qS ({ z_qS with Kind := 15, Table := (⟨#[116]⟩ : By8), Role := (⟨#[98, 111, 98]⟩ : By8), Priv := 1 }) zw_qS).toArray) ?_)))
 have hk36 : ok_qS I26 ({ z_qS with Kind := 15, Table := (⟨#[116]⟩ : By8), Role := (⟨#[98, 111, 98]⟩ : By8), Priv := 1 }) zw_qS := ⟨SlAt.nil, SlAt.nil, SlAt.nil, SlAt.nil, zok_qS.Where, SlAt.nil, SlAt.nil, SlAt.nil⟩
 obtain ⟨⟨r42, r43⟩, Xr37, hr⟩ := bsm hr
 refine yaj (grants_Make_ok h_r29 hk36 S34 Xr37) ?_
 rintro _ w38 ⟨I39, w_r42, rfl, L40, S41, h_r42⟩
 refine cv (ya 3 3 z (yac S41 (cs_qC z_qC zw_qC) 29 z fun b44 w47 S46 => yad S46 0 (cs_qC r42 w_r42) fun w49 S48 => ya 8 1 z (yz nL18 (ya 0 3 z (bsk hr fun j50 R1 hr => yap (l1 := [3, 4, 5]) (J := JI E I39 [(3, Pt b44 0), (22, .bool j50)] (bC b44 r42 w_r42 :: Os)) ?_ ?_)))))
 refine yao R1 (fun hc R1 => ?_) (fun hc R1 => ?_)
 exact y4 19 hc (yaa ((cs_qC r29 w_r29)) (S48.rf m1) z (bsk R1 fun r59 Xr54 R1 => WO.c1 (grants_May_ok (h_r29.mono L40) S48 Xr54) z fun I56 w55 L57 S58 => ya 5 1 z (sj R1 ▸ y3 ⟨I56, rfl, L57, S58.front1.drop⟩)))
 refine y4 19 hc ?_
 iterate 2 refine yan ?_
 exact ya 5 1 z (sj R1 ▸ y3 ⟨I39, rfl, lr, S48.front1.drop⟩)
 rintro _ w65 ⟨I52, rfl, L53, S66⟩
 refine ya 6 1 z (bsk hr fun j67 R1 hr => yap (l1 := [7, 8, 9, 10]) (J := JI E I52 [(3, Pt b44 0), (27, .bool j67)] (bC b44 r42 w_r42 :: Os)) ?_ ?_)
 refine yao R1 (fun hc R1 => ?_) (fun hc R1 => ?_)
 exact y4 23 hc (yaa ((cs_qC r42 w_r42)) (S66.rf m0) z (bsk R1 fun r76 Xr71 R1 => WO.c1 (grants_May_ok (h_r42.mono L53) S66 Xr71) z fun I73 w72 L74 S75 => ya 9 2 z (sj R1 ▸ y3 ⟨I73, rfl, L74, S75⟩)))
 refine y4 23 hc ?_
 iterate 3 refine yan ?_
 exact ya 10 1 z (sj R1 ▸ y3 ⟨I52, rfl, lr, S66⟩)
 rintro _ w77 ⟨I69, rfl, L70, S78⟩
 exact ya 11 1 z (yav [12, 13, 14, 15] 16 28 33 (.refl (j67 && ((r42.Grants.length : Int) == 0))) (fun _ => yi 12 1 [3] z (yk (S78.rf m0) z (ya 14 3 z yam))) (ya 17 1 z (yb (yq (sj hr ▸ yy ⟨I69, rfl, le, S78.drop⟩)))))
def r19_Same (p0 : List qG) (p1 : List qG) : Option Bool := (bif ((p0.length : Int) != (p1.length : Int)) then some false else (forN (fun (i4 : Nat) => fun (_s : Unit) => (idx p0 (i4 : Int)).bind (fun x13 => (idx p1 (i4 : Int)).bind (fun x14 => (bif (!(sEq x13.To x14.To && (sEq x13.By x14.By && (sEq x13.Table x14.Table && ((x13.Priv == x14.Priv) && (x13.Option == x14.Option)))))) then some (.inr false) else some (.inl ()))))) p0.length 0 ()).bind (fun (t : Unit ⊕ (Bool)) => match t with | .inl _ => some true | .inr s16 => some s16))
theorem r19_Same_ok {p0 : List qG} {p1 : List qG} {a_p0 : Option Addr} {c_p0 : Nat} {a_p1 : Option Addr} {c_p1 : Nat} (h_p0 : RSl 5 R_qG I a_p0 c_p0 p0) (h_p1 : RSl 5 R_qG I a_p1 c_p1 p1) (hS : St E w I Os) {r : Bool} (hr : r19_Same p0 p1 = some r) :
    Calls P 17 #[(Sl a_p0 p0 c_p0), (Sl a_p1 p1 c_p1)] w (RT E I Os (.bool r)) := by
 refine calls_W (fn := Tryz.f17) rfl rfl rfl ?_
 unfold r19_Same at hr
 refine ye [0] (ya 0 1 z (yb (yh (ye nL5 (ya 0 5 z (yb (y6 hr (fun hc hr => ?_) (fun hc hr => ?_))))))))
 exact ye [0] (ya 0 1 z (yb (yq (yf (sj hr ▸ yy ⟨I, rfl, lr, hS⟩)))))
 refine yl (yc (yh (ye [0] (ya 0 1 z (yb (yo (bsk hr fun t1 hloop5 hr => have hlt9 := (h_p0).len_lt; W.wk (yat (m := p0.length) hloop5 (fun (i4 : Nat) => fun (_s : Unit) => JI E I [(0, Sl a_p0 p0 c_p0), (1, Sl a_p1 p1 c_p1), (5, Nv i4)] Os) ⟨I, rfl, lr, hS⟩ ?_ ?_))))))))
 rintro i4 _ _ w6 hi10 ⟨I2, rfl, L3, S7⟩ x8 R1 hext1
 refine yh (ye nL4 (ya 0 4 z (yb (yaw fun _ => yl (yc (yh (yo (yh (have S11 := S7.drew; ybg nL9 8 (yae S11.im) ?_)))))))))
 generalize World.drew _ = w12 at *
 refine ya 0 2 z ?_
 obtain ⟨x13, R1, Hx13, _, rfl, Zx13⟩ := sl_ix ((RSl.mono h_p0 L3)) R1
 refine yag 67 5 Hx13 z (ya0 ((cs_qG x13)) Zx13 0 (rd_i S11.im) z (ya 4 2 z ?_))
 obtain ⟨x14, R1, Hx14, _, rfl, Zx14⟩ := sl_ix ((RSl.mono h_p1 L3)) R1
 refine yag 67 5 Hx14 z (ya0 ((cs_qG x14)) Zx14 0 (rd_i S11.im) z (WO.tail z (yb0 z kr z z kr 50 z (b := (sEq x13.To x14.To && (sEq x13.By x14.By && (sEq x13.Table x14.Table && ((x13.Priv == x14.Priv) && ((x13.Option == x14.Option) && true)))))) kr (!(sEq x13.To x14.To && (sEq x13.By x14.By && (sEq x13.Table x14.Table && ((x13.Priv == x14.Priv) && (x13.Option == x14.Option)))))) (.inr ⟨rfl, by simp only [Bool.and_true]⟩) ?_)))
 refine yb (y6 R1 (fun hc R1 => ?_) (fun hc R1 => ?_))
 refine ye [0] (ya 0 1 z (yb (yq (ym (yf (yw ?_))))))
 obtain rfl := hext1 _ (sj R1).symm
 exact ym (yf (sj hr ▸ yy ⟨I2, rfl, L3, S11⟩))
 exact yl (yn (yc (yak nL3 (ya 0 1 z (yaq i4 z (ya 2 1 z (yp (yx ⟨(), (sj R1).symm, I2, rfl, L3, S11⟩))))))))
 rintro _ _ w17 ⟨I2, rfl, L3, S18⟩ he
 cases he
 exact yh (ye nL4 (ya 0 4 z (yb (yax fun _ => yab (yr (yt (yu (yc (ye [0] (ya 0 1 z (yb (yq (sj hr ▸ yy ⟨I2, rfl, L3, S18⟩)))))))))))))
noncomputable def law19_GrantsHold (p0 : List law19_Act) : Option Bool := (law19_Few p0).bind (fun r6 => (bif (!r6) then (law19_works).bind (fun r12 => some r12) else (law19_first).bind (fun r18 => (forN (fun (i29 : Nat) => fun (s28 : qC) => ((idx p0 (i29 : Int)).bind (fun x40 => (bif (decide (x40.S.Kind < 10)) then (idx p0 (i29 : Int)).bind (fun x43 => (law19_Next s28 x43).bind (fun (r49, r50) => some (.inl r49))) else ((idx p0 (i29 : Int)).bind (fun x60 => (idx p0 (i29 : Int)).bind (fun x61 => (grants_Make s28 x60.S x61.By 1000).bind (fun (r71, r72) => some (r71, r72))))).bind (fun ((s75, s76) : qC × Int) => (bif (s76 != 0) then some (.inl s28) else (grants_Held s75).bind (fun r107 => (r19_Same r107 s75.Grants).bind (fun r113 => (bif (!r113) then some (.inr (false, s75)) else some (.inl s75))))))))).bind (fun (t : qC ⊕ (Bool × qC)) => match t with | (.inl s53) => some (.inl s53) | (.inr (s115, s116)) => some (.inr (s115, s116)))) p0.length 0 r18).bind (fun (t : qC ⊕ ((Bool × qC))) => match t with | .inl s28 => (forN (fun (i133 : Nat) => fun (_s : Unit) => (idx s28.Roles (i133 : Int)).bind (fun x140 => (loopO (fun (s144 : Int) => (bif (decide (s144 < 5)) then (grants_Owns s28 x140.Name (⟨#[116]⟩ : By8)).bind (fun r154 => (forE (fun (i159 : Nat) => fun (s158 : Bool) => (idx s28.Grants (i159 : Int)).bind (fun x166 => ((bif s158 then some true else (some ((x166.Priv == s144) && (sEq x166.Table (⟨#[116]⟩ : By8)))).bind (fun (q178 : Bool) => ((bif q178 then (r18_Is s28.Roles x140.Name x166.To).bind (fun r190 => some r190) else some false)).bind (fun (j181 : Bool) => ((bif j181 then (grants_Can s28 x166.By s144 (⟨#[116]⟩ : By8)).bind (fun r204 => some r204) else some false)).bind (fun (j195 : Bool) => some j195))))).bind (fun (j173 : Bool) => some j173))) s28.Grants.length 0 r154).bind (fun s158 => (grants_May s28 x140.Name s144 (⟨#[116]⟩ : By8)).bind (fun r220 => ((bif (!(r220 == s158)) then some true else (grants_Can s28 x140.Name s144 (⟨#[116]⟩ : By8)).bind (fun r230 => some (r230 && (!s158))))).bind (fun (j221 : Bool) => (bif j221 then some (.inr (.inl false)) else some (.inl (w64 (s144 + 1)))))))) else some (.inr (.inr ())))) 1).bind (fun (t : Bool ⊕ Unit) => match t with | (.inl s236) => some (.inr s236) | (.inr ()) => some (.inl ())))) s28.Roles.length 0 ()).bind (fun (t : Unit ⊕ (Bool)) => match t with | .inl _ => (law19_works).bind (fun r250 => some r250) | .inr s238 => some s238) | .inr (s118, s119) => some s118))))
theorem law19_GrantsHold_ok {p0 : List law19_Act} {a_p0 : Option Addr} {c_p0 : Nat} (h_p0 : RSl 22 R_law19_Act I a_p0 c_p0 p0) (hS : St E w I Os) {r : Bool} (hr : law19_GrantsHold p0 = some r) :
    Calls P 5 #[(Sl a_p0 p0 c_p0)] w (RT E I Os (.bool r)) := by
 refine calls_W (fn := Tryz.f5) rfl rfl rfl ?_
 unfold law19_GrantsHold at hr
 refine ye [0] (ya 0 1 z (yb (yh (ye nL3 (ya 0 1 z (bsk hr fun r6 Xr1 hr => WO.c1 (law19_Few_ok h_p0 hS Xr1) z fun I3 w2 L4 S5 => ya 2 1 z (yb (y6 hr (fun hc hr => ?_) (fun hc hr => ?_)))))))))
 exact ye nL2 (bsk hr fun r12 Xr7 hr => WO.c1 (law19_works_ok  S5 Xr7) z fun I9 w8 L10 S11 => ya 1 1 z (yb (yq (yf (sj hr ▸ yy ⟨I9, rfl, le, S11⟩)))))
 refine yl (yc (ye nL3 (bsk hr fun r18 Xr13 hr => yaj (law19_first_ok  S5 Xr13) ?_)))
 rintro _ w14 ⟨I15, w_r18, rfl, L16, S17, h_r18⟩
 refine cv (yac S17 (cs_qC z_qC zw_qC) 29 z fun b19 w22 S21 => yad S21 0 (cs_qC r18 w_r18) fun w24 S23 => yb (yh (ye [0] (ya 0 1 z (yb (yo (bsk hr fun t25 hloop30 hr => have hlt34 := ((RSl.mono h_p0 (L4.trans L16))).len_lt; W.wk (yat (m := p0.length) hloop30 (fun (i29 : Nat) => fun (s28 : qC) fr w => ∃ I26 w_s28, fr = [(0, Sl a_p0 p0 c_p0), (3, Pt b19 0), (4, Nv i29)] ∧ I15.Le I26 ∧ St E w I26 (bC b19 s28 w_s28 :: Os) ∧ ok_qC I26 s28 w_s28) ⟨I15, w_r18, rfl, lr, S23, h_r18⟩ ?_ ?_))))))))
 rintro i29 s28 _ w31 hi35 ⟨I26, w_s28, rfl, L27, S32, h_s28⟩ x33 R1 hext25
 refine yh (ye nL4 (ya 0 4 z (yb (yaw fun _ => yl (yc (yh (bsk R1 fun j36 R2 R1 => yaz (J := (fun fr w => ∃ (s53 : qC), ∃ I38 w_s53, (.inl s53) = j36 ∧ fr = [(0, Sl a_p0 p0 c_p0), (3, Pt b19 0), (4, Nv i29)] ∧ I26.Le I38 ∧ St E w I38 (bC b19 s53 w_s53 :: Os) ∧ ok_qC I38 s53 w_s53)) ?_ ?_)))))))
 refine yo (yh (ye nL7 (ya 0 2 z ?_)))
 obtain ⟨x40, R2, Hx40, _, ⟨w_x40, rfl, h_x40⟩, Zx40⟩ := sl_ix ((RSl.mono h_p0 ((L4.trans L16).trans L27))) R2
 refine yag 46 22 Hx40 z (yi 3 2 [0, 0] z (yar Zx40 S32.rm z (ya 6 1 z (yb (y6 R2 (fun hc R2 => ?_) (fun hc R2 => ?_))))))
 refine yh (have S41 := S32.drew; yby (l := nL10) kr 9 (KR I26 [bC b19 s28 w_s28]) qR (.ords nL10 [0, 1, 2, 3, 4, 5, 6, 7, 9, 8] kr kr kr kr kr) kr (yv (S41.rd m0) (yae S41.im)) ?_)
 generalize World.drew _ = w42 at *
 refine yaa ((cs_qC s28 w_s28)) (rd_c m0 (S41.rd m0)) z (ya 1 2 z ?_)
 obtain ⟨x43, R2, Hx43, _, ⟨w_x43, rfl, h_x43⟩, Zx43⟩ := sl_ix ((RSl.mono h_p0 ((L4.trans L16).trans L27))) R2
 refine yag 46 22 Hx43 z (ya0 ((cs_law19_Act x43 w_x43)) Zx43 0 (rd_i S41.im) z ?_)
 obtain ⟨⟨r49, r50⟩, Xr44, R2⟩ := bsm R2
 refine yaj (law19_Next_ok h_s28 h_x43 S41 Xr44) ?_
 rintro _ w45 ⟨I46, w_r49, rfl, L47, S48, h_r49⟩
 refine ⟨_, rfl, (yv (S48.rd m0) (yae (S48.im.of_le L47))), ?_⟩
 exact ya 6 3 z (WO.tail z (yad S48 0 (cs_qC r49 w_r49) fun w52 S51 => yb (yab (yr (yu (yx ⟨r49, I46, w_r49, sj R2, rfl, L47, S51, h_r49⟩))))))
 refine yl (yc (yh (bsk R2 fun j54 R3 R2 => yaz (J := (fun fr w => ∃ (s75 : qC) (s76 : Int), ∃ I56 w_s75 b_s75, (s75, s76) = j54 ∧ fr = [(0, Sl a_p0 p0 c_p0), (3, Pt b19 0), (4, Nv i29), (5, Pt b_s75 0), (6, Iv s76)] ∧ I26.Le I56 ∧ St E w I56 (bC b19 s28 w_s28 :: (bC b_s75 s75 w_s75) :: Os) ∧ ok_qC I56 s75 w_s75)) ?_ ?_)))
 have S58 := S32.drew
 refine W.draws (.split 15 11 (.leaf [0, 1, 2, 3, 4, 5, 6, 7, 8, 9, 10, 15, 11, 12, 13, 14, 16, 17]) (.leaf nL18)) 16 (KR I26 [bC b19 s28 w_s28]) qR (.ords nL18 [0, 1, 2, 3, 4, 5, 6, 7, 8, 9, 10, 11, 12, 13, 15, 16, 14, 17] kr kr kr kr kr) kr (yv (S58.rd m0) (yae S58.im)) ?_
 generalize World.drew _ = w59 at *
 refine ⟨?_, ?_⟩
 show WO _ _ _ _ _ _ _ [0, 1, 2, 3, 4, 5, 6, 7, 8, 9, 10, 15, 11, 12, 13, 14, 16, 17] _ _
 refine yaa ((cs_qC s28 w_s28)) (rd_c m0 (S58.rd m0)) z (ya 1 2 z ?_)
 obtain ⟨x60, R3, Hx60, _, ⟨w_x60, rfl, h_x60⟩, Zx60⟩ := sl_ix ((RSl.mono h_p0 ((L4.trans L16).trans L27))) R3
 refine yag 46 22 Hx60 z (yi 4 1 [0] z (ya0 ((cs_qS x60.S w_x60.S)) Zx60 0 (rd_i S58.im) z (ya 6 2 z ?_)))
 obtain ⟨x61, R3, Hx61, _, ⟨w_x61, rfl, h_x61⟩, Zx61⟩ := sl_ix ((RSl.mono h_p0 ((L4.trans L16).trans L27))) R3
 refine yag 46 22 Hx61 z (yi 9 1 [21] z (ya5 Zx61 21 (rd_i S58.im) z (ybs S58 z kr z (.cells (cs_qC z_qC zw_qC).toArray 29 (0, 0)) (fun b => .pointer (some ⟨b, 0, none⟩)) kr (fun b62 w65 S64 => (yv (S64.rd m1) (yae S64.im))) ?_)))
 intro b62 w65 S64
 obtain ⟨⟨r71, r72⟩, Xr66, R3⟩ := bsm R3
 refine yaj (grants_Make_ok h_s28 h_x60.S S64 Xr66) ?_
 rintro _ w67 ⟨I68, w_r71, rfl, L69, S70, h_r71⟩
 refine ⟨_, rfl, (yv (S70.rd m1) (yae (S70.im.of_le L69))), ?_⟩
 exact ya 12 3 z (WO.tail z (yad S70 0 (cs_qC r71 w_r71) fun w74 S73 => ya 17 1 z (yp (yx ⟨r71, r72, I68, w_r71, b62, sj R3, rfl, L69, S73.front1, h_r71⟩))))
 show WO _ _ _ _ _ _ _ nL18 _ _
 refine yaa ((cs_qC s28 w_s28)) (rd_c m0 (S58.rd m0)) z (ya 1 2 z ?_)
 obtain ⟨x78, R3, Hx78, _, ⟨w_x78, rfl, h_x78⟩, Zx78⟩ := sl_ix ((RSl.mono h_p0 ((L4.trans L16).trans L27))) R3
 refine yag 46 22 Hx78 z (yi 4 1 [0] z (ya0 ((cs_qS x78.S w_x78.S)) Zx78 0 (rd_i S58.im) z (ya 6 2 z ?_)))
 obtain ⟨x79, R3, Hx79, _, ⟨w_x79, rfl, h_x79⟩, Zx79⟩ := sl_ix ((RSl.mono h_p0 ((L4.trans L16).trans L27))) R3
 refine yag 46 22 Hx79 z (yi 9 1 [21] z (ya5 Zx79 21 (rd_i S58.im) z ?_))
 obtain ⟨⟨r85, r86⟩, Xr80, R3⟩ := bsm R3
 refine yaj (grants_Make_ok h_s28 h_x78.S S58 Xr80) ?_
 rintro _ w81 ⟨I82, w_r85, rfl, L83, S84, h_r85⟩
 refine ⟨_, rfl, (yv (S84.rd m0) (yae (S84.im.of_le L83))), ?_⟩
 refine ya 12 3 z (ybs S84 z kr z (.cells (cs_qC z_qC zw_qC).toArray 29 (0, 0)) (fun b => .pointer (some ⟨b, 0, none⟩)) kr (fun b87 w90 S89 => (yv (S89.rd m1) (yae (S89.im.of_le L83)))) ?_)
 intro b87 w90 S89
 exact WO.tail z (yad S89 0 (cs_qC r85 w_r85) fun w92 S91 => ya 17 1 z (yp (yx ⟨r85, r86, I82, w_r85, b87, sj R3, rfl, L83, S91.front1, h_r85⟩)))
 rintro _ w94 ⟨s75, s76, I56, w_s75, b_s75, rfl, rfl, L57, S95, h_s75⟩
 refine yc (yh (ye nL2 (ya 0 2 z (yb (y6 R2 (fun hc R2 => ?_) (fun hc R2 => ?_))))))
 exact yab (yr (yu (yx ⟨s28, I56, w_s28, sj R2, rfl, L57, S95.front1.drop, (h_s28.mono L57)⟩)))
 refine yl (yc (ye nL2 (yaa ((cs_qC s75 w_s75)) (S95.rf m1) z (yad S95 0 (cs_qC s75 w_s75) fun w99 S98 => yb (yh (have S100 := S98.drew; ybg nL6 4 (yv (S100.rd m0) (yae S100.im)) ?_))))))
 generalize World.drew _ = w101 at *
 refine yaa ((cs_qC s75 w_s75)) (rd_c m0 (S100.rd m0)) z (bsk R2 fun r107 Xr102 R2 => yaj (grants_Held_ok h_s75 S100 Xr102) ?_)
 rintro _ w103 ⟨I104, a_r107, c_r107, rfl, L105, S106, h_r107⟩
 refine ⟨_, rfl, (yv (S106.rd m0) (yae (S106.im.of_le L105))), ?_⟩
 refine yi 2 1 [3] z (yk (rd_c m0 (S106.rd m0)) z (WO.tail z (bsk R2 fun r113 Xr108 R2 => WO.c1 (r19_Same_ok h_r107 (RSl.mono h_s75.Grants L105) S106 Xr108) z fun I110 w109 L111 S112 => ya 5 1 z (yb (y6 R2 (fun hc R2 => ?_) (fun hc R2 => ?_))))))
 refine ye [0] (ya 0 1 z (yb (yq (ym (yw ?_)))))
 obtain rfl := sj R2
 refine yf (yw ?_)
 obtain rfl := hext25 _ (sj R1).symm
 exact ym (yf (sj hr ▸ yy ⟨I110, rfl, le, S112.drop.drop⟩))
 exact yl (yn (yx ⟨s75, I110, w_s75, sj R2, rfl, le, S112.front1.drop, (h_s75.mono le)⟩))
 rintro _ w126 ⟨s53, I38, w_s53, rfl, rfl, L39, S127, h_s53⟩
 exact yc (yak nL3 (ya 0 1 z (yaq i29 z (ya 2 1 z (yp (yx ⟨s53, (sj R1).symm, I38, w_s53, rfl, le, S127, h_s53⟩))))))
 rintro s28 _ w128 ⟨I26, w_s28, rfl, L27, S129, h_s28⟩ he
 cases he
 refine yh (ye nL4 (ya 0 4 z (yb (yax fun _ => yab (yr (yt (yu (yc (yh (ye [0] (ya 0 1 z (yb (yo (bsk hr fun t130 hloop134 hr => have hlt138 := (h_s28.Roles).len_lt; W.wk (yat (m := s28.Roles.length) hloop134 (fun (i133 : Nat) => fun (_s : Unit) => JI E I26 [(3, Pt b19 0), (7, Nv i133)] (bC b19 s28 w_s28 :: Os)) ⟨I26, rfl, lr, S129⟩ ?_ ?_)))))))))))))))
 rintro i133 _ _ w135 hi139 ⟨I131, rfl, L132, S136⟩ x137 R1 hext130
 refine yh (ye nL5 (yi 0 2 [2] z (yk (S136.rf m0) z (ya 3 2 z (yb (yaw fun _ => yl (yc (yh (yo (ye nL7 (yi 0 1 [2] z (yk (S136.rf m0) z (ya 2 1 z ?_)))))))))))))
 obtain ⟨x140, R1, Hx140, _, ⟨w_x140, rfl, h_x140⟩, Zx140⟩ := sl_ix ((RSl.mono h_s28.Roles L132)) R1
 refine yag 62 2 Hx140 z (yi 4 1 [0] z (yar Zx140 S136.rm z (ya 6 1 z (yz [0] (ya 0 1 z (yb (yo (bsk R1 fun t141 hloop145 R1 => W.wk (ybc hloop145 (fun (s144 : Int) => JI E I131 [(3, Pt b19 0), (7, Nv i133), (8, .string x140.Name), (9, Iv s144)] (bC b19 s28 w_s28 :: Os)) ⟨I131, rfl, lr, S136⟩ ?_)))))))))
 rintro s144 _ w146 ⟨I142, rfl, L143, S147⟩ x148 R2 hext141
 refine yh (ye nL2 (ya 0 2 z (yb (y6 R2 (fun hc R2 => ?_) (fun hc R2 => ?_)))))
 refine yl (yc (yh (yo (ye nL4 (yaa ((cs_qC s28 w_s28)) (S147.rf m0) z (ya 1 1 z (bsk R2 fun r154 Xr149 R2 => WO.c1 (grants_Owns_ok (h_s28.mono le) S147 Xr149) z fun I151 w150 L152 S153 => ya 3 1 z (yb (yh (ye [0] (ya 0 1 z (yb (yo (bsk R2 fun s158 hloop160 R2 => have hlt164 := ((RSl.mono h_s28.Grants ((L132.trans L143).trans L152))).len_lt; W.wk (ya1 (m := s28.Grants.length) hloop160 (fun (i159 : Nat) => fun (s158 : Bool) => JI E I151 [(3, Pt b19 0), (7, Nv i133), (8, .string x140.Name), (9, Iv s144), (10, .bool s158), (11, Nv i159)] (bC b19 s28 w_s28 :: Os)) ⟨I151, rfl, lr, S153⟩ ?_ ?_)))))))))))))))
 rintro i159 s158 _ w161 hi165 ⟨I156, rfl, L157, S162⟩ x163 R3
 refine yh (ye nL5 (yi 0 2 [3] z (yk (S162.rf m0) z (ya 3 2 z (yb (yaw fun _ => yl (yc (yh (yo (ye nL7 (yi 0 1 [3] z (yk (S162.rf m0) z (ya 2 1 z ?_)))))))))))))
 obtain ⟨x166, R3, Hx166, _, rfl, Zx166⟩ := sl_ix ((RSl.mono h_s28.Grants (((L132.trans L143).trans L152).trans L157))) R3
 refine yag 67 5 Hx166 z (ya0 ((cs_qG x166)) Zx166 0 S162.rm z (yac S162 (cs_qG z_qG) 67 z fun b167 w170 S169 => yad S169 0 (cs_qG x166) fun w172 S171 => yb (yak nL28 (ya 0 2 z (bsk R3 fun j173 R4 R3 => yap (l1 := [2, 3, 4, 5, 6, 7, 8, 9, 10, 11, 12, 13, 14, 15, 16, 17, 18, 19, 20, 21, 22, 23, 24, 25, 26]) (J := JI E I156 [(3, Pt b19 0), (7, Nv i133), (8, .string x140.Name), (9, Iv s144), (11, Nv i159), (122, .bool j173)] (bC b19 s28 w_s28 :: Os)) ?_ ?_)))))
 refine yao R4 (fun hc R4 => ?_) (fun hc R4 => ?_)
 refine y4 97 hc ?_
 iterate 24 refine yan ?_
 exact ya 26 1 z (sj R4 ▸ y3 ⟨I156, rfl, lr, S171.drop⟩)
 refine y4 97 hc (yi 2 1 [3] z (yk (S171.rf m0) z (ya 4 3 z (bsq R4 fun q178 Xq178 R4 => yav [7, 8, 9] 10 102 106 Xq178 (fun _ => yi 7 1 [2] z (yk (S171.rf m0) z (ya 9 2 z yam))) (ya 11 1 z (bsk R4 fun j181 R5 R4 => yap (l1 := [12, 13, 14, 15, 16, 17, 18]) (J := JI E I156 [(3, Pt b19 0), (7, Nv i133), (8, .string x140.Name), (9, Iv s144), (11, Nv i159), (12, Pt b167 0), (97, .bool false), (114, .bool j181)] (bC b19 s28 w_s28 :: (bG b167 x166) :: Os)) ?_ ?_))))))
 refine yao R5 (fun hc R5 => ?_) (fun hc R5 => ?_)
 exact y4 107 hc (yi 12 1 [2] z (yk (S171.rf m1) z (yi 14 2 [0] z (yk (S171.rf m0) z (bsk R5 fun r190 Xr185 R5 => WO.c1 (r18_Is_ok (up h_s28.Roles) S171 Xr185) z fun I187 w186 L188 S189 => ya 18 1 z (sj R5 ▸ y3 ⟨I187, rfl, L188, S189.front1⟩))))))
 refine y4 107 hc ?_
 iterate 6 refine yan ?_
 exact ya 18 1 z (sj R5 ▸ y3 ⟨I156, rfl, lr, S171.front1⟩)
 rintro _ w193 ⟨I183, rfl, L184, S194⟩
 refine ya 19 1 z (bsk R4 fun j195 R5 R4 => yap (l1 := [20, 21, 22, 23, 24, 25]) (J := JI E I183 [(3, Pt b19 0), (7, Nv i133), (8, .string x140.Name), (9, Iv s144), (11, Nv i159), (97, .bool false), (121, .bool j195)] (bC b19 s28 w_s28 :: Os)) ?_ ?_)
 refine yao R5 (fun hc R5 => ?_) (fun hc R5 => ?_)
 exact y4 115 hc (yaa ((cs_qC s28 w_s28)) (S194.rf m0) z (yi 21 1 [1] z (yk (S194.rf m1) z (ya 23 1 z (bsk R5 fun r204 Xr199 R5 => WO.c1 (grants_Can_ok (h_s28.mono le) S194 Xr199) z fun I201 w200 L202 S203 => ya 25 1 z (sj R5 ▸ y3 ⟨I201, rfl, L202, S203.front1.drop⟩))))))
 refine y4 115 hc ?_
 iterate 5 refine yan ?_
 exact ya 25 1 z (sj R5 ▸ y3 ⟨I183, rfl, lr, S194.front1.drop⟩)
 rintro _ w209 ⟨I197, rfl, L198, S210⟩
 exact ya 26 1 z (sj R4 ▸ y3 ⟨I197, rfl, le, S210⟩)
 rintro _ w211 ⟨I175, rfl, L176, S212⟩
 exact ya 27 1 z (yp (yn (yc (yak nL3 (ya 0 1 z (yaq i159 z (ya 2 1 z (yp (sj R3 ▸ yx ⟨I175, rfl, le, S212⟩)))))))))
 rintro _ w213 ⟨I156, rfl, L157, S214⟩
 refine yh (ye nL5 (yi 0 2 [3] z (yk (S214.rf m0) z (ya 3 2 z (yb (yax fun _ => yab (yr (yt (yu (yc (ye nL16 (yaa ((cs_qC s28 w_s28)) (S214.rf m0) z (ya 1 2 z (bsk R2 fun r220 Xr215 R2 => WO.c1 (grants_May_ok (h_s28.mono le) S214 Xr215) z fun I217 w216 L218 S219 => ya 4 1 z (y7 5 128 (.bool (!(r220 == s158))) (ya 6 1 z (bsk R2 fun j221 R3 R2 => yap (l1 := [7, 8, 9, 10, 11, 12, 13, 14, 15]) (J := JI E I217 [(3, Pt b19 0), (7, Nv i133), (8, .string x140.Name), (9, Iv s144), (138, .bool j221)] (bC b19 s28 w_s28 :: Os)) ?_ ?_)))))))))))))))))
 refine yao R3 (fun hc R3 => ?_) (fun hc R3 => ?_)
 refine y4 129 hc ?_
 iterate 8 refine yan ?_
 exact ya 15 1 z (sj R3 ▸ y3 ⟨I217, rfl, lr, S219⟩)
 exact y4 129 hc (yaa ((cs_qC s28 w_s28)) (S219.rf m0) z (ya 8 2 z (bsk R3 fun r230 Xr225 R3 => WO.c1 (grants_Can_ok (h_s28.mono le) S219 Xr225) z fun I227 w226 L228 S229 => ya 11 1 z (yav [12, 13] 14 134 137 (.refl (r230 && (!s158))) (fun _ => ya 12 3 z yam) (ya 15 1 z (sj R3 ▸ y3 ⟨I227, rfl, L228, S229⟩))))))
 rintro _ w233 ⟨I223, rfl, L224, S234⟩
 refine yb (y6 R2 (fun hc R2 => ?_) (fun hc R2 => ?_))
 refine ye [0] (ya 0 1 z (yb (yq (ym (yf (yw ?_))))))
 obtain rfl := hext141 _ (sj R2).symm
 refine ym (ym (yf (yw ?_)))
 obtain rfl := hext130 _ (sj R1).symm
 exact ym (yf (sj hr ▸ yy ⟨I223, rfl, le, S234.drop⟩))
 exact yl (yn (yc (yak nL3 (ya 0 3 z (yp (yx ⟨(w64 (s144 + 1)), (sj R2).symm, I223, rfl, le, S234⟩))))))
 refine yab (yr (yt ?_))
 obtain rfl := hext141 _ (sj R2).symm
 exact yu (yn (yc (yak nL3 (ya 0 1 z (yaq i133 z (ya 2 1 z (yp (yx ⟨(), (sj R1).symm, I142, rfl, le, S147⟩))))))))
 rintro _ _ w243 ⟨I131, rfl, L132, S244⟩ he
 cases he
 exact yh (ye nL5 (yi 0 2 [2] z (yk (S244.rf m0) z (ya 3 2 z (yb (yax fun _ => yab (yr (yt (yu (yc (ye nL2 (bsk hr fun r250 Xr245 hr => WO.c1 (law19_works_ok  S244 Xr245) z fun I247 w246 L248 S249 => ya 1 1 z (yb (yq (sj hr ▸ yy ⟨I247, rfl, le, S249.drop⟩)))))))))))))))
noncomputable def r19_May (p0 : qC) (p1 : By8) (p2 : Int) (p3 : By8) : Option Bool := (r19_Owns p0 p1 p3).bind (fun r12 => ((bif r12 then some true else (r19_Held p0).bind (fun r22 => (r19_has p0 r22 p1 p2 p3 false).bind (fun r28 => some r28)))).bind (fun (j13 : Bool) => some j13))
theorem r19_May_ok {p0 : qC} {p1 : By8} {p2 : Int} {p3 : By8} {w_p0 : W_qC} (h_p0 : ok_qC I p0 w_p0) (hS : St E w I Os) {r : Bool} (hr : r19_May p0 p1 p2 p3 = some r) :
    Calls P 24 #[(vC p0 w_p0), (.string p1), (Iv p2), (.string p3)] w (RT E I Os (.bool r)) := by
 refine calls_W (fn := Tryz.f24) rfl rfl rfl ?_
 unfold r19_May at hr
 refine ye nL2 (yac hS (cs_qC p0 w_p0) 29 z fun b1 w4 S3 => ya 1 1 z (yb (yh (have S5 := S3.drew; ybg nL14 13 (yv (S5.rd m0) (yae S5.im)) ?_))))
 generalize World.drew _ = w6 at *
 refine yaa ((cs_qC p0 w_p0)) (rd_c m0 (S5.rd m0)) z (ya 1 2 z (bsk hr fun r12 Xr7 hr => yaj (r19_Owns_ok h_p0 S5 Xr7) ?_))
 rintro _ w8 ⟨I9, rfl, L10, S11⟩
 refine ⟨_, rfl, (yv (S11.rd m0) (yae (S11.im.of_le L10))), ?_⟩
 refine ya 4 1 z (bsk hr fun j13 R1 hr => yap (l1 := [5, 6, 7, 8, 9, 10, 11, 12]) (J := JI E I9 [(21, .bool j13)] (bC b1 p0 w_p0 :: Os)) ?_ ?_)
 refine yao R1 (fun hc R1 => ?_) (fun hc R1 => ?_)
 refine y4 13 hc ?_
 iterate 7 refine yan ?_
 exact ya 12 1 z (sj R1 ▸ y3 ⟨I9, rfl, lr, S11⟩)
 refine y4 13 hc (yaa ((cs_qC p0 w_p0)) (rd_c m0 (S11.rd m0)) z (yaa ((cs_qC p0 w_p0)) (rd_c m0 (S11.rd m0)) z (bsk R1 fun r22 Xr17 R1 => yaj (r19_Held_ok (h_p0.mono L10) S11 Xr17) ?_)))
 rintro _ w18 ⟨I19, a_r22, c_r22, rfl, L20, S21, h_r22⟩
 refine ⟨_, rfl, (yv (S21.rd m0) (yae (S21.im.of_le le))), ?_⟩
 refine ya 8 3 z (bsk R1 fun r28 Xr23 R1 => yaj (r19_has_ok (h_p0.mono le) h_r22 S21 Xr23) ?_)
 rintro _ w24 ⟨I25, rfl, L26, S27⟩
 refine ⟨_, rfl, (yv (S27.rd m0) (yae (S27.im.of_le le))), ?_⟩
 exact ya 12 1 z (sj R1 ▸ y3 ⟨I25, rfl, le, S27⟩)
 rintro _ w29 ⟨I15, rfl, L16, S30⟩
 exact WO.tail z (ya 13 1 z (yb (yq (sj hr ▸ yy ⟨I15, rfl, le, S30.drop⟩))))
end Go.Proofs.YtdmapcjbbbifbaaGreat
