/- What functions of the program come to, each by a plain one. Conditions: none. -/
import Derived.Test.YtlfphpegelclpaaGreatF3
import Derived.Test.YtlfphpegelclpaaGreatProg
set_option maxRecDepth 100000
namespace Go.Proofs.YtlfphpegelclpaaGreat
open Go.Gv
set_option maxHeartbeats 1000000
variable {E w : World} {I : Mem} {Os : List Mem}
noncomputable def member_AllM (p0 : List qJ) (p1 : By8) : M (List By8) := bindM (optM (member_at p0 p1)) (fun (r6 : Int) => (bif (decide (r6 < 0)) then retM ([] : List By8) else bindM (loopM (fun (s : Bool × (List (By8 × Bool))) => match s with | (s18, s19) => (bif s18 then bindM (rangeM (fun (k71 : By8) (x72 : Bool) (s33 : List By8) => (member_Find p0 k71).bind (fun ((r91, r92) : qJ × Bool) => (forE (fun (i103 : Nat) (s102 : List By8) => (idx r91.In (i103 : Int)).bind (fun (x114 : By8) => (some ((mget sEq s19 x114).getD false)).bind (fun (x115 : Bool) => ((bif (!x115) then (member_at p0 x114).bind (fun (r125 : Int) => some (decide (r125 ≥ 0))) else some false)).bind (fun (j116 : Bool) => ((bif j116 then (app 16 s102 ([x114] : List By8)).bind (fun (x140 : List By8) => some x140) else some s102)).bind (fun (j128 : List By8) => some j128))))) r91.In.length 0 s33).bind (fun (s102 : (List By8)) => some (.inl s102)))) s19 ([] : List By8)) (fun (t : (List By8) ⊕ Unit) => Sum.elim (fun (s33 : List By8) => bindM (optM (forE (fun (i53 : Nat) (s52 : List (By8 × Bool)) => (idx s33 (i53 : Int)).bind (fun (x61 : By8) => some (mset sEq s52 x61 true))) s33.length 0 s19)) (fun (s52 : List (By8 × Bool)) => retM (.inl ((decide ((s33.length : Int) > 0)), s52)))) (fun _ _ => False) t) else retM (.inr s19))) (true, (mset sEq ([] : List (By8 × Bool)) p1 true))) (fun (s156 : List (By8 × Bool)) => bindM (optM (keysO s156)) (fun (r163 : List By8) => retM r163))))
noncomputable def member_All (p0 : List qJ) (p1 : By8) : Option (List By8) := ofM (member_AllM p0 p1)
theorem member_All_ok {p0 : List qJ} {p1 : By8} {a_p0 : Option Addr} {c_p0 : Nat} (h_p0 : RSl 2 R_qJ I a_p0 c_p0 p0) (hS : St E w I Os) {r : (List By8)} (G : member_All p0 p1 = some r) :
    Calls P 47 #[(.slice a_p0 p0.length c_p0), (.string p1)] w (fun e w' => ∃ (I' : Mem) (ra0 : Option Addr) (rc0 : Nat), e = .returned (.slice ra0 r.length rc0) ∧ I.Le I' ∧ St E w' I' Os ∧ RSl 1 RStr I' ra0 rc0 r) := by
  refine calls_W (args := [(.slice a_p0 p0.length c_p0), (.string p1)]) (fn := Tryz.f47) rfl rfl rfl ?_
  replace G := ofM_some (m := member_AllM p0 p1) G
  unfold member_AllM at G
  refine W.seq ?_
  refine W.region (l := [0]) kr ?_
  refine yap [(0, 4, (.slice none 0 0))] kr (fun _ => by kernel_rfl) ?_
  refine yp ?_
  refine yc ?_
  refine W.seq ?_
  refine W.seq ?_
  refine W.region (l := [0, 1, 2, 3]) kr ?_
  refine yap [(0, 15, (.slice a_p0 p0.length c_p0)), (1, 16, (.string p1))] kr (fun _ => by kernel_rfl) ?_
  obtain ⟨r6, Xr1, G⟩ := optM_some G
  refine ybf z kr z (f := 63) (args := #[(.slice a_p0 p0.length c_p0), (.string p1)]) kr (member_at_ok h_p0 hS Xr1) ?_
  rintro _ w2 ⟨I3, rfl, L4, S5⟩
  refine ⟨_, rfl, trivial, ?_⟩
  refine yap [(3, 18, (.bool (decide (r6 < 0))))] kr (fun _ => by kernel_rfl) ?_
  refine yp ?_
  refine yc ?_
  refine W.cond (b := (decide (r6 < 0))) z z (fun H => ?_) (fun H => ?_)
  · replace G := condM_t H G
    refine W.seq ?_
    refine W.region (l := [0]) kr ?_
    refine yap [(0, 4, (.slice none 0 0))] kr (fun _ => by kernel_rfl) ?_
    refine yp ?_
    refine yc ?_
    refine yr ?_
    refine yf ?_
    have he : ([] : List By8) = r := G
    subst r
    exact En.ret1 z (.slice none 0 0) z ⟨I3, none, 0, rfl, L4, S5, SlAt.nil⟩
  · replace G := condM_f H G
    refine yk ?_
    refine yc ?_
    refine W.seq ?_
    refine W.region (l := [0, 1, 2, 3, 4]) kr ?_
    refine ybi S5 z kr z (.map #[] 0) (fun b => .map (some b)) kr tv ?_
    intro b7 w10 S9
    refine yap [(1, 20, (.string p1))] kr (fun _ => by kernel_rfl) ?_
    refine WO.update (OwnMap.nil (enc := Value.string) (val := (val1 RBool)) (I := I3) (m := b7)) S9 (t := 125) (kt := 9) (et := 4) kr (keyLaw_str (kt := 9) kr) z kr z (.inr z) z p1 z z (xv := true) z tv ?_
    intro w13 C11 S12 hm14
    refine yap [(3, 21, (.map (some b7))), (4, 5, (.map (some b7)))] kr (fun _ => by kernel_rfl) ?_
    refine yp ?_
    refine yc ?_
    refine W.seq ?_
    refine W.seq ?_
    refine W.region (l := [0]) kr ?_
    refine yap [(0, 6, (.bool true))] kr (fun _ => by kernel_rfl) ?_
    refine yp ?_
    refine yc ?_
    refine yn ?_
    have hloop20 : Gv.loopM _ _ _ := G
    refine W.weaken (fr' := [(0, (.slice a_p0 p0.length c_p0)), (5, (.map (some b7))), (6, (.bool true))]) (W.loopM hloop20 (fun (s : Bool × (List (By8 × Bool))) fr w => match s with | (s18, s19) => ∃ (I16 : Mem), ∃ (C_s19 : Mem), fr = [(0, (.slice a_p0 p0.length c_p0)), (5, (.map (some b7))), (6, (.bool s18))] ∧ I3.Le I16 ∧ St E w I16 ((C_s19) :: Os) ∧ OwnMap Value.string (val1 RBool) I16 C_s19 b7 s19) ⟨I3, C11, rfl, Mem.Le.refl _, S12, hm14⟩ ?_) (Sub.cons z (Sub.cons z (Sub.cons z Sub.nil)))
    rintro ⟨s18, s19⟩ _ w21 ⟨I16, C_s19, rfl, L17, S22, h_s19⟩ Kx23 R1
    refine W.seq ?_
    refine W.seq ?_
    refine W.region (l := [0]) kr ?_
    refine yap [(0, 22, (.bool s18))] kr (fun _ => by kernel_rfl) ?_
    refine yp ?_
    refine yc ?_
    refine W.cond (b := s18) z z (fun H => ?_) (fun H => ?_)
    · replace R1 := condM_t H R1
      refine yk ?_
      refine yc ?_
      refine yn ?_
      refine W.seq ?_
      refine W.region (l := [0]) kr ?_
      refine yap [(0, 7, (.slice none 0 0))] kr (fun _ => by kernel_rfl) ?_
      refine yp ?_
      refine yc ?_
      refine W.seq ?_
      refine W.seq ?_
      refine W.region (l := [0, 1]) kr ?_
      refine yap [(0, 23, (.map (some b7)))] kr (fun _ => by kernel_rfl) ?_
      refine WO.rangeMap h_s19 S22 (t := 125) (kt := 9) (et := 4) kr z kr z z tv ?_
      intro b24 w25 D26 S27 hit28
      refine yp ?_
      refine yc ?_
      refine yn ?_
      have hloop38 : Gv.rangeM _ _ _ _ := R1
      have S40 := S27.no
      have S41 := S40.front1
      have S42 := S41.front2
      refine W.weaken (fr' := [(0, (.slice a_p0 p0.length c_p0)), (5, (.map (some b7))), (7, (.slice none ([] : List By8).length 0)), (24, (.pointer (some ⟨b24, 0, none⟩)))]) (W.rangeM hloop38 (fun (rm34 : List (By8 × Bool)) (s33 : List By8) fr w => ∃ (I31 : Mem), ∃ (a_s33 : Option Addr), ∃ (c_s33 : Nat), ∃ (C_s33 : Mem), ∃ (D35 : Mem), ∃ (lst37 : Option (Value × Value)), fr = [(0, (.slice a_p0 p0.length c_p0)), (5, (.map (some b7))), (7, (.slice a_s33 s33.length c_s33)), (24, (.pointer (some ⟨b24, 0, none⟩)))] ∧ I16.Le I31 ∧ St E w I31 ((C_s19) :: (D35) :: (C_s33) :: Os) ∧ OwnSl 9 1 RStr I31 C_s33 a_s33 c_s33 s33 ∧ IterSt Value.string (val1 RBool) I31 C_s19 b7 s19 D35 b24 rm34 lst37) ⟨I16, none, 0, Mem.no, D26, _, rfl, Mem.Le.refl _, S42, OwnSl.nil, hit28⟩ ?_) (Sub.cons z (Sub.cons z (Sub.cons z (Sub.cons z Sub.nil))))
      rintro rm34 s33 _ w43 ⟨I31, a_s33, c_s33, C_s33, D35, lst37, rfl, L32, S44, h_s33, hit36⟩ hst45 hend46
      refine W.seq ?_
      refine W.region (l := [0, 1]) kr ?_
      have S47 := S44.front1
      refine WO.next hit36 S47 z kr z z tv (fun he48 => ?_) ?_
      · skip
        replace R1 := hend46 he48
        refine yap [(1, 26, (.bool false))] kr (fun _ => by kernel_rfl) ?_
        refine yp ?_
        refine yc ?_
        refine W.seq ?_
        refine W.cond (b := false) z z (fun H => ?_) (fun H => ?_)
        · cases H
        clear H
        refine yaa ?_
        refine yo ?_
        refine yq ?_
        refine yt ?_
        refine yc ?_
        refine W.seq ?_
        refine W.region (l := [0, 1, 2, 3]) kr ?_
        refine yap [(0, 57, (.slice a_s33 s33.length c_s33)), (1, 58, (.int .i64 (s33.length : Int))), (2, 59, (.bool (decide ((s33.length : Int) > 0)))), (3, 6, (.bool (decide ((s33.length : Int) > 0))))] kr (fun _ => by kernel_rfl) ?_
        refine yp ?_
        refine yc ?_
        refine W.seq ?_
        refine W.region (l := [0, 1, 2]) kr ?_
        refine yap [(0, 60, (.slice a_s33 s33.length c_s33)), (1, 61, (.int .i64 (s33.length : Int))), (2, 62, (.int .i64 0))] kr (fun _ => by kernel_rfl) ?_
        refine yp ?_
        refine yc ?_
        refine yn ?_
        obtain ⟨s52, hloop54, R1⟩ := optM_some R1
        have S55 := S47.drop
        have hlt59 := (h_s33.sl).len_lt
        refine W.weaken (fr' := [(0, (.slice a_p0 p0.length c_p0)), (5, (.map (some b7))), (6, (.bool (decide ((s33.length : Int) > 0)))), (60, (.slice a_s33 s33.length c_s33)), (61, (.int .i64 (s33.length : Int))), (62, (.int .i64 ((0 : Nat) : Int)))]) (yat (m := s33.length) hloop54 (fun (i53 : Nat) (s52 : List (By8 × Bool)) fr w => ∃ (I50 : Mem), ∃ (C_s52 : Mem), fr = [(0, (.slice a_p0 p0.length c_p0)), (5, (.map (some b7))), (6, (.bool (decide ((s33.length : Int) > 0)))), (60, (.slice a_s33 s33.length c_s33)), (61, (.int .i64 (s33.length : Int))), (62, (.int .i64 (i53 : Int)))] ∧ I31.Le I50 ∧ St E w I50 ((C_s52) :: (C_s33) :: Os) ∧ OwnMap Value.string (val1 RBool) I50 C_s52 b7 s52) ⟨I31, C_s19, rfl, Mem.Le.refl _, S55, (OwnMap.mono h_s19 L32)⟩ ?roundt49 ?lastt49) (Sub.cons z (Sub.cons z (Sub.cons z (Sub.cons z (Sub.cons z (Sub.cons z Sub.nil))))))
        case roundt49 =>
          rintro i53 s52 _ w56 hi60 ⟨I50, C_s52, rfl, L51, S57, h_s52⟩ x58 R2
          refine W.seq ?_
          refine W.region (l := [0]) kr ?_
          refine yap [(0, 63, (.bool (decide ((i53 : Int) < (s33.length : Int)))))] kr (fun _ => by kernel_rfl) ?_
          refine yp ?_
          refine yc ?_
          refine W.seq ?_
          refine W.cond (b := (decide ((i53 : Int) < (s33.length : Int)))) z z (fun H => ?_) (fun H => ?_)
          rotate_left
          · exact absurd H (by first | (simp; done) | (simp; omega))
          clear H
          refine yk ?_
          refine yc ?_
          refine W.seq ?_
          refine yn ?_
          refine W.seq ?_
          refine W.region (l := [0, 1, 2]) kr ?_
          obtain ⟨x61, Xx61, R2⟩ := bind_some R2
          obtain ⟨h0_x61, h1_x61, Xx61⟩ := idx_some Xx61
          obtain ⟨ha_x61, cs_x61, hn_x61, hr_x61, Zx61⟩ := ((h_s33.mono L51).sl).el _ _ Xx61
          obtain rfl := hr_x61
          refine ybe (e := 9) (sz := 1) z kr kr kr z ha_x61 z h0_x61 h1_x61 ?_
          refine ybg z kr kr z (v := (.string x61)) (fun w' hw' => Zx61.cell0 kr ((rd_f (S57.rd (List.Mem.tail _ (List.Mem.head _)))) w' hw')) ?_
          refine yap [(2, 14, (.string x61))] kr (fun _ => by kernel_rfl) ?_
          refine yp ?_
          refine yc ?_
          refine W.region (l := [0, 1, 2]) kr ?_
          refine yap [(0, 66, (.map (some b7))), (1, 67, (.string x61))] kr (fun _ => by kernel_rfl) ?_
          refine WO.update h_s52 S57 (t := 125) (kt := 9) (et := 4) kr (keyLaw_str (kt := 9) kr) z kr z (.inl z) z x61 z z (xv := true) z tv ?_
          intro w65 C62 S63 hm66
          refine yp ?_
          refine yl ?_
          refine yc ?_
          refine W.region (l := [0, 1]) kr ?_
          refine WO.incr (j := i53) z kr z (by first | omega | (dsimp only at *; omega)) ?_
          refine yap [(1, 62, (.int .i64 ((i53 + 1 : Nat) : Int)))] kr (fun _ => by kernel_rfl) ?_
          refine yp ?_
          have he := Option.some.inj R2
          subst x58
          refine En.weaken (fr' := [(0, (.slice a_p0 p0.length c_p0)), (5, (.map (some b7))), (6, (.bool (decide ((s33.length : Int) > 0)))), (60, (.slice a_s33 s33.length c_s33)), (61, (.int .i64 (s33.length : Int))), (62, (.int .i64 ((i53 + 1 : Nat) : Int)))]) (En.round ⟨I50, C62, rfl, L51, S63, hm66⟩) (Sub.cons z (Sub.cons z (Sub.cons z (Sub.cons z (Sub.cons z (Sub.cons z Sub.nil))))))
        case lastt49 =>
          rintro _ w67 ⟨I50, C_s52, rfl, L51, S68, h_s52⟩
          refine W.seq ?_
          refine W.region (l := [0]) kr ?_
          refine yap [(0, 63, (.bool (decide ((s33.length : Int) < (s33.length : Int)))))] kr (fun _ => by kernel_rfl) ?_
          refine yp ?_
          refine yc ?_
          refine W.seq ?_
          refine W.cond (b := (decide ((s33.length : Int) < (s33.length : Int)))) z z (fun H => ?_) (fun H => ?_)
          · exact absurd H (by first | (simp; done) | (simp; omega))
          clear H
          refine yaa ?_
          refine yo ?_
          refine yq ?_
          refine yt ?_
          refine yl ?_
          have S69 := S68.front1
          have S70 := S69.drop
          refine En.weaken (fr' := [(0, (.slice a_p0 p0.length c_p0)), (5, (.map (some b7))), (6, (.bool (decide ((s33.length : Int) > 0))))]) (En.round ⟨((decide ((s33.length : Int) > 0)), s52), R1, I50, C_s52, rfl, ((L17.trans L32).trans L51), S70, h_s52⟩) (Sub.cons z (Sub.cons z (Sub.cons z Sub.nil)))
      · skip
        intro k71 x72 rm73 v74 w75 D76 hp77 hv78 S79 hit80
        obtain ⟨y81, hy82, hex83⟩ := hst45 k71 x72 rm73 hp77
        have R2 := hy82
        obtain rfl := (List.cons.inj hv78).1
        refine yap [(1, 26, (.bool true))] kr (fun _ => by kernel_rfl) ?_
        refine yp ?_
        refine yc ?_
        refine W.seq ?_
        refine W.cond (b := true) z z (fun H => ?_) (fun H => ?_)
        rotate_left
        · cases H
        clear H
        refine yk ?_
        refine yc ?_
        refine yn ?_
        refine W.seq ?_
        refine W.region (l := [0, 1, 2]) kr ?_
        have S84 := S79.front1
        have S85 := S84.front1
        refine WO.entry hit80 S85 z kr z z trivial ?_
        refine yap [(1, 28, (.string k71)), (2, 8, (.string k71))] kr (fun _ => by kernel_rfl) ?_
        refine yp ?_
        refine yc ?_
        refine W.seq ?_
        refine W.region (l := [0, 1, 2, 3, 4, 5, 6, 7, 8]) kr ?_
        refine yap [(0, 30, (.slice a_p0 p0.length c_p0)), (1, 31, (.string k71))] kr (fun _ => by kernel_rfl) ?_
        obtain ⟨⟨r91, r92⟩, Xr86, R2⟩ := bind_some R2
        refine ybf z kr z (f := 43) (args := #[(.slice a_p0 p0.length c_p0), (.string k71)]) kr (member_Find_ok (RSl.mono h_p0 ((L4.trans L17).trans L32)) S85 Xr86) ?_
        rintro _ w87 ⟨I88, w_r91, rfl, L89, S90, h_r91⟩
        refine ⟨_, rfl, trivial, ?_⟩
        refine yap [(3, 29, (.tuple #[(vJ r91 w_r91), (.bool r92)])), (4, 33, (vJ r91 w_r91)), (5, 34, (.bool r92))] kr (fun _ => by kernel_rfl) ?_
        refine ybi S90 z kr z (.cells (cs_qJ z_qJ zw_qJ).toArray 74 (0, 0)) (fun b => .pointer (some ⟨b, 0, none⟩)) kr tv ?_
        intro b93 w96 S95
        refine ybm S95 z kr z 0 z z kr kr kr ((cs_qJ r91 w_r91).toArray) kr tv ?_
        intro w98 S97
        refine yap [(8, 10, (.bool r92))] kr (fun _ => by kernel_rfl) ?_
        refine yp ?_
        refine yc ?_
        refine W.seq ?_
        refine W.region (l := [0, 1, 2, 3]) kr ?_
        refine yap [(0, 35, (.pointer (some ⟨b93, 1, none⟩)))] kr (fun _ => by kernel_rfl) ?_
        refine ybg z kr kr z (v := (.slice w_r91.In.a r91.In.length w_r91.In.c)) (fun w' hw' => cell_one ((rd_f (S97.rd (List.Mem.head _))) w' hw') kr) ?_
        refine yap [(2, 37, (.int .i64 (r91.In.length : Int))), (3, 38, (.int .i64 0))] kr (fun _ => by kernel_rfl) ?_
        refine yp ?_
        refine yc ?_
        refine yn ?_
        obtain ⟨s102, hloop104, R2⟩ := bind_some R2
        have S105 := S97.drop
        have S106 := S105.front2
        have S107 := S106.front1
        have S108 := S107.front2
        have hlt112 := (h_r91.In).len_lt
        refine W.weaken (fr' := [(0, (.slice a_p0 p0.length c_p0)), (5, (.map (some b7))), (7, (.slice a_s33 s33.length c_s33)), (24, (.pointer (some ⟨b24, 0, none⟩))), (36, (.slice w_r91.In.a r91.In.length w_r91.In.c)), (37, (.int .i64 (r91.In.length : Int))), (38, (.int .i64 ((0 : Nat) : Int)))]) (yat (m := r91.In.length) hloop104 (fun (i103 : Nat) (s102 : List By8) fr w => ∃ (I100 : Mem), ∃ (a_s102 : Option Addr), ∃ (c_s102 : Nat), ∃ (C_s102 : Mem), fr = [(0, (.slice a_p0 p0.length c_p0)), (5, (.map (some b7))), (7, (.slice a_s102 s102.length c_s102)), (24, (.pointer (some ⟨b24, 0, none⟩))), (36, (.slice w_r91.In.a r91.In.length w_r91.In.c)), (37, (.int .i64 (r91.In.length : Int))), (38, (.int .i64 (i103 : Int)))] ∧ I88.Le I100 ∧ St E w I100 ((C_s19) :: (D76) :: (C_s102) :: Os) ∧ OwnSl 9 1 RStr I100 C_s102 a_s102 c_s102 s102) ⟨I88, a_s33, c_s33, C_s33, rfl, Mem.Le.refl _, S108, (OwnSl.mono h_s33 L89)⟩ ?roundt99 ?lastt99) (Sub.cons z (Sub.cons z (Sub.cons z (Sub.cons z (Sub.cons z (Sub.cons z (Sub.cons z Sub.nil)))))))
        case roundt99 =>
          rintro i103 s102 _ w109 hi113 ⟨I100, a_s102, c_s102, C_s102, rfl, L101, S110, h_s102⟩ x111 R3
          refine W.seq ?_
          refine W.region (l := [0]) kr ?_
          refine yap [(0, 39, (.bool (decide ((i103 : Int) < (r91.In.length : Int)))))] kr (fun _ => by kernel_rfl) ?_
          refine yp ?_
          refine yc ?_
          refine W.seq ?_
          refine W.cond (b := (decide ((i103 : Int) < (r91.In.length : Int)))) z z (fun H => ?_) (fun H => ?_)
          rotate_left
          · exact absurd H (by first | (simp; done) | (simp; omega))
          clear H
          refine yk ?_
          refine yc ?_
          refine W.seq ?_
          refine yn ?_
          refine W.seq ?_
          refine W.region (l := [0, 1, 2]) kr ?_
          obtain ⟨x114, Xx114, R3⟩ := bind_some R3
          obtain ⟨h0_x114, h1_x114, Xx114⟩ := idx_some Xx114
          obtain ⟨ha_x114, cs_x114, hn_x114, hr_x114, Zx114⟩ := ((RSl.mono h_r91.In L101)).el _ _ Xx114
          obtain rfl := hr_x114
          refine ybe (e := 9) (sz := 1) z kr kr kr z ha_x114 z h0_x114 h1_x114 ?_
          refine ybg z kr kr z (v := (.string x114)) (fun w' hw' => Zx114.cell0 kr ((rd_f S110.im) w' hw')) ?_
          refine yap [(2, 12, (.string x114))] kr (fun _ => by kernel_rfl) ?_
          refine yp ?_
          refine yc ?_
          refine W.seq ?_
          refine W.region (l := [0, 1, 2, 3, 4, 5, 6, 7, 8, 9]) kr ?_
          refine yap [(0, 42, (.map (some b7))), (1, 43, (.string x114))] kr (fun _ => by kernel_rfl) ?_
          obtain ⟨x115, Xx115, R3⟩ := bind_some R3
          obtain ⟨v_x115, hv_x115, hq_x115⟩ := OwnMap.lookup (OwnMap.mono h_s19 ((L32.trans L89).trans L101)) (t := 125) (kt := 9) (et := 4) kr (keyLaw_str (kt := 9) kr) x114 (zv := (.bool false)) (z0 := false) kr rfl
          rw [Option.some.inj Xx115] at hv_x115
          obtain rfl := (List.cons.inj hv_x115).1
          refine WO.lookup z kr z z hq_x115 ((rd_f (S110.rd (List.Mem.head _)))) (.bool x115) z ?_
          refine yap [(3, 45, (.bool (!x115))), (4, 46, (.bool (!x115)))] kr (fun _ => by kernel_rfl) ?_
          obtain ⟨j116, R4, R3⟩ := bind_some R3
          refine WO.join (l1 := [5, 6, 7, 8, 9]) (l2 := []) (J := (fun fr w => ∃ (I118 : Mem), fr = [(0, (.slice a_p0 p0.length c_p0)), (5, (.map (some b7))), (7, (.slice a_s102 s102.length c_s102)), (12, (.string x114)), (24, (.pointer (some ⟨b24, 0, none⟩))), (36, (.slice w_r91.In.a r91.In.length w_r91.In.c)), (37, (.int .i64 (r91.In.length : Int))), (38, (.int .i64 (i103 : Int))), (51, (.bool j116))] ∧ I100.Le I118 ∧ St E w I118 ((C_s19) :: (D76) :: (C_s102) :: Os))) ?restj116 ?waysj116
          case waysj116 =>
            refine WO.caseb (!x115) (fun H => ?_) (fun H => ?_)
            · replace R4 := cond_t H R4
              refine yaf 46 z (show Value.bool (!x115) = Value.bool true by rw [H]) ?_
              refine yap [(5, 47, (.slice a_p0 p0.length c_p0)), (6, 48, (.string x114))] kr (fun _ => by kernel_rfl) ?_
              obtain ⟨r125, Xr120, R4⟩ := bind_some R4
              refine ybf z kr z (f := 63) (args := #[(.slice a_p0 p0.length c_p0), (.string x114)]) kr (member_at_ok (RSl.mono h_p0 ((((L4.trans L17).trans L32).trans L89).trans L101)) S110 Xr120) ?_
              rintro _ w121 ⟨I122, rfl, L123, S124⟩
              refine ⟨_, rfl, trivial, ?_⟩
              refine yap [(8, 50, (.bool (decide (r125 ≥ 0)))), (9, 51, (.bool (decide (r125 ≥ 0))))] kr (fun _ => by kernel_rfl) ?_
              have he := Option.some.inj R4
              subst j116
              refine WO.weaken (fr' := [(0, (.slice a_p0 p0.length c_p0)), (5, (.map (some b7))), (7, (.slice a_s102 s102.length c_s102)), (12, (.string x114)), (24, (.pointer (some ⟨b24, 0, none⟩))), (36, (.slice w_r91.In.a r91.In.length w_r91.In.c)), (37, (.int .i64 (r91.In.length : Int))), (38, (.int .i64 (i103 : Int))), (51, (.bool (decide (r125 ≥ 0))))]) (WO.meet ⟨I122, rfl, L123, S124⟩) (Sub.cons z (Sub.cons z (Sub.cons z (Sub.cons z (Sub.cons z (Sub.cons z (Sub.cons z (Sub.cons z (Sub.cons z Sub.nil)))))))))
            · replace R4 := cond_f H R4
              refine yaf 46 z (show Value.bool (!x115) = Value.bool false by rw [H]) ?_
              refine ybo z kr z ?_
              refine ybo z kr z ?_
              refine ybo z kr z ?_
              refine ybo z kr z ?_
              refine yap [(9, 51, (.bool false))] kr (fun _ => by kernel_rfl) ?_
              have he := Option.some.inj R4
              subst j116
              refine WO.weaken (fr' := [(0, (.slice a_p0 p0.length c_p0)), (5, (.map (some b7))), (7, (.slice a_s102 s102.length c_s102)), (12, (.string x114)), (24, (.pointer (some ⟨b24, 0, none⟩))), (36, (.slice w_r91.In.a r91.In.length w_r91.In.c)), (37, (.int .i64 (r91.In.length : Int))), (38, (.int .i64 (i103 : Int))), (51, (.bool false))]) (WO.meet ⟨I100, rfl, Mem.Le.refl _, S110⟩) (Sub.cons z (Sub.cons z (Sub.cons z (Sub.cons z (Sub.cons z (Sub.cons z (Sub.cons z (Sub.cons z (Sub.cons z Sub.nil)))))))))
          case restj116 =>
            rintro _ w126 ⟨I118, rfl, L119, S127⟩
            refine yp ?_
            refine yc ?_
            obtain ⟨j128, R4, R3⟩ := bind_some R3
            refine W.join (J := (fun fr w => ∃ (I130 : Mem), ∃ (a_j128 : Option Addr), ∃ (c_j128 : Nat), ∃ (C_j128 : Mem), fr = [(0, (.slice a_p0 p0.length c_p0)), (5, (.map (some b7))), (7, (.slice a_j128 j128.length c_j128)), (24, (.pointer (some ⟨b24, 0, none⟩))), (36, (.slice w_r91.In.a r91.In.length w_r91.In.c)), (37, (.int .i64 (r91.In.length : Int))), (38, (.int .i64 (i103 : Int)))] ∧ I118.Le I130 ∧ St E w I130 ((C_s19) :: (D76) :: (C_j128) :: Os) ∧ OwnSl 9 1 RStr I130 C_j128 a_j128 c_j128 j128)) ?restj128 ?waysj128
            case waysj128 =>
              refine W.cond (b := j116) z z (fun H => ?_) (fun H => ?_)
              · replace R4 := cond_t H R4
                refine W.region (l := [0, 1, 2, 3, 4]) kr ?_
                refine yap [(0, 52, (.slice a_s102 s102.length c_s102)), (1, 53, (.string x114))] kr (fun _ => by kernel_rfl) ?_
                refine yad (rel := RStr) (xs := ([x114] : List By8)) S127 z kr z 9 1 [[(.string x114)]] kr z ((Elr.cons z Elr.nil)) tv ?_
                intro a135 C133 w137 S136 ho134
                have S139 := S136.front3
                obtain ⟨x140, Xx140, R4⟩ := bind_some R4
                obtain ⟨h0_x140, he_x140⟩ := app_some Xx140
                refine ya4 (e' := 9) (b := 16) (zs := #[(.string eB)]) S139 (OwnSl.mono h_s102 L119) z kr z kr kr kr z z z z ho134.sl (S139.rd (List.Mem.tail _ (List.Mem.head _))) h0_x140 he_x140 tv ?_
                intro a141 c142 w143 C144 S145 ho146
                have S147 := S145.front1
                have S148 := S147.drop
                refine yap [(4, 7, (.slice a141 x140.length c142))] kr (fun _ => by kernel_rfl) ?_
                refine yp ?_
                have S149 := S148.front2
                have S150 := S149.front2
                have he := Option.some.inj R4
                subst j128
                refine En.weaken (fr' := [(0, (.slice a_p0 p0.length c_p0)), (5, (.map (some b7))), (7, (.slice a141 x140.length c142)), (24, (.pointer (some ⟨b24, 0, none⟩))), (36, (.slice w_r91.In.a r91.In.length w_r91.In.c)), (37, (.int .i64 (r91.In.length : Int))), (38, (.int .i64 (i103 : Int)))]) (En.round ⟨I118, a141, c142, C144, rfl, Mem.Le.refl _, S150, ho146⟩) (Sub.cons z (Sub.cons z (Sub.cons z (Sub.cons z (Sub.cons z (Sub.cons z (Sub.cons z Sub.nil)))))))
              · replace R4 := cond_f H R4
                refine yk ?_
                have he := Option.some.inj R4
                subst j128
                refine En.weaken (fr' := [(0, (.slice a_p0 p0.length c_p0)), (5, (.map (some b7))), (7, (.slice a_s102 s102.length c_s102)), (24, (.pointer (some ⟨b24, 0, none⟩))), (36, (.slice w_r91.In.a r91.In.length w_r91.In.c)), (37, (.int .i64 (r91.In.length : Int))), (38, (.int .i64 (i103 : Int)))]) (En.round ⟨I118, a_s102, c_s102, C_s102, rfl, Mem.Le.refl _, S127, (OwnSl.mono h_s102 L119)⟩) (Sub.cons z (Sub.cons z (Sub.cons z (Sub.cons z (Sub.cons z (Sub.cons z (Sub.cons z Sub.nil)))))))
            case restj128 =>
              rintro _ w151 ⟨I130, a_j128, c_j128, C_j128, rfl, L131, S152, h_j128⟩
              refine yl ?_
              refine yc ?_
              refine W.region (l := [0, 1]) kr ?_
              refine WO.incr (j := i103) z kr z (by first | omega | (dsimp only at *; omega)) ?_
              refine yap [(1, 38, (.int .i64 ((i103 + 1 : Nat) : Int)))] kr (fun _ => by kernel_rfl) ?_
              refine yp ?_
              have he := Option.some.inj R3
              subst x111
              refine En.weaken (fr' := [(0, (.slice a_p0 p0.length c_p0)), (5, (.map (some b7))), (7, (.slice a_j128 j128.length c_j128)), (24, (.pointer (some ⟨b24, 0, none⟩))), (36, (.slice w_r91.In.a r91.In.length w_r91.In.c)), (37, (.int .i64 (r91.In.length : Int))), (38, (.int .i64 ((i103 + 1 : Nat) : Int)))]) (En.round ⟨I130, a_j128, c_j128, C_j128, rfl, ((L101.trans L119).trans L131), S152, h_j128⟩) (Sub.cons z (Sub.cons z (Sub.cons z (Sub.cons z (Sub.cons z (Sub.cons z (Sub.cons z Sub.nil)))))))
        case lastt99 =>
          rintro _ w153 ⟨I100, a_s102, c_s102, C_s102, rfl, L101, S154, h_s102⟩
          refine W.seq ?_
          refine W.region (l := [0]) kr ?_
          refine yap [(0, 39, (.bool (decide ((r91.In.length : Int) < (r91.In.length : Int)))))] kr (fun _ => by kernel_rfl) ?_
          refine yp ?_
          refine yc ?_
          refine W.seq ?_
          refine W.cond (b := (decide ((r91.In.length : Int) < (r91.In.length : Int)))) z z (fun H => ?_) (fun H => ?_)
          · exact absurd H (by first | (simp; done) | (simp; omega))
          clear H
          refine yaa ?_
          refine yo ?_
          refine yq ?_
          refine yt ?_
          refine yl ?_
          refine En.weaken (fr' := [(0, (.slice a_p0 p0.length c_p0)), (5, (.map (some b7))), (7, (.slice a_s102 s102.length c_s102)), (24, (.pointer (some ⟨b24, 0, none⟩)))]) (En.round ⟨k71, x72, rm73, s102, hp77, hy82.trans (congrArg some (Option.some.inj R2).symm), I100, a_s102, c_s102, C_s102, D76, _, rfl, ((L32.trans L89).trans L101), S154, h_s102, (IterSt.mono hit80 (L89.trans L101))⟩) (Sub.cons z (Sub.cons z (Sub.cons z (Sub.cons z Sub.nil))))
    · replace R1 := condM_f H R1
      refine yaa ?_
      refine yo ?_
      refine yq ?_
      replace G := R1
      refine yt ?_
      refine yc ?_
      refine W.seq ?_
      refine W.region (l := [0, 1, 2, 3]) kr ?_
      refine yap [(0, 69, (.map (some b7)))] kr (fun _ => by kernel_rfl) ?_
      refine ybf z kr z (f := 67) (args := #[(.map (some b7))]) kr (keys67_ok S22) ?_
      rintro _ w176 ⟨b174, rfl, S175⟩
      refine ⟨_, rfl, trivial, ?_⟩
      have S178 := S175.front1
      have S179 := S178.front1
      obtain ⟨r180, hx181, G⟩ := optM_some G
      refine ybf z kr z (f := 66) (args := #[(.func (.func 100) #[] #[(.pointer (some ⟨b174, 0, none⟩))])]) kr (sorted66_67_ok h_s19 S179 hx181) ?_
      rintro _ w188 ⟨I182, a183, c184, rfl, L185, S186, hp187⟩
      refine ⟨_, rfl, trivial, ?_⟩
      refine yap [(3, 4, (.slice a183 r180.length c184))] kr (fun _ => by kernel_rfl) ?_
      refine yp ?_
      refine yc ?_
      refine yr ?_
      have S189 := S186.drop
      have S190 := S189.drop
      have he : r180 = r := G
      subst r
      exact En.ret1 z (.slice a183 r180.length c184) z ⟨I182, a183, c184, rfl, ((L4.trans L17).trans L185), S190, hp187⟩
def slices_Index_string (p0 : List By8) (p1 : By8) : Option Int := (forN (fun (i4 : Nat) (_s : Unit) => (idx p0 (i4 : Int)).bind (fun x11 => (bif (sEq p1 x11) then some (.inr (i4 : Int)) else some (.inl ())))) p0.length 0 ()).bind (fun (t : Unit ⊕ (Int)) => match t with | .inl _ => some (-1) | .inr s13 => some s13)
theorem slices_Index_string_ok {p0 : List By8} {p1 : By8} {a_p0 : Option Addr} {c_p0 : Nat} (h_p0 : RSl 1 RStr I a_p0 c_p0 p0) (hS : St E w I Os) {r : Int} (G : slices_Index_string p0 p1 = some r) :
    Calls P 65 #[(Sl a_p0 p0 c_p0), (.string p1)] w (RT E I Os (Iv r)) := by
 refine calls_W (fn := Tryz.f65) rfl rfl rfl ?_
 unfold slices_Index_string at G
 refine ye [0] (ya 0 1 z (yb (W.seq (ye nL3 (ya 0 3 z (yb (yn (bsk G fun t1 hloop5 G => have hlt9 := (h_p0).len_lt; W.wk (yar (m := p0.length) hloop5 (fun (i4 : Nat) (_s : Unit) => JI E I [(0, Sl a_p0 p0 c_p0), (1, .string p1), (7, Nv p0.length), (8, Nv i4)] Os) ⟨I, rfl, lr, hS⟩ ?_ ?_)))))))))
 rintro i4 _ _ w6 hi10 ⟨I2, rfl, L3, S7⟩ x8 R1 hext1
 refine ye [0] (ya 0 1 z (yb (W.seq (yau fun _ => yk (yc (W.seq (yn (ye nL2 (ya 0 2 z (y7 nL6 (ya 0 3 z ?_)))))))))))
 obtain ⟨x11, R1, Hx11, _, rfl, Zx11⟩ := sx I2 h_p0 R1
 refine y6 9 1 Hx11 z (yan Zx11 S7.rm z (ya 5 1 z (yb (y0 R1 (fun H R1 => ?_) (fun H R1 => ?_)))))
 refine ye nL2 (ya 0 2 z (yb (yr (ym (yf (yu ?_))))))
 obtain rfl := hext1 _ (sj R1).symm
 exact ym (yf (sj G ▸ yz ⟨I2, rfl, L3, S7⟩))
 exact yk (yl (yc (yag nL2 (yao i4 z (ya 1 1 z (yp (yv ⟨(), (sj R1).symm, I2, rfl, L3, S7⟩)))))))
 rintro _ _ w14 ⟨I2, rfl, L3, S15⟩ he
 cases he
 exact ye [0] (ya 0 1 z (yb (W.seq (yav fun _ => yaa (yo (yq (yt (yc (ye [0] (ya 0 1 z (yb (yr (sj G ▸ yz ⟨I2, rfl, L3, S15⟩)))))))))))))
def slices_Contains_string (p0 : List By8) (p1 : By8) : Option Bool := (slices_Index_string p0 p1).bind (fun r6 => some (decide (r6 ≥ 0)))
theorem slices_Contains_string_ok {p0 : List By8} {p1 : By8} {a_p0 : Option Addr} {c_p0 : Nat} (h_p0 : RSl 1 RStr I a_p0 c_p0 p0) (hS : St E w I Os) {r : Bool} (G : slices_Contains_string p0 p1 = some r) :
    Calls P 44 #[(Sl a_p0 p0 c_p0), (.string p1)] w (RT E I Os (.bool r)) := by
 refine calls_W (fn := Tryz.f44) rfl rfl rfl ?_
 unfold slices_Contains_string at G
 exact ye [0] (ya 0 1 z (y7 nL5 (ya 0 2 z (bsk G fun r6 Xr1 G => WO.c1 (slices_Index_string_ok h_p0 hS Xr1) z fun I3 w2 L4 S5 => ya 3 2 z (yb (yr (sj G ▸ yz ⟨I3, rfl, L4, S5⟩)))))))
noncomputable def member_Is (p0 : List qJ) (p1 : By8) (p2 : By8) : Option Bool := (member_All p0 p1).bind (fun r6 => (slices_Contains_string r6 p2).bind (fun r12 => some r12))
theorem member_Is_ok {p0 : List qJ} {p1 : By8} {p2 : By8} {a_p0 : Option Addr} {c_p0 : Nat} (h_p0 : RSl 2 R_qJ I a_p0 c_p0 p0) (hS : St E w I Os) {r : Bool} (G : member_Is p0 p1 p2 = some r) :
    Calls P 24 #[(Sl a_p0 p0 c_p0), (.string p1), (.string p2)] w (RT E I Os (.bool r)) := by
 refine calls_W (fn := Tryz.f24) rfl rfl rfl ?_
 unfold member_Is at G
 refine ye [0] (ya 0 1 z (y7 nL6 (ya 0 2 z (bsk G fun r6 Xr1 G => yai (member_All_ok h_p0 hS Xr1) ?_))))
 rintro _ w2 ⟨I3, a_r6, c_r6, rfl, L4, S5, h_r6⟩
 exact cv (ya 3 1 z (bsk G fun r12 Xr7 G => WO.c1 (slices_Contains_string_ok h_r6 S5 Xr7) z fun I9 w8 L10 S11 => ya 5 1 z (yb (yr (sj G ▸ yz ⟨I9, rfl, le, S11⟩)))))
noncomputable def grants_Owns (p0 : qC) (p1 : By8) (p2 : By8) : Option Bool := (catalog_Find p0 p2).bind (fun (r10, r11) => ((bif r11 then (member_Is p0.Roles p1 r10.Owner).bind (fun r27 => some r27) else some false)).bind (fun (j18 : Bool) => some j18))
theorem grants_Owns_ok {p0 : qC} {p1 : By8} {p2 : By8} {w_p0 : W_qC} (h_p0 : ok_qC I p0 w_p0) (hS : St E w I Os) {r : Bool} (G : grants_Owns p0 p1 p2 = some r) :
    Calls P 48 #[(vC p0 w_p0), (.string p1), (.string p2)] w (RT E I Os (.bool r)) := by
 refine calls_W (fn := Tryz.f48) rfl rfl rfl ?_
 unfold grants_Owns at G
 refine ye nL2 (y8 hS (cs_qC p0 w_p0) 33 z fun b1 w4 S3 => ya 1 1 z (y7 nL9 (y3 ((cs_qC p0 w_p0)) (S3.rf m0) z (ya 1 1 z ?_))))
 obtain ⟨⟨r10, r11⟩, Xr5, G⟩ := bsm G
 refine yai (catalog_Find_ok h_p0 S3 Xr5) ?_
 rintro _ w6 ⟨I7, w_r10, rfl, L8, S9, h_r10⟩
 refine cv (ya 3 3 z (y8 S9 (cs_qT z_qT zw_qT) 104 z fun b12 w15 S14 => y4 S14 0 (cs_qT r10 w_r10) fun w17 S16 => ya 8 1 z (y7 nL10 (ya 0 2 z (bsk G fun j18 R1 G => yam (l1 := [2, 3, 4, 5, 6, 7, 8]) (J := JI E I7 [(23, .bool j18)] Os) ?_ ?_)))))
 refine yal R1 (fun H R1 => ?_) (fun H R1 => ?_)
 exact yy 16 H (yh 2 1 [2] z (yj (S16.rf m1) z (yh 4 2 [1] z (yj (S16.rf m0) z (bsk R1 fun r27 Xr22 R1 => WO.c1 (member_Is_ok (RSl.mono h_p0.Roles L8) S16 Xr22) z fun I24 w23 L25 S26 => ya 8 1 z (sj R1 ▸ yx ⟨I24, rfl, L25, S26.d2⟩))))))
 refine yy 16 H ?_
 iterate 6 refine yak ?_
 exact ya 8 1 z (sj R1 ▸ yx ⟨I7, rfl, lr, S16.d2⟩)
 rintro _ w32 ⟨I20, rfl, L21, S33⟩
 exact ya 9 1 z (yb (yr (sj G ▸ yz ⟨I20, rfl, le, S33⟩)))
noncomputable def why_asked_owns (p0 : why_asked) (p1 : By8) : Option Bool := (grants_Owns p0.c p1 p0.table_).bind (fun r10 => some r10)
theorem why_asked_owns_ok {p0 : why_asked} {p1 : By8} {w_p0 : W_why_asked} (h_p0 : ok_why_asked I p0 w_p0) (hS : St E w I Os) {r : Bool} (G : why_asked_owns p0 p1 = some r) :
    Calls P 35 #[(.agg (cs_why_asked p0 w_p0).toArray), (.string p1)] w (RT E I Os (.bool r)) := by
 refine calls_W (fn := Tryz.f35) rfl rfl rfl ?_
 unfold why_asked_owns at G
 exact ye nL2 (y8 hS (cs_why_asked p0 w_p0) 79 z fun b1 w4 S3 => ya 1 1 z (y7 nL7 (yh 0 1 [0] z (y3 ((cs_qC p0.c w_p0.c)) (S3.rf m0) z (yh 2 2 [5] z (yj (S3.rf m0) z (bsk G fun r10 Xr5 G => WO.c1 (grants_Owns_ok h_p0.c S3 Xr5) z fun I7 w6 L8 S9 => ya 6 1 z (yb (yr (sj G ▸ yz ⟨I7, rfl, L8, S9.drop⟩))))))))))
def why_asked_fits (p0 : why_asked) (p1 : qG) (p2 : Bool) : Option Bool := (member_Find p0.c.Roles p1.To).bind (fun (r14, r15) => (some (((r15 && (p1.Priv == p0.priv)) && (sEq p1.Table p0.table_)) && (p1.Option || (!p2)))).bind (fun (q28 : Bool) => some q28))
theorem why_asked_fits_ok {p0 : why_asked} {p1 : qG} {p2 : Bool} {w_p0 : W_why_asked} (h_p0 : ok_why_asked I p0 w_p0) (hS : St E w I Os) {r : Bool} (G : why_asked_fits p0 p1 p2 = some r) :
    Calls P 34 #[(.agg (cs_why_asked p0 w_p0).toArray), (vG p1), (.bool p2)] w (RT E I Os (.bool r)) := by
 refine calls_W (fn := Tryz.f34) rfl rfl rfl ?_
 unfold why_asked_fits at G
 refine ye nL3 (y8 hS (cs_why_asked p0 w_p0) 79 z fun b1 w4 S3 => y8 S3 (cs_qG p1) 50 z fun b5 w8 S7 => ya 2 1 z (y7 nL12 (yh 0 2 [0, 2] z (yj (S7.rf m1) z (yh 3 1 [0] z (yj (S7.rf m0) z ?_))))))
 obtain ⟨⟨r14, r15⟩, Xr9, G⟩ := bsm G
 refine yai (member_Find_ok h_p0.c.Roles S7 Xr9) ?_
 rintro _ w10 ⟨I11, w_r14, rfl, L12, S13, h_r14⟩
 exact cv (ya 6 3 z (y8 S13 (cs_qJ z_qJ zw_qJ) 74 z fun b16 w19 S18 => y4 S18 0 (cs_qJ r14 w_r14) fun w21 S20 => ya 11 1 z (y7 nL24 (ya 0 2 z (yaq [2, 3, 4, 5, 6] 7 19 25 (.refl (r15 && (p1.Priv == p0.priv))) (fun _ => yh 2 1 [3] z (yj (S20.rf m1) z (yh 4 1 [4] z (yj (S20.rf m2) z (ya 6 2 z yaj))))) (ya 8 1 z (yaq [9, 10, 11, 12, 13] 14 26 32 (.refl ((r15 && (p1.Priv == p0.priv)) && (sEq p1.Table p0.table_))) (fun _ => yh 9 1 [2] z (yj (S20.rf m1) z (yh 11 1 [5] z (yj (S20.rf m2) z (ya 13 2 z yaj))))) (ya 15 1 z (bsq G fun q28 Xq28 G => yaq [16, 17, 18, 19, 20, 21] 22 33 40 Xq28 (fun _ => yh 16 1 [4] z (yj (S20.rf m1) z (ya 18 1 z (ya5 [19, 20] 21 36 39 (.refl (p1.Option || (!p2))) (fun _ => ya 19 3 z yaj) (ya 22 1 z yaj))))) (ya 23 1 z (yb (yr (sj G ▸ yz ⟨I11, rfl, L12, S20.d3⟩)))))))))))))
noncomputable def why_asked_step (p0 : why_asked) (p1 : List (Int × Int)) (p2 : By8) (p3 : Bool) : Option (Int × Int) := (forE (fun (i10 : Nat) (s : Int × Int) => match s with | (s8, s9) => (idx p0.c.Grants (i10 : Int)).bind (fun x17 => (some ((mget iEq p1 (i10 : Int)).getD 0)).bind (fun (x24 : Int) => ((bif (mhas iEq p1 (i10 : Int)) then (why_asked_fits p0 x17 p3).bind (fun r34 => some r34) else some false)).bind (fun (j25 : Bool) => ((bif j25 then (member_Is p0.c.Roles p2 x17.To).bind (fun r48 => some r48) else some false)).bind (fun (j39 : Bool) => ((bif (j39 && ((decide (s8 < 0)) || (decide (x24 < s9)))) then some ((i10 : Int), x24) else some (s8, s9))).bind (fun ((s65, s66) : Int × Int) => some (s65, s66))))))) p0.c.Grants.length 0 ((-1), 0)).bind (fun (s8, s9) => some (s8, s9))
theorem why_asked_step_ok {p0 : why_asked} {p1 : List (Int × Int)} {p2 : By8} {p3 : Bool} {w_p0 : W_why_asked} {m_p1 : Nat} {C_p1 : Mem} (h_p0 : ok_why_asked I p0 w_p0) (h_p1 : OwnMap (Value.int .i64) (val1 (RInt .i64)) I C_p1 m_p1 p1) (hm_p1 : (C_p1) ∈ Os) (hS : St E w I Os) {r : Int × Int} (G : why_asked_step p0 p1 p2 p3 = some r) :
    Calls P 39 #[(.agg (cs_why_asked p0 w_p0).toArray), (.map (some m_p1)), (.string p2), (.bool p3)] w (RT E I Os (.tuple #[(Iv r.1), (Iv r.2)])) := by
 refine calls_W (fn := Tryz.f39) rfl rfl rfl ?_
 unfold why_asked_step at G
 refine ye nL3 (y8 hS (cs_why_asked p0 w_p0) 79 z fun b1 w4 S3 => ya 1 2 z (y7 nL2 (ya 0 2 z (yb (W.seq (ye nL5 (yh 0 2 [0, 3] z (yj (S3.rf m0) z (ya 3 2 z (yb (yn ?_)))))))))))
 obtain ⟨⟨s8, s9⟩, hloop11, G⟩ := bsm G
 have hlt15 := (h_p0.c.Grants).len_lt
 refine W.wk (yat (m := p0.c.Grants.length) hloop11 (fun (i10 : Nat) (s : Int × Int) fr w => match s with | (s8, s9) => ∃ I6, fr = [(1, .map (some m_p1)), (2, .string p2), (3, .bool p3), (4, Pt b1 0), (10, Iv s8), (11, Iv s9), (18, Sl w_p0.c.Grants.a p0.c.Grants w_p0.c.Grants.c), (19, Nv p0.c.Grants.length), (20, Nv i10)] ∧ I.Le I6 ∧ St E w I6 ((Bx b1 (cs_why_asked p0 w_p0) 79) :: Os)) ⟨I, rfl, lr, S3⟩ ?_ ?_)
 rintro i10 ⟨s8, s9⟩ _ w12 hi16 ⟨I6, rfl, L7, S13⟩ x14 R1
 refine ye [0] (ya 0 1 z (yb (W.seq (yau fun _ => yk (yc (W.seq (yn (ye nL6 (ya 0 1 z ?_)))))))))
 obtain ⟨x17, R1, Hx17, _, rfl, Zx17⟩ := sx I6 h_p0.c.Grants R1
 refine y6 50 5 Hx17 z (ya0 ((cs_qG x17)) Zx17 0 S13.rm z (y8 S13 (cs_qG z_qG) 50 z fun b18 w21 S20 => ya 4 1 z (y4 S20 0 (cs_qG x17) fun w23 S22 => y7 nL8 (yab 0 26 (.map (some m_p1)) (ya 1 1 z ?_)))))
 obtain ⟨x24, Xx24, R1⟩ := bsm R1
 obtain ⟨v_x24, hv_x24, hq_x24⟩ := OwnMap.lookup (OwnMap.mono h_p1 L7) (t := 83) (kt := 3) (et := 3) kr (keyLaw_int (kt := 3) kr) (i10 : Int) (zv := (Iv 0)) (z0 := 0) kr rfl
 rw [sj Xx24] at hv_x24
 obtain rfl := (List.cons.inj hv_x24).1
 refine WO.lookup z kr z z hq_x24 ((rd_f (S22.rd (List.Mem.tail _ (List.Mem.tail _ hm_p1))))) (.tuple #[(Iv x24), (.bool (mhas iEq p1 (i10 : Int)))]) z ?_
 refine ya 3 5 z (y7 nL25 (ya 0 2 z (bsk R1 fun j25 R2 R1 => yam (l1 := [2, 3, 4, 5, 6]) (J := JI E I6 [(1, .map (some m_p1)), (2, .string p2), (3, .bool p3), (4, Pt b1 0), (10, Iv s8), (11, Iv s9), (12, Nv i10), (13, Pt b18 0), (14, Iv x24), (18, Sl w_p0.c.Grants.a p0.c.Grants w_p0.c.Grants.c), (19, Nv p0.c.Grants.length), (20, Nv i10), (37, .bool j25)] ((Bx b1 (cs_why_asked p0 w_p0) 79) :: (bG b18 x17) :: Os)) ?_ ?_)))
 refine yal R2 (fun H R2 => ?_) (fun H R2 => ?_)
 exact yy 32 H (y3 ((cs_why_asked p0 w_p0)) (S22.rf m1) z (y3 ((cs_qG x17)) (S22.rf m0) z (ya 4 1 z (bsk R2 fun r34 Xr29 R2 => WO.c1 (why_asked_fits_ok (h_p0.mono L7) S22 Xr29) z fun I31 w30 L32 S33 => ya 6 1 z (sj R2 ▸ yx ⟨I31, rfl, L32, S33.front1⟩)))))
 refine yy 32 H ?_
 iterate 4 refine yak ?_
 exact ya 6 1 z (sj R2 ▸ yx ⟨I6, rfl, lr, S22.front1⟩)
 rintro _ w37 ⟨I27, rfl, L28, S38⟩
 refine ya 7 1 z (bsk R1 fun j39 R2 R1 => yam (l1 := [8, 9, 10, 11, 12, 13, 14, 15]) (J := JI E I27 [(1, .map (some m_p1)), (2, .string p2), (3, .bool p3), (4, Pt b1 0), (10, Iv s8), (11, Iv s9), (12, Nv i10), (14, Iv x24), (18, Sl w_p0.c.Grants.a p0.c.Grants w_p0.c.Grants.c), (19, Nv p0.c.Grants.length), (20, Nv i10), (46, .bool j39)] ((Bx b1 (cs_why_asked p0 w_p0) 79) :: Os)) ?_ ?_)
 refine yal R2 (fun H R2 => ?_) (fun H R2 => ?_)
 exact yy 38 H (yh 8 2 [0, 2] z (yj (S38.rf m0) z (yh 11 2 [0] z (yj (S38.rf m1) z (bsk R2 fun r48 Xr43 R2 => WO.c1 (member_Is_ok (up h_p0.c.Roles) S38 Xr43) z fun I45 w44 L46 S47 => ya 15 1 z (sj R2 ▸ yx ⟨I45, rfl, L46, S47.front1.drop⟩))))))
 refine yy 38 H ?_
 iterate 7 refine yak ?_
 exact ya 15 1 z (sj R2 ▸ yx ⟨I27, rfl, lr, S38.front1.drop⟩)
 rintro _ w53 ⟨I41, rfl, L42, S54⟩
 refine ya 16 1 z (yaq [17, 18, 19, 20, 21, 22, 23] 24 47 55 (.refl (j39 && ((decide (s8 < 0)) || (decide (x24 < s9))))) (fun _ => ya 17 3 z (ya5 [20, 21, 22] 23 50 54 (.refl ((decide (s8 < 0)) || (decide (x24 < s9)))) (fun _ => ya 20 4 z yaj) (ya 24 1 z yaj))) (yb (bsk R1 fun j61 R2 R1 => yaw (J := (fun fr w => ∃ (s65 : Int) (s66 : Int), ∃ I63, (s65, s66) = j61 ∧ fr = [(1, .map (some m_p1)), (2, .string p2), (3, .bool p3), (4, Pt b1 0), (10, Iv s65), (11, Iv s66), (18, Sl w_p0.c.Grants.a p0.c.Grants w_p0.c.Grants.c), (19, Nv p0.c.Grants.length), (20, Nv i10)] ∧ I41.Le I63 ∧ St E w I63 ((Bx b1 (cs_why_asked p0 w_p0) 79) :: Os))) ?_ ?_)))
 refine y0 R2 (fun H R2 => ?_) (fun H R2 => ?_)
 exact yag nL4 (ya 0 4 z (yp (yv ⟨(i10 : Int), x24, I41, sj R2, rfl, lr, S54⟩)))
 exact yk (yv ⟨s8, s9, I41, sj R2, rfl, lr, S54⟩)
 rintro _ w67 ⟨s65, s66, I63, rfl, rfl, L64, S68⟩
 exact yl (yc (yag nL2 (yao i10 z (ya 1 1 z (yp (sj R1 ▸ yv ⟨I63, rfl, le, S68⟩))))))
 rintro _ w69 ⟨I6, rfl, L7, S70⟩
 exact ye [0] (ya 0 1 z (yb (W.seq (yav fun _ => yaa (yo (yq (yt (yc (ye nL4 (ya 0 4 z (yb (yr (sj G ▸ yay ⟨I6, rfl, L7, S70.drop⟩)))))))))))))
noncomputable def why_asked_dists (p0 : why_asked) : Option (List (Int × Int)) := (loopO (fun (s : Bool × (List (Int × Int))) => match s with | (s12, s13) => (bif s12 then (forE (fun (i24 : Nat) (s : Bool × (List (Int × Int))) => match s with | (s22, s23) => ((idx p0.c.Grants (i24 : Int)).bind (fun x35 => (why_asked_fits p0 x35 false).bind (fun r47 => (bif (!r47) then some (s22, s23) else (why_asked_owns p0 x35.By).bind (fun r56 => ((bif (!r56) then (why_asked_step p0 s23 x35.By true).bind (fun (r66, r67) => (bif (decide (r66 < 0)) then some (.inl ()) else some (.inr r67))) else some (.inr 0))).bind (fun (t : Unit ⊕ Int) => match t with | (.inl ()) => some (s22, s23) | (.inr s71) => (some ((mget iEq s23 (i24 : Int)).getD 0)).bind (fun (x76 : Int) => (some ((!(mhas iEq s23 (i24 : Int))) || (decide ((w64 (s71 + 1)) < x76)))).bind (fun (q77 : Bool) => ((bif q77 then some (true, (mset iEq s23 (i24 : Int) (w64 (s71 + 1)))) else some (s22, s23))).bind (fun ((s89, s90) : Bool × (List (Int × Int))) => some (s89, s90)))))))))).bind (fun ((s48, s49) : Bool × (List (Int × Int))) => some (s48, s49))) p0.c.Grants.length 0 (false, s13)).bind (fun (s22, s23) => some (.inl (s22, s23))) else some (.inr s13))) (true, ([] : List (Int × Int)))).bind (fun (s99 : List (Int × Int)) => some s99)
theorem why_asked_dists_ok {p0 : why_asked} {w_p0 : W_why_asked} (h_p0 : ok_why_asked I p0 w_p0) (hS : St E w I Os) {r : (List (Int × Int))} (G : why_asked_dists p0 = some r) :
    Calls P 38 #[(.agg (cs_why_asked p0 w_p0).toArray)] w (fun e w' => ∃ (I' : Mem) (rm0 : Nat) (rC0 : Mem), e = .returned (.map (some rm0)) ∧ I.Le I' ∧ St E w' I' (rC0 :: Os) ∧ OwnMap (Value.int .i64) (val1 (RInt .i64)) I' rC0 rm0 r) := by
 refine calls_W (fn := Tryz.f38) rfl rfl rfl ?_
 unfold why_asked_dists at G
 refine ye nL2 (y8 hS (cs_why_asked p0 w_p0) 79 z fun b1 w4 S3 => yab 1 2 (.map none) (y7 nL2 (ybi S3 z kr z (.map #[] 0) (fun b => .map (some b)) kr tv ?_)))
 intro b5 w8 S7
 refine yab 1 3 (.map (some b5)) (yb (W.seq (ye [0] (ya 0 1 z (yb (yn (bsk G fun t9 hloop14 G => W.wk (ya6 hloop14 (fun (s : Bool × (List (Int × Int))) fr w => match s with | (s12, s13) => ∃ I10 C_s13, fr = [(1, Pt b1 0), (3, .map (some b5)), (4, .bool s12)] ∧ I.Le I10 ∧ St E w I10 ((Bx b1 (cs_why_asked p0 w_p0) 79) :: (C_s13) :: Os) ∧ OwnMap (Value.int .i64) (val1 (RInt .i64)) I10 C_s13 b5 s13) ⟨I, Gv.one b5 (.map #[] 0), rfl, lr, S7.front1, (OwnMap.nil (enc := (Value.int .i64)) (val := (val1 (RInt .i64))) (I := I) (m := b5))⟩ ?_))))))))
 rintro ⟨s12, s13⟩ _ w16 ⟨I10, C_s13, rfl, L11, S17, h_s13⟩ x18 R1 hext9
 refine W.seq (ye [0] (ya 0 1 z (yb (y0 R1 (fun H R1 => ?_) (fun H R1 => ?_)))))
 refine yk (yc (yn (ye [0] (ya 0 1 z (y7 nL5 (yh 0 2 [0, 3] z (yj (S17.rf m0) z (ya 3 2 z (yb (yn ?_))))))))))
 obtain ⟨⟨s22, s23⟩, hloop25, R1⟩ := bsm R1
 have hlt29 := ((RSl.mono h_p0.c.Grants L11)).len_lt
 refine W.wk (yat (m := p0.c.Grants.length) hloop25 (fun (i24 : Nat) (s : Bool × (List (Int × Int))) fr w => match s with | (s22, s23) => ∃ I20 C_s23, fr = [(1, Pt b1 0), (3, .map (some b5)), (4, .bool s22), (16, Sl w_p0.c.Grants.a p0.c.Grants w_p0.c.Grants.c), (17, Nv p0.c.Grants.length), (18, Nv i24)] ∧ I10.Le I20 ∧ St E w I20 ((Bx b1 (cs_why_asked p0 w_p0) 79) :: (C_s23) :: Os) ∧ OwnMap (Value.int .i64) (val1 (RInt .i64)) I20 C_s23 b5 s23) ⟨I10, C_s13, rfl, lr, S17, h_s13⟩ ?_ ?_)
 rintro i24 ⟨s22, s23⟩ _ w26 hi30 ⟨I20, C_s23, rfl, L21, S27, h_s23⟩ x28 R2
 refine ye [0] (ya 0 1 z (yb (W.seq (yau fun _ => yk (yc (W.seq (bsk R2 fun j31 R3 R2 => yaw (J := (fun fr w => ∃ (s48 : Bool) (s49 : List (Int × Int)), ∃ I33 C_s49, (s48, s49) = j31 ∧ fr = [(1, Pt b1 0), (3, .map (some b5)), (4, .bool s48), (16, Sl w_p0.c.Grants.a p0.c.Grants w_p0.c.Grants.c), (17, Nv p0.c.Grants.length), (18, Nv i24)] ∧ I20.Le I33 ∧ St E w I33 ((Bx b1 (cs_why_asked p0 w_p0) 79) :: (C_s49) :: Os) ∧ OwnMap (Value.int .i64) (val1 (RInt .i64)) I33 C_s49 b5 s49)) ?_ ?_)))))))
 refine yn (ye nL6 (ya 0 1 z ?_))
 obtain ⟨x35, R3, Hx35, _, rfl, Zx35⟩ := sx I20 h_p0.c.Grants R3
 refine y6 50 5 Hx35 z (ya0 ((cs_qG x35)) Zx35 0 S27.rm z (y8 S27 (cs_qG z_qG) 50 z fun b36 w39 S38 => ya 4 1 z (y4 S38 0 (cs_qG x35) fun w41 S40 => y7 [0] (ya 0 1 z (yb (W.seq (ye nL4 (y3 ((cs_why_asked p0 w_p0)) (S40.rf m1) z (y3 ((cs_qG x35)) (S40.rf m0) z (bsk R3 fun r47 Xr42 R3 => WO.c1 (why_asked_fits_ok (h_p0.mono le) S40 Xr42) z fun I44 w43 L45 S46 => ya 3 1 z (yb (y0 R3 (fun H R3 => ?_) (fun H R3 => ?_)))))))))))))
 exact yaa (yo (yt (yv ⟨s22, s23, I44, C_s23, sj R3, rfl, L45, S46.drop, (OwnMap.mono h_s23 L45)⟩)))
 refine yk (yc (W.seq (ye nL5 (y3 ((cs_why_asked p0 w_p0)) (S46.rf m1) z (yh 1 1 [1] z (yj (S46.rf m0) z (bsk R3 fun r56 Xr51 R3 => WO.c1 (why_asked_owns_ok (h_p0.mono le) S46 Xr51) z fun I53 w52 L54 S55 => ya 4 1 z (yb (bsk R3 fun j57 R4 R3 => yaw (J := (fun fr w => ∃ (s71 : Int), ∃ I59, (.inr s71) = j57 ∧ fr = [(1, Pt b1 0), (3, .map (some b5)), (4, .bool s22), (5, Nv i24), (7, Iv s71), (16, Sl w_p0.c.Grants.a p0.c.Grants w_p0.c.Grants.c), (17, Nv p0.c.Grants.length), (18, Nv i24)] ∧ I53.Le I59 ∧ St E w I59 ((Bx b1 (cs_why_asked p0 w_p0) 79) :: (C_s23) :: Os))) ?_ ?_)))))))))
 refine y0 R4 (fun H R4 => ?_) (fun H R4 => ?_)
 refine ye nL10 (y3 ((cs_why_asked p0 w_p0)) (S55.rf m1) z (yab 1 34 (.map (some b5)) (yh 2 1 [1] z (yj (S55.rf m0) z ?_))))
 obtain ⟨⟨r66, r67⟩, Xr61, R4⟩ := bsm R4
 refine WO.c1 (why_asked_step_ok (h_p0.mono le) (OwnMap.mono h_s23 le) m2 S55 Xr61) z fun I63 w62 L64 S65 => ya 5 5 z (yb (W.seq (ye nL2 (ya 0 2 z (yb (y0 R4 (fun H R4 => ?_) (fun H R4 => ?_)))))))
 refine yaa (yo (yq ?_))
 obtain rfl := sj R4
 exact yo (yt (yv ⟨s22, s23, I63, C_s23, sj R3, rfl, le, S65.drop, (OwnMap.mono h_s23 le)⟩))
 exact yk (yc (yag nL2 (ya 0 2 z (yp (yv ⟨r67, I63, sj R4, rfl, L64, S65.drop⟩)))))
 exact yk (yv ⟨0, I53, sj R4, rfl, lr, S55.drop⟩)
 rintro _ w74 ⟨s71, I59, rfl, rfl, L60, S75⟩
 refine yc (ye nL8 (yab 0 44 (.map (some b5)) (ya 1 1 z ?_)))
 obtain ⟨x76, Xx76, R3⟩ := bsm R3
 obtain ⟨v_x76, hv_x76, hq_x76⟩ := OwnMap.lookup (OwnMap.mono h_s23 ((L45.trans L54).trans L60)) (t := 83) (kt := 3) (et := 3) kr (keyLaw_int (kt := 3) kr) (i24 : Int) (zv := (Iv 0)) (z0 := 0) kr rfl
 rw [sj Xx76] at hv_x76
 obtain rfl := (List.cons.inj hv_x76).1
 refine WO.lookup z kr z z hq_x76 ((S75.rf m1)) (.tuple #[(Iv x76), (.bool (mhas iEq s23 (i24 : Int)))]) z ?_
 refine ya 3 5 z (y7 nL8 (ya 0 3 z (bsq R3 fun q77 Xq77 R3 => ya5 [3, 4, 5, 6] 7 51 56 Xq77 (fun _ => ya 3 5 z yaj) (yb (bsk R3 fun j80 R4 R3 => yaw (J := (fun fr w => ∃ (s89 : Bool) (s90 : List (Int × Int)), ∃ I82 C_s90, (s89, s90) = j80 ∧ fr = [(1, Pt b1 0), (3, .map (some b5)), (4, .bool s89), (16, Sl w_p0.c.Grants.a p0.c.Grants w_p0.c.Grants.c), (17, Nv p0.c.Grants.length), (18, Nv i24)] ∧ I59.Le I82 ∧ St E w I82 ((Bx b1 (cs_why_asked p0 w_p0) 79) :: (C_s90) :: Os) ∧ OwnMap (Value.int .i64) (val1 (RInt .i64)) I82 C_s90 b5 s90)) ?_ ?_)))))
 refine y0 R4 (fun H R4 => ?_) (fun H R4 => ?_)
 refine ye nL5 (yab 0 57 (.map (some b5)) (ya 1 3 z (WO.update (OwnMap.mono h_s23 le) S75.front1 (t := 83) (kt := 3) (et := 3) kr (keyLaw_int (kt := 3) kr) z kr z (.inl z) z (i24 : Int) z z (xv := (w64 (s71 + 1))) z tv ?_)))
 intro w87 C85 S86 hm88
 exact yb (yag [0] (ya 0 1 z (yp (yv ⟨true, (mset iEq s23 (i24 : Int) (w64 (s71 + 1))), I59, C85, sj R4, rfl, lr, S86.front1, hm88⟩))))
 exact yk (yv ⟨s22, s23, I59, C_s23, sj R4, rfl, lr, S75, (OwnMap.mono h_s23 le)⟩)
 rintro _ w92 ⟨s89, s90, I82, C_s90, rfl, rfl, L83, S93, h_s90⟩
 exact yl (yv ⟨s89, s90, I82, C_s90, sj R3, rfl, le, S93, h_s90⟩)
 rintro _ w94 ⟨s48, s49, I33, C_s49, rfl, rfl, L34, S95, h_s49⟩
 exact yc (yag nL2 (yao i24 z (ya 1 1 z (yp (sj R2 ▸ yv ⟨I33, C_s49, rfl, le, S95, h_s49⟩)))))
 rintro _ w96 ⟨I20, C_s23, rfl, L21, S97, h_s23⟩
 exact ye [0] (ya 0 1 z (yb (W.seq (yav fun _ => yaa (yo (yq (yt (yl (yv ⟨(s22, s23), (sj R1).symm, I20, C_s23, rfl, le, S97, h_s23⟩)))))))))
 refine yaa (yo (yq ?_))
 obtain rfl := hext9 _ (sj R1).symm
 exact yt (yc (ye nL2 (WO.vs 0 [(62, .map (some b5)), (2, .map (some b5))] (yb (yr (sj G ▸ yz ⟨I10, b5, C_s13, rfl, L11, S17.drop, h_s13⟩))))))
noncomputable def why_Why (p0 : qC) (p1 : By8) (p2 : Int) (p3 : By8) : Option ((List qG) × Bool) := (why_asked_owns (⟨p0, p2, p3⟩ : why_asked) p1).bind (fun r17 => (bif r17 then some (([] : List qG), true) else (why_asked_dists (⟨p0, p2, p3⟩ : why_asked)).bind (fun r26 => (loopO (fun (s : By8 × (List qG) × Bool) => match s with | (s30, s31, s32) => (why_asked_owns (⟨p0, p2, p3⟩ : why_asked) s30).bind (fun r48 => (bif (!r48) then (why_asked_step (⟨p0, p2, p3⟩ : why_asked) r26 s30 s32).bind (fun (r55, r56) => (bif (decide (r55 < 0)) then some (.inr (.inl (([] : List qG), false))) else (idx p0.Grants r55).bind (fun x67 => (app 64 s31 ([x67] : List qG)).bind (fun x76 => (idx p0.Grants r55).bind (fun x85 => some (.inl (x85.By, x76, true))))))) else some (.inr (.inr s31))))) (p1, ([] : List qG), false)).bind (fun (t : ((List qG) × Bool) ⊕ (List qG)) => match t with | (.inl (s58, s59)) => some (s58, s59) | (.inr s90) => some (s90, true)))))
theorem why_Why_ok {p0 : qC} {p1 : By8} {p2 : Int} {p3 : By8} {w_p0 : W_qC} (h_p0 : ok_qC I p0 w_p0) (hS : St E w I Os) {r : (List qG) × Bool} (G : why_Why p0 p1 p2 p3 = some r) :
    Calls P 15 #[(vC p0 w_p0), (.string p1), (Iv p2), (.string p3)] w (fun e w' => ∃ (I' : Mem) (ra0 : Option Addr) (rc0 : Nat), e = .returned (.tuple #[(Sl ra0 r.1 rc0), (.bool r.2)]) ∧ I.Le I' ∧ St E w' I' Os ∧ RSl 5 R_qG I' ra0 rc0 r.1) := by
 refine calls_W (fn := Tryz.f15) rfl rfl rfl ?_
 unfold why_Why at G
 refine ye nL3 (y8 hS (cs_qC p0 w_p0) 33 z fun b1 w4 S3 => yab 1 8 (.slice none 0 0) (ya 2 1 z (y7 nL6 (y3 ((cs_qC p0 w_p0)) (S3.rf m0) z (ya 1 2 z (yab 3 19 (.agg (cs_why_asked (⟨p0, p2, p3⟩ : why_asked) (⟨w_p0⟩ : W_why_asked)).toArray) (y8 S3 (cs_why_asked z_why_asked zw_why_asked) 79 z fun b5 w8 S7 => y4 S7 0 (cs_why_asked (⟨p0, p2, p3⟩ : why_asked) (⟨w_p0⟩ : W_why_asked)) fun w10 S9 => yb (W.seq (ye nL3 (y3 ((cs_why_asked (⟨p0, p2, p3⟩ : why_asked) (⟨w_p0⟩ : W_why_asked))) (S9.rf m0) z (ya 1 1 z ?_)))))))))))
 have hk11 : ok_why_asked I (⟨p0, p2, p3⟩ : why_asked) (⟨w_p0⟩ : W_why_asked) := ⟨h_p0⟩
 refine bsk G fun r17 Xr12 G => WO.c1 (why_asked_owns_ok hk11 S9 Xr12) z fun I14 w13 L15 S16 => yb (y0 G (fun H G => ?_) (fun H G => ?_))
 exact ye nL2 (yab 0 8 (.slice none 0 0) (ya 1 1 z (yb (yr (yf (sj G ▸ yay ⟨I14, none, 0, rfl, L15, S16.d2, SlAt.nil⟩))))))
 refine yk (yc (ye nL3 (y3 ((cs_why_asked (⟨p0, p2, p3⟩ : why_asked) (⟨w_p0⟩ : W_why_asked))) (S16.rf m0) z ?_)))
 have hk20 : ok_why_asked I14 (⟨p0, p2, p3⟩ : why_asked) (⟨w_p0⟩ : W_why_asked) := ⟨(h_p0.mono L15)⟩
 refine bsk G fun r26 Xr21 G => yai (why_asked_dists_ok hk20 S16 Xr21) ?_
 rintro _ w22 ⟨I23, m_r26, C_r26, rfl, L24, S25, h_r26⟩
 refine cv (yab 2 11 (.map (some m_r26)) (y7 [0] (yab 0 12 (.slice none 0 0) (yb (W.seq (ye [0] (ya 0 1 z (yb (yn (bsk G fun t27 hloop33 G => W.wk (ya6 hloop33 (fun (s : By8 × (List qG) × Bool) fr w => match s with | (s30, s31, s32) => ∃ I28 a_s31 c_s31 C_s31, fr = [(1, .string s30), (4, Pt b1 0), (10, Pt b5 0), (11, .map (some m_r26)), (12, Sl a_s31 s31 c_s31), (13, .bool s32)] ∧ I23.Le I28 ∧ St E w I28 (bC b1 p0 w_p0 :: (Bx b5 (cs_why_asked (⟨p0, p2, p3⟩ : why_asked) (⟨w_p0⟩ : W_why_asked)) 79) :: (C_r26) :: (C_s31) :: Os) ∧ OwnSl 50 5 R_qG I28 C_s31 a_s31 c_s31 s31) ⟨I23, none, 0, Mem.no, rfl, lr, S25.no.front1.front2.front3, OwnSl.nil⟩ ?_)))))))))))
 rintro ⟨s30, s31, s32⟩ _ w39 ⟨I28, a_s31, c_s31, C_s31, rfl, L29, S40, h_s31⟩ x41 R1 hext27
 refine W.seq (ye nL4 (y3 ((cs_why_asked (⟨p0, p2, p3⟩ : why_asked) (⟨w_p0⟩ : W_why_asked))) (S40.rf m1) z (ya 1 1 z ?_)))
 have hk42 : ok_why_asked I28 (⟨p0, p2, p3⟩ : why_asked) (⟨w_p0⟩ : W_why_asked) := ⟨(h_p0.mono ((L15.trans L24).trans L29))⟩
 refine bsk R1 fun r48 Xr43 R1 => WO.c1 (why_asked_owns_ok hk42 S40 Xr43) z fun I45 w44 L46 S47 => ya 3 1 z (yb (y0 R1 (fun H R1 => ?_) (fun H R1 => ?_)))
 refine yk (yc (W.seq (yn (ye nL10 (y3 ((cs_why_asked (⟨p0, p2, p3⟩ : why_asked) (⟨w_p0⟩ : W_why_asked))) (S47.rf m1) z (yab 1 31 (.map (some m_r26)) (ya 2 2 z ?_)))))))
 have hk49 : ok_why_asked I45 (⟨p0, p2, p3⟩ : why_asked) (⟨w_p0⟩ : W_why_asked) := ⟨(h_p0.mono (((L15.trans L24).trans L29).trans L46))⟩
 obtain ⟨⟨r55, r56⟩, Xr50, R1⟩ := bsm R1
 refine WO.c1 (why_asked_step_ok hk49 (OwnMap.mono h_r26 le) m2 S47 Xr50) z fun I52 w51 L53 S54 => ya 5 5 z (yb (W.seq (ye nL2 (ya 0 2 z (yb (y0 R1 (fun H R1 => ?_) (fun H R1 => ?_)))))))
 refine ye nL2 (yab 0 8 (.slice none 0 0) (ya 1 1 z (yb (yr (yf (ym (yf (yu ?_))))))))
 obtain rfl := hext27 _ (sj R1).symm
 exact ym (yf (sj G ▸ yay ⟨I52, none, 0, rfl, le, S54.d4, SlAt.nil⟩))
 refine yk (yc (ye nL9 (yh 0 2 [3] z (yj (S54.rf m0) z (ya 3 1 z ?_)))))
 obtain ⟨x67, R1, Hx67, _, rfl, Zx67⟩ := sx I52 h_p0.Grants R1
 refine y6 50 5 Hx67 z (ya0 ((cs_qG x67)) Zx67 0 S54.rm z (yad (rel := R_qG) (xs := ([x67] : List qG)) S54 z kr z 50 5 [(cs_qG x67)] kr z ((Elr.cons z Elr.nil)) tv ?_))
 intro a71 C69 w73 S72 ho70
 have S75 := S72.front4
 refine apk R1 fun x76 h0_x76 he_x76 R1 => yaz 50 64 (cs_qG z_qG) S75 (OwnSl.mono h_s31 le) ho70.sl (S75.rd m1) h0_x76 he_x76 z fun a77 c78 w79 C80 S81 ho82 => have S84 := S81.front1.drop; ya 8 1 z (yb (yag nL7 (yh 0 1 [3] z (yj (S84.rf m1) z (ya 2 1 z ?_)))))
 obtain ⟨x85, R1, Hx85, _, rfl, Zx85⟩ := sx I52 h_p0.Grants R1
 exact y6 50 5 Hx85 z (yh 4 1 [1] z (yas Zx85 1 S84.rm z (ya 6 1 z (yp (yl (yc (yag [0] (ya 0 1 z (yp (yv ⟨(x85.By, x76, true), (sj R1).symm, I52, a77, c78, C80, rfl, le, S84.front3.front3.front3, ho82⟩))))))))))
 refine yaa (yo (yq ?_))
 obtain rfl := hext27 _ (sj R1).symm
 refine yt (yc (ye nL3 (ya 0 1 z ?_)))
 obtain ⟨I100, L101, S103, hp102⟩ := yac (h_s31.mono L46) S47.front3
 exact ya 1 2 z (yb (yr (sj G ▸ yay ⟨I100, a_s31, c_s31, rfl, le, S103.d3, hp102⟩)))
noncomputable def why_far (p0 : List qJ) (p1 : By8) : Option (List (By8 × Int)) := (member_Find p0 p1).bind (fun (r10, r11) => (bif (!r11) then some ([] : List (By8 × Int)) else (loopO (fun (s : Bool × (List (By8 × Int))) => match s with | (s27, s28) => (bif s27 then (forE (fun (i40 : Nat) (s : Bool × (List (By8 × Int))) => match s with | (s38, s39) => (idx p0 (i40 : Int)).bind (fun x47 => (member_Find p0 x47.Name).bind (fun (r59, r60) => (forE (fun (i73 : Nat) (s : Bool × (List (By8 × Int))) => match s with | (s71, s72) => (idx r59.In (i73 : Int)).bind (fun x82 => (some ((mget sEq s72 x82).getD 0)).bind (fun (x83 : Int) => (some ((mget sEq s72 x47.Name).getD 0)).bind (fun (x84 : Int) => (some ((mhas sEq s72 x82) && ((!(mhas sEq s72 x47.Name)) || (decide ((w64 (x83 + 1)) < x84))))).bind (fun (q87 : Bool) => ((bif q87 then some (true, (mset sEq s72 x47.Name (w64 (x83 + 1)))) else some (s71, s72))).bind (fun ((s100, s101) : Bool × (List (By8 × Int))) => some (s100, s101))))))) r59.In.length 0 (s38, s39)).bind (fun (s71, s72) => some (s71, s72))))) p0.length 0 (false, s28)).bind (fun (s38, s39) => some (.inl (s38, s39))) else some (.inr s28))) (true, (mset sEq ([] : List (By8 × Int)) p1 0))).bind (fun (s111 : List (By8 × Int)) => some s111)))
theorem why_far_ok {p0 : List qJ} {p1 : By8} {a_p0 : Option Addr} {c_p0 : Nat} (h_p0 : RSl 2 R_qJ I a_p0 c_p0 p0) (hS : St E w I Os) {r : (List (By8 × Int))} (G : why_far p0 p1 = some r) :
    Calls P 41 #[(Sl a_p0 p0 c_p0), (.string p1)] w (fun e w' => ∃ (I' : Mem) (rm0 : Nat) (rC0 : Mem), e = .returned (.map (some rm0)) ∧ I.Le I' ∧ St E w' I' (rC0 :: Os) ∧ OwnMap Value.string (val1 (RInt .i64)) I' rC0 rm0 r) := by
 refine calls_W (fn := Tryz.f41) rfl rfl rfl ?_
 unfold why_far at G
 refine ye [0] (yab 0 4 (.map none) (y7 nL2 (ybi hS z kr z (.map #[] 0) (fun b => .map (some b)) kr tv ?_)))
 intro b1 w4 S3
 refine yab 1 5 (.map (some b1)) (yb (W.seq (ye nL9 (ya 0 2 z ?_))))
 obtain ⟨⟨r10, r11⟩, Xr5, G⟩ := bsm G
 refine yai (member_Find_ok h_p0 S3 Xr5) ?_
 rintro _ w6 ⟨I7, w_r10, rfl, L8, S9, h_r10⟩
 refine cv (ya 3 3 z (y8 S9 (cs_qJ z_qJ zw_qJ) 74 z fun b12 w15 S14 => y4 S14 0 (cs_qJ r10 w_r10) fun w17 S16 => ya 8 1 z (y7 nL2 (ya 0 2 z (yb (y0 G (fun H G => ?_) (fun H G => ?_)))))))
 exact ye nL2 (WO.vs 0 [(28, .map (some b1)), (4, .map (some b1))] (yb (yr (yf (sj G ▸ yz ⟨I7, b1, Gv.one b1 (.map #[] 0), rfl, L8, S16.drop, (OwnMap.mono (OwnMap.nil (enc := Value.string) (val := (val1 (RInt .i64))) (I := I) (m := b1)) L8)⟩)))))
 refine yk (yc (ye nL3 (yab 0 29 (.map (some b1)) (ya 1 1 z (WO.update (OwnMap.mono (OwnMap.nil (enc := Value.string) (val := (val1 (RInt .i64))) (I := I) (m := b1)) L8) S16.front1 (t := 88) (kt := 9) (et := 3) kr (keyLaw_str (kt := 9) kr) z kr z (.inl z) z p1 z z (xv := 0) z tv ?_)))))
 intro w22 C20 S21 hm23
 refine yb (W.seq (ye [0] (ya 0 1 z (yb (yn (bsk G fun t24 hloop29 G => W.wk (ya6 hloop29 (fun (s : Bool × (List (By8 × Int))) fr w => match s with | (s27, s28) => ∃ I25 C_s28, fr = [(0, Sl a_p0 p0 c_p0), (5, .map (some b1)), (8, .bool s27)] ∧ I7.Le I25 ∧ St E w I25 ((C_s28) :: Os) ∧ OwnMap Value.string (val1 (RInt .i64)) I25 C_s28 b1 s28) ⟨I7, C20, rfl, lr, S21.front1.drop, hm23⟩ ?_)))))))
 rintro ⟨s27, s28⟩ _ w32 ⟨I25, C_s28, rfl, L26, S33, h_s28⟩ x34 R1 hext24
 refine W.seq (ye [0] (ya 0 1 z (yb (y0 R1 (fun H R1 => ?_) (fun H R1 => ?_)))))
 refine yk (yc (yn (ye [0] (ya 0 1 z (y7 nL3 (ya 0 3 z (yb (yn ?_))))))))
 obtain ⟨⟨s38, s39⟩, hloop41, R1⟩ := bsm R1
 have hlt45 := ((RSl.mono h_p0 (L8.trans L26))).len_lt
 refine W.wk (yat (m := p0.length) hloop41 (fun (i40 : Nat) (s : Bool × (List (By8 × Int))) fr w => match s with | (s38, s39) => ∃ I36 C_s39, fr = [(0, Sl a_p0 p0 c_p0), (5, .map (some b1)), (8, .bool s38), (32, Sl a_p0 p0 c_p0), (33, Nv p0.length), (34, Nv i40)] ∧ I25.Le I36 ∧ St E w I36 ((C_s39) :: Os) ∧ OwnMap Value.string (val1 (RInt .i64)) I36 C_s39 b1 s39) ⟨I25, C_s28, rfl, lr, S33, h_s28⟩ ?_ ?_)
 rintro i40 ⟨s38, s39⟩ _ w42 hi46 ⟨I36, C_s39, rfl, L37, S43, h_s39⟩ x44 R2
 refine ye [0] (ya 0 1 z (yb (W.seq (yau fun _ => yk (yc (W.seq (yn (ye nL4 ?_))))))))
 obtain ⟨x47, R2, Hx47, _, ⟨w_x47, rfl, h_x47⟩, Zx47⟩ := sx I36 h_p0 R2
 refine y6 74 2 Hx47 z (ya0 ((cs_qJ x47 w_x47)) Zx47 0 S43.rm z (y8 S43 (cs_qJ z_qJ zw_qJ) 74 z fun b48 w51 S50 => y4 S50 0 (cs_qJ x47 w_x47) fun w53 S52 => y7 nL10 (yh 0 2 [0] z (yj (S52.rf m0) z ?_))))
 obtain ⟨⟨r59, r60⟩, Xr54, R2⟩ := bsm R2
 refine yai (member_Find_ok (up h_p0) S52 Xr54) ?_
 rintro _ w55 ⟨I56, w_r59, rfl, L57, S58, h_r59⟩
 refine cv (ya 4 3 z (y8 S58 (cs_qJ z_qJ zw_qJ) 74 z fun b61 w65 S63 => y4 S63 0 (cs_qJ r59 w_r59) fun w67 S66 => ya 9 1 z (y7 nL4 (yh 0 1 [1] z (yj (S66.rf m0) z (ya 2 2 z (yb (yn ?_))))))))
 obtain ⟨⟨s71, s72⟩, hloop74, R2⟩ := bsm R2
 have hlt80 := (h_r59.In).len_lt
 refine W.wk (yat (m := r59.In.length) hloop74 (fun (i73 : Nat) (s : Bool × (List (By8 × Int))) fr w => match s with | (s71, s72) => ∃ I69 C_s72, fr = [(0, Sl a_p0 p0 c_p0), (5, .map (some b1)), (8, .bool s71), (10, Pt b48 0), (32, Sl a_p0 p0 c_p0), (33, Nv p0.length), (34, Nv i40), (46, Sl w_r59.In.a r59.In w_r59.In.c), (47, Nv r59.In.length), (48, Nv i73)] ∧ I56.Le I69 ∧ St E w I69 ((C_s72) :: (bJ b48 x47 w_x47) :: Os) ∧ OwnMap Value.string (val1 (RInt .i64)) I69 C_s72 b1 s72) ⟨I56, C_s39, rfl, lr, S66.drop.front1, (OwnMap.mono h_s39 L57)⟩ ?_ ?_)
 rintro i73 ⟨s71, s72⟩ _ w77 hi81 ⟨I69, C_s72, rfl, L70, S78, h_s72⟩ x79 R3
 refine ye [0] (ya 0 1 z (yb (W.seq (yau fun _ => yk (yc (W.seq (yn (ye nL3 ?_))))))))
 obtain ⟨x82, R3, Hx82, _, rfl, Zx82⟩ := sx I69 h_r59.In R3
 refine y6 9 1 Hx82 z (yan Zx82 S78.rm z (ya 2 1 z (y7 nL8 (yab 0 53 (.map (some b1)) (ya 1 1 z ?_)))))
 obtain ⟨x83, Xx83, R3⟩ := bsm R3
 obtain ⟨v_x83, hv_x83, hq_x83⟩ := OwnMap.lookup h_s72 (t := 88) (kt := 9) (et := 3) kr (keyLaw_str (kt := 9) kr) x82 (zv := (Iv 0)) (z0 := 0) kr rfl
 rw [sj Xx83] at hv_x83
 obtain rfl := (List.cons.inj hv_x83).1
 refine WO.lookup z kr z z hq_x83 ((S78.rf m0)) (.tuple #[(Iv x83), (.bool (mhas sEq s72 x82))]) z ?_
 refine ya 3 5 z (y7 nL9 (yab 0 59 (.map (some b1)) (yh 1 1 [0] z (yj (S78.rf m1) z ?_))))
 obtain ⟨x84, Xx84, R3⟩ := bsm R3
 obtain ⟨v_x84, hv_x84, hq_x84⟩ := OwnMap.lookup h_s72 (t := 88) (kt := 9) (et := 3) kr (keyLaw_str (kt := 9) kr) x47.Name (zv := (Iv 0)) (z0 := 0) kr rfl
 rw [sj Xx84] at hv_x84
 obtain rfl := (List.cons.inj hv_x84).1
 refine WO.lookup z kr z z hq_x84 ((S78.rf m0)) (.tuple #[(Iv x84), (.bool (mhas sEq s72 x47.Name))]) z ?_
 refine ya 4 5 z (y7 nL11 (ya 0 2 z (bsq R3 fun q87 Xq87 R3 => yaq [2, 3, 4, 5, 6, 7, 8, 9] 10 66 75 Xq87 (fun _ => ya 2 3 z (ya5 [5, 6, 7, 8] 9 69 74 (.refl ((!(mhas sEq s72 x47.Name)) || (decide ((w64 (x83 + 1)) < x84)))) (fun _ => ya 5 5 z yaj) (ya 10 1 z yaj))) (yb (bsk R3 fun j92 R4 R3 => yaw (J := (fun fr w => ∃ (s100 : Bool) (s101 : List (By8 × Int)), ∃ I94 C_s101, (s100, s101) = j92 ∧ fr = [(0, Sl a_p0 p0 c_p0), (5, .map (some b1)), (8, .bool s100), (10, Pt b48 0), (32, Sl a_p0 p0 c_p0), (33, Nv p0.length), (34, Nv i40), (46, Sl w_r59.In.a r59.In w_r59.In.c), (47, Nv r59.In.length), (48, Nv i73)] ∧ I69.Le I94 ∧ St E w I94 ((C_s101) :: (bJ b48 x47 w_x47) :: Os) ∧ OwnMap Value.string (val1 (RInt .i64)) I94 C_s101 b1 s101)) ?_ ?_)))))
 refine y0 R4 (fun H R4 => ?_) (fun H R4 => ?_)
 refine ye nL6 (yab 0 76 (.map (some b1)) (yh 1 1 [0] z (yj (S78.rf m1) z (ya 3 2 z (WO.update h_s72 S78 (t := 88) (kt := 9) (et := 3) kr (keyLaw_str (kt := 9) kr) z kr z (.inl z) z x47.Name z z (xv := (w64 (x83 + 1))) z tv ?_)))))
 intro w98 C96 S97 hm99
 exact yb (yag [0] (ya 0 1 z (yp (yv ⟨true, (mset sEq s72 x47.Name (w64 (x83 + 1))), I69, C96, sj R4, rfl, lr, S97, hm99⟩))))
 exact yk (yv ⟨s71, s72, I69, C_s72, sj R4, rfl, lr, S78, h_s72⟩)
 rintro _ w102 ⟨s100, s101, I94, C_s101, rfl, rfl, L95, S103, h_s101⟩
 exact yl (yc (yag nL2 (yao i73 z (ya 1 1 z (yp (sj R3 ▸ yv ⟨I94, C_s101, rfl, le, S103, h_s101⟩))))))
 rintro _ w104 ⟨I69, C_s72, rfl, L70, S105, h_s72⟩
 exact ye [0] (ya 0 1 z (yb (W.seq (yav fun _ => yaa (yo (yq (yt (yl (yc (yag nL2 (yao i40 z (ya 1 1 z (yp (sj R2 ▸ yv ⟨I69, C_s72, rfl, le, S105.front1.drop, h_s72⟩))))))))))))))
 rintro _ w108 ⟨I36, C_s39, rfl, L37, S109, h_s39⟩
 exact ye [0] (ya 0 1 z (yb (W.seq (yav fun _ => yaa (yo (yq (yt (yl (yv ⟨(s38, s39), (sj R1).symm, I36, C_s39, rfl, le, S109, h_s39⟩)))))))))
 refine yaa (yo (yq ?_))
 obtain rfl := hext24 _ (sj R1).symm
 exact yt (yc (ye nL2 (WO.vs 0 [(83, .map (some b1)), (4, .map (some b1))] (yb (yr (sj G ▸ yz ⟨I25, b1, C_s28, rfl, le, S33, h_s28⟩))))))
def wayNext (l : List qJ) (dist : List (By8 × Int)) (nm : By8) : Option By8 := (member_Find l nm).bind (fun (r : qJ × Bool) => (forE (fun (i : Nat) (v : By8 × Bool) => match v with | (nx, fd) => (idx r.1.In (i : Int)).bind (fun x => (some ((mhas sEq dist x && ((mget sEq dist x).getD 0 == w64 ((mget sEq dist nm).getD 0 - 1))) && (!fd || sLt x nx))).bind (fun (q : Bool) => (bif q then some (x, true) else some (nx, fd)).bind (fun (v' : By8 × Bool) => some v')))) r.1.In.length 0 (eB, false)).bind (fun (v : By8 × Bool) => some v.1))
def wayStep {σ : Type} (l : List qJ) (dist : List (By8 × Int)) (y : σ → By8 → Option σ) (u : By8 × σ) : Option ((By8 × σ) ⊕ σ) :=
  match u with
  | (nm, s) => (y s nm).bind (fun s' => (bif decide ((mget sEq dist nm).getD 0 > 0) then (wayNext l dist nm).bind (fun nx => some (.inl (nx, s'))) else some (.inr s')))
set_option maxHeartbeats 2000000 in
theorem way1_ok {σ : Type} {R : Mem → σ → List Mem → Prop} {y : σ → By8 → Option σ} {E w : World} {I : Mem} {Os Ms : List Mem} {l : Nat} {p0 : List qJ} {dist : List (By8 × Int)} {name : By8} {s : σ} {a_p0 : Option Addr} {c_p0 m k1 k2 k3 : Nat} {Cm : Mem}
    (mono : ∀ {I J : Mem} {s : σ} {Ms : List Mem}, R I s Ms → I.Le J → R J s Ms) (h_p0 : RSl 2 R_qJ I a_p0 c_p0 p0) (h_m : OwnMap Value.string (val1 (RInt .i64)) I Cm m dist)
    (h_y : ∀ {F Ms : List Mem} {I' : Mem} {w : World} {n : By8} {s : σ}, I.Le I' → R I' s Ms → St E w I' (F ++ (Ms ++ Os)) → ∀ {r : σ}, y s n = some r → YieldAt Fence.wide 0 P l #[.string n] w (fun e w' => e = .returned (.bool true) ∧ ∃ I'' Ms', I'.Le I'' ∧ R I'' r Ms' ∧ St E w' I'' (F ++ (Ms' ++ Os))))
    (hs : R I s Ms) (hS : St E w I (Bx k1 [.string name] 9 :: Bx k2 [.map (some m)] 88 :: Bx k3 [Sl a_p0 p0 c_p0] 31 :: Cm :: (Ms ++ Os))) {r : σ} (G : loopO (wayStep p0 dist y) (name, s) = some r) :
    Calls P 62 #[.func (.yield l) #[] #[], Pt k1 0, Pt k2 0, Pt k3 0] w (fun e w' => (∃ v, e = .returned v) ∧ ∃ I' Ms', I.Le I' ∧ R I' r Ms' ∧ St E w' I' (Ms' ++ Os)) := by
 refine calls_W (fn := Tryz.f62) rfl rfl rfl ?_
 refine yn (W.wk (ya6 G (fun (u : By8 × σ) fr w => match u with | (nm, s) => ∃ I1 Ms1, fr = [(0, .func (.yield l) #[] #[]), (1, Pt k1 0), (2, Pt k2 0), (3, Pt k3 0)] ∧ I.Le I1 ∧ R I1 s Ms1 ∧ St E w I1 (Bx k1 [.string nm] 9 :: Bx k2 [.map (some m)] 88 :: Bx k3 [Sl a_p0 p0 c_p0] 31 :: Cm :: (Ms1 ++ Os))) ⟨I, Ms, rfl, lr, hs, hS⟩ ?_))
 rintro ⟨nm, s⟩ _ w1 ⟨I1, Ms1, rfl, L1, hs1, S1⟩ x R1 hext
 unfold wayStep at R1
 obtain ⟨s', hy, R1⟩ := bsm R1
 refine W.seq (W.seq (W.regionY (nL2 ++ [2, 3, 4, 5, 6, 7, 8]) (WY.of nL2 (ya 0 1 z (yj (S1.rf m0) z (WY.go (WY.yield (h_y (F := [Bx k1 [.string nm] 9, Bx k2 [.map (some m)] 88, Bx k3 [Sl a_p0 p0 c_p0] 31, Cm]) L1 hs1 S1 hy) ?_)))))))
 rintro _ w2 ⟨rfl, I2, Ms2, L2, hs2, S2⟩
 have S2 : St E w2 I2 (Bx k1 [.string nm] 9 :: Bx k2 [.map (some m)] 88 :: Bx k3 [Sl a_p0 p0 c_p0] 31 :: Cm :: (Ms2 ++ Os)) := S2
 refine ⟨_, rfl, WY.end' _ ?_⟩
 obtain ⟨v1, hv1, hq1⟩ := OwnMap.lookup (h_m.mono (L1.trans L2)) (t := 88) (kt := 9) (et := 3) kr (keyLaw_str (kt := 9) kr) nm (zv := (Iv 0)) (z0 := 0) kr rfl
 obtain ⟨x19, hx19⟩ : ∃ x : Int, (mget sEq dist nm).getD 0 = x := ⟨_, rfl⟩
 rw [hx19] at hv1 R1
 obtain rfl := (List.cons.inj hv1).1
 refine ya 3 1 z (yj (S2.rf m1) z (yj (S2.rf m0) z (WO.lookup z kr z z hq1 (S2.rf m3) (Iv x19) z (ya 7 2 z (yb (y0 R1 (fun H R1 => ?_) (fun H R1 => ?_)))))))
 refine yk (yc (yn ?_))
 obtain ⟨nx1, hn, R1⟩ := bsm R1
 unfold wayNext at hn
 obtain ⟨⟨r10, r11⟩, Xr, hn⟩ := bsm hn
 obtain ⟨⟨nx2, fd2⟩, hloop, hn⟩ := bsm hn
 refine ye nL9 (yj (S2.rf m2) z (yj (S2.rf m0) z (yai (member_Find_ok (up h_p0) S2 Xr) ?_)))
 rintro _ w6 ⟨I7, w_r10, rfl, L8, S9, h_r10⟩
 refine cv (ya 3 3 z (y8 S9 (cs_qJ z_qJ zw_qJ) 74 z fun b12 w15 S14 => y4 S14 0 (cs_qJ r10 w_r10) fun w17 S16 => ya 8 1 z (y7 nL2 (ya 0 2 z (yb (W.seq (ye nL4 (yh 0 1 [1] z (yj (S16.rf m0) z (ya 2 2 z (yb (yn ?_))))))))))))
 have hlt := (h_r10.In).len_lt
 refine W.wk (yat (m := r10.In.length) hloop (fun (i : Nat) (v : By8 × Bool) fr w => match v with | (nx, fd) => ∃ I8, fr = [(0, .func (.yield l) #[] #[]), (1, Pt k1 0), (2, Pt k2 0), (3, Pt k3 0), (7, .string nx), (8, .bool fd), (29, Sl w_r10.In.a r10.In w_r10.In.c), (30, Nv r10.In.length), (31, Nv i)] ∧ I7.Le I8 ∧ St E w I8 (Bx k1 [.string nm] 9 :: Bx k2 [.map (some m)] 88 :: Bx k3 [Sl a_p0 p0 c_p0] 31 :: Cm :: (Ms2 ++ Os))) ⟨I7, rfl, lr, S16.drop⟩ ?_ ?_)
 rintro i ⟨nx, fd⟩ _ w20 hi ⟨I8, rfl, L9, S20⟩ x20 R2
 refine ye [0] (ya 0 1 z (yb (W.seq (yau fun _ => yk (yc (W.seq (yn (ye nL3 ?_))))))))
 obtain ⟨x, R2, Hx, _, rfl, Zx⟩ := sx I8 h_r10.In R2
 refine y6 9 1 Hx z (yan Zx S20.rm z (ya 2 1 z (y7 nL8 (yj (S20.rf m1) z (ya 1 1 z ?_)))))
 obtain ⟨v2, hv2, hq2⟩ := OwnMap.lookup (h_m.mono ((L1.trans L2).trans (L8.trans L9))) (t := 88) (kt := 9) (et := 3) kr (keyLaw_str (kt := 9) kr) x (zv := (Iv 0)) (z0 := 0) kr rfl
 obtain ⟨x38, hx38⟩ : ∃ y : Int, (mget sEq dist x).getD 0 = y := ⟨_, rfl⟩
 rw [hx38] at hv2 R2
 obtain rfl := (List.cons.inj hv2).1
 obtain ⟨v3, hv3, hq3⟩ := OwnMap.lookup (h_m.mono ((L1.trans L2).trans (L8.trans L9))) (t := 88) (kt := 9) (et := 3) kr (keyLaw_str (kt := 9) kr) nm (zv := (Iv 0)) (z0 := 0) kr rfl
 rw [hx19] at hv3 R2
 obtain rfl := (List.cons.inj hv3).1
 refine WO.lookup z kr z z hq2 (S20.rf m3) (.tuple #[(Iv x38), (.bool (mhas sEq dist x))]) z ?_
 obtain ⟨q1, hq1'⟩ : ∃ q, (mhas sEq dist x && (x38 == w64 (x19 - 1))) = q := ⟨_, rfl⟩
 rw [hq1'] at R2
 refine ya 3 5 z (y7 nL18 (ya 0 2 z (bsq R2 fun q Xq R2 => yaq [2, 3, 4, 5, 6, 7] 8 42 49 hq1' (fun _ => ya 2 1 z (yj (S20.rf m1) z (yj (S20.rf m0) z (WO.lookup z kr z z hq3 (S20.rf m3) (Iv x19) z (ya 6 3 z yaj)))))
  (ya 9 1 rfl (yaq [10, 11, 12, 13, 14, 15, 16] 17 50 58 Xq (fun _ => ya 10 3 rfl (ya5 [13, 14, 15] 16 53 57 (.refl (!fd || sLt x nx)) (fun _ => ya 13 2 rfl (yab 15 56 (.bool (sLt x nx)) (ya 16 1 rfl yaj))) (ya 17 1 rfl yaj))) (yb ?_))))))
 obtain ⟨⟨nx', fd'⟩, R3, R2⟩ := bsm R2
 refine yaw (J := (fun fr w => fr = [(0, .func (.yield l) #[] #[]), (1, Pt k1 0), (2, Pt k2 0), (3, Pt k3 0), (7, .string nx'), (8, .bool fd'), (29, Sl w_r10.In.a r10.In w_r10.In.c), (30, Nv r10.In.length), (31, Nv i)] ∧ St E w I8 (Bx k1 [.string nm] 9 :: Bx k2 [.map (some m)] 88 :: Bx k3 [Sl a_p0 p0 c_p0] 31 :: Cm :: (Ms2 ++ Os)))) ?_ ?_
 refine y0 R3 (fun H R3 => ?_) (fun H R3 => ?_)
 cases sj R3
 exact yag nL3 (ya 0 3 z (yp (yv ⟨rfl, S20⟩)))
 cases sj R3
 exact yk (yv ⟨rfl, S20⟩)
 rintro _ w22 ⟨rfl, S22⟩
 exact yl (yc (yag nL2 (yao i z (ya 1 1 z (yp (sj R2 ▸ yv ⟨I8, rfl, L9, S22⟩))))))
 rintro _ w20 ⟨I8, rfl, L9, S20⟩
 refine ye [0] (ya 0 1 z (yb (W.seq (yav fun _ => yaa (yo (yq (yt (yc (yag nL2 (ya 0 1 z (y4 S20 0 [.string nx2] fun w23 S23 => yp ?_)))))))))))
 obtain rfl := sj hn
 exact yl (yv ⟨(nx2, s'), (sj R1).symm, I8, Ms2, rfl, le, mono hs2 le, S23⟩)
 refine yaa (yo (yq (yt (En.end0 z ?_))))
 obtain rfl := hext _ (sj R1).symm
 exact ⟨⟨_, rfl⟩, I2, Ms2, le, hs2, S2.d4⟩
theorem perm_in {A B Os : List Mem} {x : Mem} : (A ++ (B ++ (x :: Os))).Perm (x :: (B ++ (A ++ Os))) := by
  rw [← List.append_assoc, ← List.append_assoc]
  exact List.perm_middle.trans (List.Perm.cons _ (List.perm_append_comm.append_right Os))
theorem way_ok {p0 : List qJ} {a_p0 : Option Addr} {c_p0 m : Nat} {name : By8} (hS : St E w I Os) :
    Calls P 42 #[Sl a_p0 p0 c_p0, .map (some m), .string name] w (fun e w' => ∃ k1 k2 k3, e = .returned (.func (.func 62) #[] #[Pt k1 0, Pt k2 0, Pt k3 0]) ∧ St E w' I (Bx k1 [.string name] 9 :: Bx k2 [.map (some m)] 88 :: Bx k3 [Sl a_p0 p0 c_p0] 31 :: Os)) := by
 refine calls_W (fn := Tryz.f42) rfl rfl rfl ?_
 refine ye nL4 (y8 hS [Sl a_p0 p0 c_p0] 31 z fun k3 w3 S3 => y8 S3 [.map (some m)] 88 z fun k2 w2 S2 => y8 S2 [.string name] 9 z fun k1 w1 S1 => yab 3 6 .nilFunc (y7 nL2 (yab 0 7 (.func (.func 62) #[] #[Pt k1 0, Pt k2 0, Pt k3 0]) (yab 1 6 (.func (.func 62) #[] #[Pt k1 0, Pt k2 0, Pt k3 0]) (yb (yr (yz ⟨k1, k2, k3, rfl, S1⟩)))))))
def ROw (kb : Nat) (I : Mem) (s : List By8) (Ms : List Mem) : Prop := ∃ a c C, Ms = [Bx kb [.slice a s.length c] 41, C] ∧ OwnSl 9 1 RStr I C a c s
theorem ROw.mono {kb : Nat} {I J : Mem} {s : List By8} {Ms : List Mem} (h : ROw kb I s Ms) (hl : I.Le J) : ROw kb J s Ms := by
  obtain ⟨a, c, C, e, ho⟩ := h
  exact ⟨a, c, C, e, ho.mono hl⟩
noncomputable def why_Path (p0 : List qJ) (p1 p2 : By8) : Option (List By8) := (why_far p0 p2).bind (fun dist => bif !(mhas sEq dist p1) then some [] else loopO (wayStep p0 dist (fun (s : List By8) (n : By8) => app 16 s [n])) (p1, []))
set_option maxHeartbeats 2000000 in
theorem why_Path_ok {p0 : List qJ} {p1 p2 : By8} {a_p0 : Option Addr} {c_p0 : Nat} (h_p0 : RSl 2 R_qJ I a_p0 c_p0 p0) (hS : St E w I Os) {r : List By8} (G : why_Path p0 p1 p2 = some r) :
    Calls P 19 #[Sl a_p0 p0 c_p0, .string p1, .string p2] w (fun e w' => ∃ (I' : Mem) (ra0 : Option Addr) (rc0 : Nat), e = .returned (Sl ra0 r rc0) ∧ I.Le I' ∧ St E w' I' Os ∧ RSl 1 RStr I' ra0 rc0 r) := by
 refine calls_WM (fn := Tryz.f19) rfl rfl rfl ?_
 unfold why_Path at G
 refine bsk G fun dist hx G => ye [0] (yab 0 6 (.slice none 0 0) (y7 nL4 (ya 0 2 z (yai (why_far_ok h_p0 hS hx) ?_))))
 rintro _ w2 ⟨I2, m, Cm, rfl, L2, S2, h_m⟩
 refine cv (yab 3 7 (.map (some m)) (yb (W.seq (ye nL8 (yab 0 16 (.map (some m)) (ya 1 1 z ?_))))))
 obtain ⟨v1, hv1, hq1⟩ := OwnMap.lookup h_m (t := 88) (kt := 9) (et := 3) kr (keyLaw_str (kt := 9) kr) p1 (zv := (Iv 0)) (z0 := 0) kr rfl
 obtain ⟨x1, hx1⟩ : ∃ x : Int, (mget sEq dist p1).getD 0 = x := ⟨_, rfl⟩
 rw [hx1] at hv1
 obtain rfl := (List.cons.inj hv1).1
 refine WO.lookup z kr z z hq1 (S2.rf m0) (.tuple #[(Iv x1), (.bool (mhas sEq dist p1))]) z (ya 3 5 z (y7 nL2 (ya 0 2 z (yb (y0 G (fun H G => ?_) (fun H G => ?_))))))
 exact sj G ▸ ye [0] (yab 0 6 (.slice none 0 0) (yb (yr (yf (markRet0 ⟨I2, none, 0, rfl, L2, S2.drop, SlAt.nil⟩)))))
 refine yk (yc (ye [0] (y8 S2 [.slice none 0 0] 41 z fun b10 w5 S5 => yb (W.seq (ye nL4 (ya 0 1 z (yab 1 24 (.map (some m)) (ya 2 1 z (yai (way_ok (p0 := p0) (a_p0 := a_p0) (c_p0 := c_p0) (m := m) (name := p1) S5) ?_)))))))))
 rintro _ w6 ⟨k1, k2, k3, rfl, S6⟩
 refine cv (yb (yn ?_))
 refine W.wk (fr' := [(10, Pt b10 0), (26, .func (.func 62) #[] #[Pt k1 0, Pt k2 0, Pt k3 0])]) (W.rangeF (gf := 62) (lb := [Pt k1 0, Pt k2 0, Pt k3 0]) (Φ := fun I3 Os3 => ∃ a c C, Os3 = Bx b10 [.slice a r.length c] 41 :: C :: Os ∧ OwnSl 9 1 RStr I3 C a c r ∧ I2.Le I3) S6.no (fun _ _ => by kernel_rfl) ?_ ?_)
 intro l D rec w1 hst hpe hag hp has hbo S1
 have S1' : St E w1 I2 (Bx k1 [.string p1] 9 :: Bx k2 [.map (some m)] 88 :: Bx k3 [Sl a_p0 p0 c_p0] 31 :: Cm :: ([Bx b10 [.slice none 0 0] 41, Mem.no] ++ (Gv.one l (.loop rec) :: Gv.one D (.deferred (some [])) :: Os))) := S1.front2.front6.front7.front7.front7.front7
 refine (way1_ok (R := ROw b10) ROw.mono (RSl.mono h_p0 L2) h_m ?_ ⟨none, 0, Mem.no, rfl, OwnSl.nil⟩ S1' G).mono ?_
 intro F Ms I' w' n s hl' hs' hSy r' hy
 obtain ⟨a, c, C, rfl, ho⟩ := hs'
 have hSr := hSy.perm perm_in
 refine ((roundW (fr1 := [(10, Pt b10 0), (11, .string n)]) (Φ := fun I3 Os3 => ∃ Ms', Os3 = Ms' ++ (F ++ (Gv.one D (.deferred (some [])) :: Os)) ∧ I'.Le I3 ∧ ROw b10 I3 r' Ms') hSr hst hpe hag hp (by decide) ?_ ?_)).mono ?_
 rw [has]
 exact WI.region [0] (ya 0 1 z (WO.weaken (yp fun a ha => ⟨rfl, rfl, ha⟩) (Sub.cons z (Sub.cons z Sub.nil))))
 intro w2' S2'
 have S3' : St E w2' I' (Gv.one l (.loop { rec with state := .busy }) :: Bx b10 [.slice a s.length c] 41 :: C :: (F ++ (Gv.one D (.deferred (some [])) :: Os))) := S2'
 refine (show ∀ {c : Code} {Q fr w}, rec.body = c → WI l P Tryz.f19.ntmps c Q fr w → WI l P Tryz.f19.ntmps rec.body Q fr w from fun e h => by rw [e]; exact h) hbo (WI.block (WI.region nL5 (yj (S3'.rf m1) z (ya 1 1 z (yad (rel := RStr) (xs := ([n] : List By8)) S3' rfl kr z 9 1 [[(.string n)]] kr z ((Elr.cons z Elr.nil)) tv ?_)))))
 intro a6 C6 w6' S6' ho6
 have S7 := S6'.front3
 refine yaz 9 16 [(.string eB)] S7 ho ho6.sl (S7.rd m1) (app_some hy).1 (app_some hy).2 z fun a9 c9 w9 C9 S9 ho9 => ?_
 refine y4 S9.front3 0 [.slice a9 r'.length c9] fun w11 S11 => ?_
 exact yp (yl (fun b hb => ⟨rfl, I', _, ⟨[Bx b10 [.slice a9 r'.length c9] 41, C9], rfl, lr, a9, c9, C9, rfl, ho9⟩, S11.front3.front3.drop⟩))
 rintro e w4 ⟨he, I3, Os3, ⟨Ms', rfl, L3, hR⟩, S4⟩
 exact ⟨he, I3, Ms', L3, hR, S4.perm perm_in.symm⟩
 rintro e w' ⟨hv, I', Ms', hl', ⟨a, c, C, rfl, ho⟩, hS'⟩
 have S2' : St E w' I' (Bx b10 [.slice a r.length c] 41 :: C :: Gv.one l (.loop rec) :: Gv.one D (.deferred (some [])) :: Os) := hS'
 exact ⟨hv, I', _, ⟨a, c, C, rfl, ho, hl'⟩, S2'.front3.front3⟩
 rintro D a w3 I3 Os3 hd hag ⟨a', c', C', rfl, ho, L3⟩ S3
 show (Code.seq (.region _ _ false) .ret).wp P _ a w3
 refine region_ret nL2 (Q' := fun e b w' => e = .normal ∧ Ag Tryz.f19.ntmps [(6, Sl a' r c')] b ∧ w' = w3) (yj (S3.rf m1) z (ya 1 1 z (WO.weaken (yp fun b hb => ⟨rfl, hb, rfl⟩) (Sub.cons z Sub.nil)))) ?_ kr a hd hag
 rintro b w' ⟨_, hb, rfl⟩ b' hd' ht'
 have hb' : Ag Tryz.f19.ntmps [(6, Sl a' r c')] { b' with defers := [] } := ⟨rfl, by show b'.tmps.size = _; rw [ht']; exact hb.size, fun i v hi => by show b'.tmps.getD i undef = v; rw [ht']; exact hb.slots i v hi⟩
 refine markRet hd' hb' S3 (fun w4 S4 => ?_)
 obtain ⟨I5, L5, S5', hp5⟩ := yac ho S4.drop
 exact ⟨I5, a', c', rfl, (L2.trans L3).trans L5, S5', hp5⟩
noncomputable def why_Check (p0 : qC) (p1 : By8) (p2 : Int) (p3 : By8) (p4 : List qG) : Option Bool := (forN (fun (i15 : Nat) (s14 : By8) => (idx p4 (i15 : Int)).bind (fun x23 => (why_asked_fits (⟨p0, p2, p3⟩ : why_asked) x23 (decide ((i15 : Int) > 0))).bind (fun r36 => ((bif (!r36) then some true else (member_Is p0.Roles s14 x23.To).bind (fun r48 => some (!r48)))).bind (fun (j37 : Bool) => (bif j37 then some (.inr false) else some (.inl x23.By)))))) p4.length 0 p1).bind (fun (t : By8 ⊕ (Bool)) => match t with | .inl s14 => (why_asked_owns (⟨p0, p2, p3⟩ : why_asked) s14).bind (fun r70 => some r70) | .inr s54 => some s54)
theorem why_Check_ok {p0 : qC} {p1 : By8} {p2 : Int} {p3 : By8} {p4 : List qG} {w_p0 : W_qC} {a_p4 : Option Addr} {c_p4 : Nat} (h_p0 : ok_qC I p0 w_p0) (h_p4 : RSl 5 R_qG I a_p4 c_p4 p4) (hS : St E w I Os) {r : Bool} (G : why_Check p0 p1 p2 p3 p4 = some r) :
    Calls P 13 #[(vC p0 w_p0), (.string p1), (Iv p2), (.string p3), (Sl a_p4 p4 c_p4)] w (RT E I Os (.bool r)) := by
 refine calls_W (fn := Tryz.f13) rfl rfl rfl ?_
 unfold why_Check at G
 refine ye nL2 (y8 hS (cs_qC p0 w_p0) 33 z fun b1 w4 S3 => ya 1 1 z (y7 nL6 (y3 ((cs_qC p0 w_p0)) (S3.rf m0) z (ya 1 2 z (yab 3 17 (.agg (cs_why_asked (⟨p0, p2, p3⟩ : why_asked) (⟨w_p0⟩ : W_why_asked)).toArray) (y8 S3 (cs_why_asked z_why_asked zw_why_asked) 79 z fun b5 w8 S7 => y4 S7 0 (cs_why_asked (⟨p0, p2, p3⟩ : why_asked) (⟨w_p0⟩ : W_why_asked)) fun w10 S9 => yb (W.seq (ye nL3 (ya 0 3 z (yb (yn (bsk G fun t11 hloop16 G => have hlt21 := (h_p4).len_lt; W.wk (yar (m := p4.length) hloop16 (fun (i15 : Nat) (s14 : By8) => JI E I [(1, .string s14), (5, Pt b1 0), (11, Pt b5 0), (18, Sl a_p4 p4 c_p4), (19, Nv p4.length), (20, Nv i15)] (bC b1 p0 w_p0 :: (Bx b5 (cs_why_asked (⟨p0, p2, p3⟩ : why_asked) (⟨w_p0⟩ : W_why_asked)) 79) :: Os)) ⟨I, rfl, lr, S9.front1⟩ ?_ ?_)))))))))))))
 rintro i15 s14 _ w18 hi22 ⟨I12, rfl, L13, S19⟩ x20 R1 hext11
 refine ye [0] (ya 0 1 z (yb (W.seq (yau fun _ => yk (yc (W.seq (yn (ye nL6 (ya 0 1 z ?_)))))))))
 obtain ⟨x23, R1, Hx23, _, rfl, Zx23⟩ := sx I12 h_p4 R1
 refine y6 50 5 Hx23 z (ya0 ((cs_qG x23)) Zx23 0 S19.rm z (y8 S19 (cs_qG z_qG) 50 z fun b24 w27 S26 => ya 4 1 z (y4 S26 0 (cs_qG x23) fun w29 S28 => yb (W.seq (ye nL15 (y3 ((cs_why_asked (⟨p0, p2, p3⟩ : why_asked) (⟨w_p0⟩ : W_why_asked))) (S28.rf m2) z (y3 ((cs_qG x23)) (S28.rf m0) z (ya 2 2 z ?_))))))))
 have hk30 : ok_why_asked I12 (⟨p0, p2, p3⟩ : why_asked) (⟨w_p0⟩ : W_why_asked) := ⟨(h_p0.mono L13)⟩
 refine bsk R1 fun r36 Xr31 R1 => WO.c1 (why_asked_fits_ok hk30 S28 Xr31) z fun I33 w32 L34 S35 => ya 5 2 z (bsk R1 fun j37 R2 R1 => yam (l1 := [7, 8, 9, 10, 11, 12, 13, 14]) (J := JI E I33 [(5, Pt b1 0), (11, Pt b5 0), (13, Pt b24 0), (18, Sl a_p4 p4 c_p4), (19, Nv p4.length), (20, Nv i15), (39, .bool j37)] (bC b1 p0 w_p0 :: (Bx b5 (cs_why_asked (⟨p0, p2, p3⟩ : why_asked) (⟨w_p0⟩ : W_why_asked)) 79) :: (bG b24 x23) :: Os)) ?_ ?_)
 refine yal R2 (fun H R2 => ?_) (fun H R2 => ?_)
 refine yy 31 H ?_
 iterate 7 refine yak ?_
 exact ya 14 1 z (sj R2 ▸ yx ⟨I33, rfl, lr, S35.front2.front2⟩)
 exact yy 31 H (yh 7 1 [2] z (yj (S35.rf m1) z (yh 9 2 [0] z (yj (S35.rf m0) z (bsk R2 fun r48 Xr43 R2 => WO.c1 (member_Is_ok (up h_p0.Roles) S35 Xr43) z fun I45 w44 L46 S47 => ya 13 2 z (sj R2 ▸ yx ⟨I45, rfl, L46, S47.front2.front2⟩))))))
 rintro _ w51 ⟨I39, rfl, L40, S52⟩
 refine yb (y0 R1 (fun H R1 => ?_) (fun H R1 => ?_))
 refine ye [0] (ya 0 1 z (yb (yr (yf (ym (yf (yu ?_)))))))
 obtain rfl := hext11 _ (sj R1).symm
 exact ym (yf (sj G ▸ yz ⟨I39, rfl, le, S52.d3⟩))
 exact yk (yc (yag nL3 (yh 0 1 [1] z (yj (S52.rf m2) z (ya 2 1 z (yp (yl (yc (yag nL2 (yao i15 z (ya 1 1 z (yp (yv ⟨x23.By, (sj R1).symm, I39, rfl, le, S52.front2.drop⟩)))))))))))))
 rintro s14 _ w62 ⟨I12, rfl, L13, S63⟩ he
 cases he
 refine ye [0] (ya 0 1 z (yb (W.seq (yav fun _ => yaa (yo (yq (yt (yc (ye nL4 (y3 ((cs_why_asked (⟨p0, p2, p3⟩ : why_asked) (⟨w_p0⟩ : W_why_asked))) (S63.rf m1) z (ya 1 1 z ?_)))))))))))
 have hk64 : ok_why_asked I12 (⟨p0, p2, p3⟩ : why_asked) (⟨w_p0⟩ : W_why_asked) := ⟨(h_p0.mono L13)⟩
 exact bsk G fun r70 Xr65 G => WO.c1 (why_asked_owns_ok hk64 S63 Xr65) z fun I67 w66 L68 S69 => ya 3 1 z (yb (yr (sj G ▸ yz ⟨I67, rfl, le, S69.d2⟩)))
def law32_works_1 (p0 : By8) (p1 : By8) : Option law19_Act := some (⟨{ z_qS with Kind := 14, Table := (⟨#[116]⟩ : By8), Role := p1, Priv := 1, Option := true }, p0⟩ : law19_Act)
theorem law32_works_1_ok {p0 : By8} {p1 : By8} (hS : St E w I Os) {r : law19_Act} (G : law32_works_1 p0 p1 = some r) :
    Calls P 31 #[(.string p0), (.string p1)] w (fun e w' => ∃ I' w_rw0, e = .returned (.agg (cs_law19_Act r w_rw0).toArray) ∧ I.Le I' ∧ St E w' I' Os ∧ ok_law19_Act I' r w_rw0) := by
 refine calls_W (fn := Tryz.f31) rfl rfl rfl ?_
 unfold law32_works_1 at G
 refine ye [0] (y8 hS (cs_law19_Act z_law19_Act zw_law19_Act) 71 z fun b1 w4 S3 => y7 nL5 (ya 0 1 z (yab 1 6 (.agg (cs_qS ({ z_qS with Kind := 14, Table := (⟨#[116]⟩ : By8), Role := p1, Priv := 1, Option := true }) zw_qS).toArray) (ya 2 1 z (yab 3 8 (.agg (cs_law19_Act (⟨{ z_qS with Kind := 14, Table := (⟨#[116]⟩ : By8), Role := p1, Priv := 1, Option := true }, p0⟩ : law19_Act) (⟨zw_qS⟩ : W_law19_Act)).toArray) (y4 S3 0 (cs_law19_Act (⟨{ z_qS with Kind := 14, Table := (⟨#[116]⟩ : By8), Role := p1, Priv := 1, Option := true }, p0⟩ : law19_Act) (⟨zw_qS⟩ : W_law19_Act)) fun w6 S5 => yb (yr ?_)))))))
 have hk8 : ok_law19_Act I (⟨{ z_qS with Kind := 14, Table := (⟨#[116]⟩ : By8), Role := p1, Priv := 1, Option := true }, p0⟩ : law19_Act) (⟨zw_qS⟩ : W_law19_Act) := ⟨⟨SlAt.nil, SlAt.nil, SlAt.nil, SlAt.nil, zok_qS.Where, SlAt.nil, SlAt.nil, SlAt.nil⟩⟩
 exact sj G ▸ En.c1 _ (S5.rd m0) ⟨I, (⟨zw_qS⟩ : W_law19_Act), rfl, lr, S5.drop, hk8⟩
noncomputable def law32_works  : Option Bool := (law32_works_1 (⟨#[97, 110, 110]⟩ : By8) (⟨#[98, 111, 98]⟩ : By8)).bind (fun r6 => (law32_works_1 (⟨#[98, 111, 98]⟩ : By8) (⟨#[99, 121]⟩ : By8)).bind (fun r12 => (law19_Grown ([r6, r12] : List law19_Act)).bind (fun r29 => (why_Why r29 (⟨#[99, 121]⟩ : By8) 1 (⟨#[116]⟩ : By8)).bind (fun (r41, r42) => (why_Path ([(⟨(⟨#[97]⟩ : By8), ([(⟨#[98]⟩ : By8)] : List By8)⟩ : qJ), { z_qJ with Name := (⟨#[98]⟩ : By8) }] : List qJ) (⟨#[97]⟩ : By8) (⟨#[98]⟩ : By8)).bind (fun r72 => ((bif (r42 && ((r41.length : Int) == 2)) then (idx r41 0).bind (fun x79 => some (sEq x79.By (⟨#[98, 111, 98]⟩ : By8))) else some false)).bind (fun (j75 : Bool) => ((bif j75 then (idx r41 1).bind (fun x86 => some (sEq x86.By (⟨#[97, 110, 110]⟩ : By8))) else some false)).bind (fun (j82 : Bool) => ((bif j82 then (why_Check r29 (⟨#[99, 121]⟩ : By8) 1 (⟨#[116]⟩ : By8) r41).bind (fun r98 => some r98) else some false)).bind (fun (j89 : Bool) => some (j89 && ((r72.length : Int) == 2))))))))))
theorem law32_works_ok (hS : St E w I Os) {r : Bool} (G : law32_works = some r) :
    Calls P 11 #[] w (RT E I Os (.bool r)) := by
 refine calls_W (fn := Tryz.f11) rfl rfl rfl ?_
 unfold law32_works at G
 refine ye [0] (ya 0 1 z (y7 [0] (yab 0 1 (.func (.func 31) #[] #[]) (y7 nL8 (yab 0 6 (.func (.func 31) #[] #[]) (bsk G fun r6 Xr1 G => yai (law32_works_1_ok  hS Xr1) ?_))))))
 rintro _ w2 ⟨I3, w_r6, rfl, L4, S5, h_r6⟩
 refine cv (yab 2 8 (.func (.func 31) #[] #[]) (bsk G fun r12 Xr7 G => yai (law32_works_1_ok  S5 Xr7) ?_))
 rintro _ w8 ⟨I9, w_r12, rfl, L10, S11, h_r12⟩
 refine cv (yad (rel := R_law19_Act) (xs := ([r6, r12] : List law19_Act)) S11 z kr z 71 22 [(cs_law19_Act r6 w_r6), (cs_law19_Act r12 w_r12)] kr z ((Elr.cons ⟨w_r6, rfl, (h_r6.mono L10)⟩ (Elr.cons ⟨w_r12, rfl, h_r12⟩ Elr.nil))) tv ?_)
 intro a16 C14 w18 S17 ho15
 obtain ⟨I20, L21, S23, hp22⟩ := yac ho15 S17
 refine bsk G fun r29 Xr24 G => yai (law19_Grown_ok hp22 S23 Xr24) ?_
 rintro _ w25 ⟨I26, w_r29, rfl, L27, S28, h_r29⟩
 refine cv (y8 S28 (cs_qC z_qC zw_qC) 33 z fun b30 w33 S32 => y4 S32 0 (cs_qC r29 w_r29) fun w35 S34 => y7 nL7 (y3 ((cs_qC r29 w_r29)) (S34.rf m0) z ?_))
 obtain ⟨⟨r41, r42⟩, Xr36, G⟩ := bsm G
 refine yai (why_Why_ok h_r29 S34 Xr36) ?_
 rintro _ w37 ⟨I38, a_r41, c_r41, rfl, L39, S40, h_r41⟩
 refine cv (ya 2 5 z (y7 nL6 (yad (rel := RStr) (xs := ([(⟨#[98]⟩ : By8)] : List By8)) S40 z kr z 9 1 [[(.string (⟨#[98]⟩ : By8))]] kr z ((Elr.cons z Elr.nil)) tv ?_)))
 intro a46 C44 w48 S47 ho45
 obtain ⟨I50, L51, S53, hp52⟩ := yac ho45 S47
 refine WO.vs 1 [(18, .agg #[(.string (⟨#[97]⟩ : By8)), (.slice a46 1 1)]), (19, .agg (cs_qJ ({ z_qJ with Name := (⟨#[98]⟩ : By8) }) zw_qJ).toArray)] ?_
 have hk61 : ok_qJ I50 (⟨(⟨#[97]⟩ : By8), ([(⟨#[98]⟩ : By8)] : List By8)⟩ : qJ) (⟨⟨a46, 1⟩⟩ : W_qJ) := ⟨hp52⟩
 have hk62 : ok_qJ I50 ({ z_qJ with Name := (⟨#[98]⟩ : By8) }) zw_qJ := ⟨SlAt.nil⟩
 refine yad (rel := R_qJ) (xs := ([(⟨(⟨#[97]⟩ : By8), ([(⟨#[98]⟩ : By8)] : List By8)⟩ : qJ), { z_qJ with Name := (⟨#[98]⟩ : By8) }] : List qJ)) S53 z kr z 74 2 [[(.string (⟨#[97]⟩ : By8)), (.slice a46 1 1)], (cs_qJ ({ z_qJ with Name := (⟨#[98]⟩ : By8) }) zw_qJ)] kr z ((Elr.cons ⟨(⟨⟨a46, 1⟩⟩ : W_qJ), rfl, hk61⟩ (Elr.cons ⟨zw_qJ, rfl, hk62⟩ Elr.nil))) tv ?_
 intro a57 C55 w59 S58 ho56
 obtain ⟨I63, L64, S66, hp65⟩ := yac ho56 S58
 refine bsk G fun r72 Xr67 G => yai (why_Path_ok hp65 S66 Xr67) ?_
 rintro _ w68 ⟨I69, a_r72, c_r72, rfl, L70, S71, h_r72⟩
 refine cv (ya 5 1 z (y7 nL31 (ya 0 2 z (yaq [2, 3, 4] 5 23 27 (.refl (r42 && ((r41.length : Int) == 2))) (fun _ => ya 2 4 z yaj) (ya 6 1 z (bsk G fun j75 R1 G => yam (l1 := [7, 8, 9, 10, 11, 12]) (J := JI E I69 [(2, Pt b30 0), (3, Sl a_r41 r41 c_r41), (5, Sl a_r72 r72 c_r72), (34, .bool j75)] (bC b30 r29 w_r29 :: Os)) ?_ ?_))))))
 refine yal R1 (fun H R1 => ?_) (fun H R1 => ?_)
 refine yy 28 H (ya 7 1 z ?_)
 obtain ⟨x79, R1, Hx79, _, rfl, Zx79⟩ := sx I69 h_r41 R1
 exact y6 50 5 Hx79 z (yh 9 1 [1] z (yas Zx79 1 S71.rm z (ya 11 2 z (sj R1 ▸ yx ⟨I69, rfl, lr, S71⟩))))
 refine yy 28 H ?_
 iterate 5 refine yak ?_
 exact ya 12 1 z (sj R1 ▸ yx ⟨I69, rfl, lr, S71⟩)
 rintro _ w80 ⟨I77, rfl, L78, S81⟩
 refine ya 13 1 z (bsk G fun j82 R1 G => yam (l1 := [14, 15, 16, 17, 18, 19]) (J := JI E I77 [(2, Pt b30 0), (3, Sl a_r41 r41 c_r41), (5, Sl a_r72 r72 c_r72), (41, .bool j82)] (bC b30 r29 w_r29 :: Os)) ?_ ?_)
 refine yal R1 (fun H R1 => ?_) (fun H R1 => ?_)
 refine yy 35 H (ya 14 1 z ?_)
 obtain ⟨x86, R1, Hx86, _, rfl, Zx86⟩ := sx I77 h_r41 R1
 exact y6 50 5 Hx86 z (yh 16 1 [1] z (yas Zx86 1 S81.rm z (ya 18 2 z (sj R1 ▸ yx ⟨I77, rfl, lr, S81⟩))))
 refine yy 35 H ?_
 iterate 5 refine yak ?_
 exact ya 19 1 z (sj R1 ▸ yx ⟨I77, rfl, lr, S81⟩)
 rintro _ w87 ⟨I84, rfl, L85, S88⟩
 refine ya 20 1 z (bsk G fun j89 R1 G => yam (l1 := [21, 22, 23, 24]) (J := JI E I84 [(5, Sl a_r72 r72 c_r72), (46, .bool j89)] Os) ?_ ?_)
 refine yal R1 (fun H R1 => ?_) (fun H R1 => ?_)
 exact yy 42 H (y3 ((cs_qC r29 w_r29)) (S88.rf m0) z (ya 22 1 z (bsk R1 fun r98 Xr93 R1 => WO.c1 (why_Check_ok (h_r29.mono le) (up h_r41) S88 Xr93) z fun I95 w94 L96 S97 => ya 24 1 z (sj R1 ▸ yx ⟨I95, rfl, L96, S97.drop⟩))))
 refine yy 42 H ?_
 iterate 3 refine yak ?_
 exact ya 24 1 z (sj R1 ▸ yx ⟨I84, rfl, lr, S88.drop⟩)
 rintro _ w101 ⟨I91, rfl, L92, S102⟩
 exact ya 25 1 z (yaq [26, 27, 28] 29 47 51 (.refl (j89 && ((r72.length : Int) == 2))) (fun _ => ya 26 4 z yaj) (ya 30 1 z (yb (yr (sj G ▸ yz ⟨I91, rfl, le, S102⟩)))))
def why_IsPath (p0 : List qJ) (p1 : List By8) : Option Bool := (forN (fun (i4 : Nat) (_s : Unit) => (idx p1 (i4 : Int)).bind (fun x11 => (member_Find p0 x11).bind (fun (r17, r18) => ((bif (!r18) then some true else ((bif (decide ((w64 ((i4 : Int) + 1)) < (p1.length : Int))) then (idx p1 (w64 ((i4 : Int) + 1))).bind (fun x35 => (slices_Contains_string r17.In x35).bind (fun r41 => some (!r41))) else some false)).bind (fun (j31 : Bool) => some j31))).bind (fun (j27 : Bool) => (bif j27 then some (.inr false) else some (.inl ())))))) p1.length 0 ()).bind (fun (t : Unit ⊕ (Bool)) => match t with | .inl _ => some (decide ((p1.length : Int) > 0)) | .inr s47 => some s47)
theorem why_IsPath_ok {p0 : List qJ} {p1 : List By8} {a_p0 : Option Addr} {c_p0 : Nat} {a_p1 : Option Addr} {c_p1 : Nat} (h_p0 : RSl 2 R_qJ I a_p0 c_p0 p0) (h_p1 : RSl 1 RStr I a_p1 c_p1 p1) (hS : St E w I Os) {r : Bool} (G : why_IsPath p0 p1 = some r) :
    Calls P 20 #[(Sl a_p0 p0 c_p0), (Sl a_p1 p1 c_p1)] w (RT E I Os (.bool r)) := by
 refine calls_W (fn := Tryz.f20) rfl rfl rfl ?_
 unfold why_IsPath at G
 refine ye [0] (ya 0 1 z (yb (W.seq (ye nL3 (ya 0 3 z (yb (yn (bsk G fun t1 hloop5 G => have hlt9 := (h_p1).len_lt; W.wk (yar (m := p1.length) hloop5 (fun (i4 : Nat) (_s : Unit) => JI E I [(0, Sl a_p0 p0 c_p0), (1, Sl a_p1 p1 c_p1), (9, Sl a_p1 p1 c_p1), (10, Nv p1.length), (11, Nv i4)] Os) ⟨I, rfl, lr, hS⟩ ?_ ?_)))))))))
 rintro i4 _ _ w6 hi10 ⟨I2, rfl, L3, S7⟩ x8 R1 hext1
 refine ye [0] (ya 0 1 z (yb (W.seq (yau fun _ => yk (yc (W.seq (yn (ye nL5 (ya 0 1 z ?_)))))))))
 obtain ⟨x11, R1, Hx11, _, rfl, Zx11⟩ := sx I2 h_p1 R1
 refine y6 9 1 Hx11 z (yan Zx11 S7.rm z (ya 3 2 z (y7 nL9 (ya 0 2 z ?_))))
 obtain ⟨⟨r17, r18⟩, Xr12, R1⟩ := bsm R1
 refine yai (member_Find_ok (RSl.mono h_p0 L3) S7 Xr12) ?_
 rintro _ w13 ⟨I14, w_r17, rfl, L15, S16, h_r17⟩
 refine cv (ya 3 3 z (y8 S16 (cs_qJ z_qJ zw_qJ) 74 z fun b19 w22 S21 => y4 S21 0 (cs_qJ r17 w_r17) fun w24 S23 => ya 8 1 z (yb (W.seq (have S25 := S23.drew; ya9 nL20 20 (yw (S25.rd m0) (yae S25.im)) ?_)))))
 generalize World.drew _ = w26 at *
 refine ya 0 3 z (bsk R1 fun j27 R2 R1 => yam (l1 := [3, 4, 5, 6, 7, 8, 9, 10, 11, 12, 13, 14, 15, 16, 17, 18, 19]) (J := JI E I14 [(0, Sl a_p0 p0 c_p0), (1, Sl a_p1 p1 c_p1), (9, Sl a_p1 p1 c_p1), (10, Nv p1.length), (11, Nv i4), (41, .bool j27)] (bJ b19 r17 w_r17 :: Os)) ?_ ?_)
 refine yal R2 (fun H R2 => ?_) (fun H R2 => ?_)
 refine yy 24 H ?_
 iterate 16 refine yak ?_
 exact ya 19 1 z (sj R2 ▸ yx ⟨I14, rfl, lr, S25⟩)
 refine yy 24 H (ya 3 6 z (bsk R2 fun j31 R3 R2 => yam (l1 := [9, 10, 11, 12, 13, 14, 15, 16, 17, 18]) (J := JI E I14 [(0, Sl a_p0 p0 c_p0), (1, Sl a_p1 p1 c_p1), (9, Sl a_p1 p1 c_p1), (10, Nv p1.length), (11, Nv i4), (24, .bool false), (40, .bool j31)] (bJ b19 r17 w_r17 :: Os)) ?_ ?_))
 refine yal R3 (fun H R3 => ?_) (fun H R3 => ?_)
 refine yy 30 H (yh 9 1 [1] z (yj (rd_c m0 (S25.rd m0)) z (ya 11 3 z ?_)))
 obtain ⟨x35, R3, Hx35, _, rfl, Zx35⟩ := sx I14 h_p1 R3
 refine y6 9 1 Hx35 z (yan Zx35 (rd_i S25.im) z (bsk R3 fun r41 Xr36 R3 => yai (slices_Contains_string_ok h_r17.In S25 Xr36) ?_))
 rintro _ w37 ⟨I38, rfl, L39, S40⟩
 refine ⟨_, rfl, (yw (S40.rd m0) (yae (S40.im.of_le L39))), ?_⟩
 exact ya 17 2 z (sj R3 ▸ yx ⟨I38, rfl, L39, S40⟩)
 refine yy 30 H ?_
 iterate 9 refine yak ?_
 exact ya 18 1 z (sj R3 ▸ yx ⟨I14, rfl, lr, S25⟩)
 rintro _ w42 ⟨I33, rfl, L34, S43⟩
 exact ya 19 1 z (sj R2 ▸ yx ⟨I33, rfl, L34, S43⟩)
 rintro _ w44 ⟨I29, rfl, L30, S45⟩
 refine yb (y0 R1 (fun H R1 => ?_) (fun H R1 => ?_))
 refine ye [0] (ya 0 1 z (yb (yr (ym (yf (yu ?_))))))
 obtain rfl := hext1 _ (sj R1).symm
 exact ym (yf (sj G ▸ yz ⟨I29, rfl, le, S45.drop⟩))
 exact yk (yl (yc (yag nL2 (yao i4 z (ya 1 1 z (yp (yv ⟨(), (sj R1).symm, I29, rfl, le, S45.drop⟩)))))))
 rintro _ _ w50 ⟨I2, rfl, L3, S51⟩ he
 cases he
 exact ye [0] (ya 0 1 z (yb (W.seq (yav fun _ => yaa (yo (yq (yt (yc (ye nL4 (ya 0 4 z (yb (yr (sj G ▸ yz ⟨I2, rfl, L3, S51⟩)))))))))))))
def r32_IsPath (p0 : List qJ) (p1 : List By8) : Option Bool := (forN (fun (i4 : Nat) (_s : Unit) => (idx p1 (i4 : Int)).bind (fun x11 => (r18_At p0 x11).bind (fun r17 => ((bif (decide (r17 < 0)) then some true else ((bif (decide ((w64 ((i4 : Int) + 1)) < (p1.length : Int))) then (idx p0 r17).bind (fun x28 => (idx p1 (w64 ((i4 : Int) + 1))).bind (fun x29 => (r14_Has x28.In x29).bind (fun r35 => some (!r35)))) else some false)).bind (fun (j24 : Bool) => some j24))).bind (fun (j20 : Bool) => (bif j20 then some (.inr false) else some (.inl ())))))) p1.length 0 ()).bind (fun (t : Unit ⊕ (Bool)) => match t with | .inl _ => some (decide ((p1.length : Int) > 0)) | .inr s41 => some s41)
theorem r32_IsPath_ok {p0 : List qJ} {p1 : List By8} {a_p0 : Option Addr} {c_p0 : Nat} {a_p1 : Option Addr} {c_p1 : Nat} (h_p0 : RSl 2 R_qJ I a_p0 c_p0 p0) (h_p1 : RSl 1 RStr I a_p1 c_p1 p1) (hS : St E w I Os) {r : Bool} (G : r32_IsPath p0 p1 = some r) :
    Calls P 21 #[(Sl a_p0 p0 c_p0), (Sl a_p1 p1 c_p1)] w (RT E I Os (.bool r)) := by
 refine calls_W (fn := Tryz.f21) rfl rfl rfl ?_
 unfold r32_IsPath at G
 refine ye [0] (ya 0 1 z (yb (W.seq (ye [0] (ya 0 1 z (yb (yn (bsk G fun t1 hloop5 G => have hlt9 := (h_p1).len_lt; W.wk (yar (m := p1.length) hloop5 (fun (i4 : Nat) (_s : Unit) => JI E I [(0, Sl a_p0 p0 c_p0), (1, Sl a_p1 p1 c_p1), (5, Nv i4)] Os) ⟨I, rfl, lr, hS⟩ ?_ ?_)))))))))
 rintro i4 _ _ w6 hi10 ⟨I2, rfl, L3, S7⟩ x8 R1 hext1
 refine W.seq (ye nL4 (ya 0 4 z (yb (yau fun _ => yk (yc (W.seq (yn (ye nL7 (ya 0 3 z ?_)))))))))
 obtain ⟨x11, R1, Hx11, _, rfl, Zx11⟩ := sx I2 h_p1 R1
 refine y6 9 1 Hx11 z (yan Zx11 S7.rm z (bsk R1 fun r17 Xr12 R1 => WO.c1 (r18_At_ok (RSl.mono h_p0 L3) S7 Xr12) z fun I14 w13 L15 S16 => ya 6 1 z (yb (W.seq (have S18 := S16.drew; ya9 nL23 23 (yae S18.im) ?_)))))
 generalize World.drew _ = w19 at *
 refine ya 0 3 z (bsk R1 fun j20 R2 R1 => yam (l1 := [3, 4, 5, 6, 7, 8, 9, 10, 11, 12, 13, 14, 15, 16, 17, 18, 19, 20, 21, 22]) (J := JI E I14 [(0, Sl a_p0 p0 c_p0), (1, Sl a_p1 p1 c_p1), (5, Nv i4), (41, .bool j20)] Os) ?_ ?_)
 refine yal R2 (fun H R2 => ?_) (fun H R2 => ?_)
 refine yy 21 H ?_
 iterate 19 refine yak ?_
 exact ya 22 1 z (sj R2 ▸ yx ⟨I14, rfl, lr, S18⟩)
 refine yy 21 H (ya 3 6 z (bsk R2 fun j24 R3 R2 => yam (l1 := [9, 10, 11, 12, 13, 14, 15, 16, 17, 18, 19, 20, 21]) (J := JI E I14 [(0, Sl a_p0 p0 c_p0), (1, Sl a_p1 p1 c_p1), (5, Nv i4), (21, .bool false), (40, .bool j24)] Os) ?_ ?_))
 refine yal R3 (fun H R3 => ?_) (fun H R3 => ?_)
 refine yy 27 H (ya 9 2 z ?_)
 obtain ⟨x28, R3, Hx28, _, ⟨w_x28, rfl, h_x28⟩, Zx28⟩ := sx I14 h_p0 R3
 refine y6 74 2 Hx28 z (yh 12 1 [1] z (yas Zx28 1 (rd_i S18.im) z (ya 14 3 z ?_)))
 obtain ⟨x29, R3, Hx29, _, rfl, Zx29⟩ := sx I14 h_p1 R3
 refine y6 9 1 Hx29 z (yan Zx29 (rd_i S18.im) z (bsk R3 fun r35 Xr30 R3 => yai (r14_Has_ok h_x28.In S18 Xr30) ?_))
 rintro _ w31 ⟨I32, rfl, L33, S34⟩
 refine ⟨_, rfl, (yae (S34.im.of_le L33)), ?_⟩
 exact ya 20 2 z (sj R3 ▸ yx ⟨I32, rfl, L33, S34⟩)
 refine yy 27 H ?_
 iterate 12 refine yak ?_
 exact ya 21 1 z (sj R3 ▸ yx ⟨I14, rfl, lr, S18⟩)
 rintro _ w36 ⟨I26, rfl, L27, S37⟩
 exact ya 22 1 z (sj R2 ▸ yx ⟨I26, rfl, L27, S37⟩)
 rintro _ w38 ⟨I22, rfl, L23, S39⟩
 refine yb (y0 R1 (fun H R1 => ?_) (fun H R1 => ?_))
 refine ye [0] (ya 0 1 z (yb (yr (ym (yf (yu ?_))))))
 obtain rfl := hext1 _ (sj R1).symm
 exact ym (yf (sj G ▸ yz ⟨I22, rfl, le, S39⟩))
 exact yk (yl (yc (yag nL3 (ya 0 1 z (yao i4 z (ya 2 1 z (yp (yv ⟨(), (sj R1).symm, I22, rfl, le, S39⟩))))))))
 rintro _ _ w42 ⟨I2, rfl, L3, S43⟩ he
 cases he
 exact W.seq (ye nL4 (ya 0 4 z (yb (yav fun _ => yaa (yo (yq (yt (yc (ye nL4 (ya 0 4 z (yb (yr (sj G ▸ yz ⟨I2, rfl, L3, S43⟩)))))))))))))
noncomputable def law32_WhyMembers (p0 : List qJ) (p1 : List By8) : Option Bool := (r18_Few p0).bind (fun r6 => ((bif (!r6) then some true else (law32_few p1).bind (fun r16 => some (!r16)))).bind (fun (j7 : Bool) => (some ((j7 || (decide ((p1.length : Int) > 30))) || ((p1.length : Int) == 0))).bind (fun (q21 : Bool) => (bif q21 then (law32_works).bind (fun r29 => some r29) else (idx p1 0).bind (fun x32 => (idx p1 (w64 ((p1.length : Int) - 1))).bind (fun x33 => (why_Path p0 x32 x33).bind (fun r39 => (member_Is p0 x32 x33).bind (fun r45 => (bif (!((decide ((r39.length : Int) > 0)) == r45)) then some false else ((bif (decide ((r39.length : Int) > 0)) then (why_IsPath p0 r39).bind (fun r55 => ((bif (!r55) then some true else (idx r39 0).bind (fun x60 => some (!sEq x60 x32)))).bind (fun (j56 : Bool) => ((bif j56 then some true else (idx r39 (w64 ((r39.length : Int) - 1))).bind (fun x67 => some (!sEq x67 x33)))).bind (fun (j63 : Bool) => some j63))) else some false)).bind (fun (j46 : Bool) => (bif j46 then some false else (r32_IsPath p0 p1).bind (fun r77 => (some ((!r77) || ((decide ((r39.length : Int) > 0)) && (decide ((r39.length : Int) ≤ (p1.length : Int)))))).bind (fun (q80 : Bool) => ((bif q80 then (law32_works).bind (fun r94 => some r94) else some false)).bind (fun (j85 : Bool) => some j85))))))))))))))
theorem law32_WhyMembers_ok {p0 : List qJ} {p1 : List By8} {a_p0 : Option Addr} {c_p0 : Nat} {a_p1 : Option Addr} {c_p1 : Nat} (h_p0 : RSl 2 R_qJ I a_p0 c_p0 p0) (h_p1 : RSl 1 RStr I a_p1 c_p1 p1) (hS : St E w I Os) {r : Bool} (G : law32_WhyMembers p0 p1 = some r) :
    Calls P 5 #[(Sl a_p0 p0 c_p0), (Sl a_p1 p1 c_p1)] w (RT E I Os (.bool r)) := by
 refine calls_W (fn := Tryz.f5) rfl rfl rfl ?_
 unfold law32_WhyMembers at G
 refine ye [0] (ya 0 1 z (yb (W.seq (ye nL18 (ya 0 1 z (bsk G fun r6 Xr1 G => WO.c1 (r18_Few_ok h_p0 hS Xr1) z fun I3 w2 L4 S5 => ya 2 2 z (bsk G fun j7 R1 G => yam (l1 := [4, 5, 6, 7]) (J := JI E I3 [(0, Sl a_p0 p0 c_p0), (1, Sl a_p1 p1 c_p1), (15, .bool j7)] Os) ?_ ?_)))))))
 refine yal R1 (fun H R1 => ?_) (fun H R1 => ?_)
 refine yy 11 H ?_
 iterate 3 refine yak ?_
 exact ya 7 1 z (sj R1 ▸ yx ⟨I3, rfl, lr, S5⟩)
 exact yy 11 H (ya 4 1 z (bsk R1 fun r16 Xr11 R1 => WO.c1 (law32_few_ok (RSl.mono h_p1 L4) S5 Xr11) z fun I13 w12 L14 S15 => ya 6 2 z (sj R1 ▸ yx ⟨I13, rfl, L14, S15⟩)))
 rintro _ w17 ⟨I9, rfl, L10, S18⟩
 refine ya 8 1 z (ya5 [9, 10, 11] 12 16 20 (.refl (j7 || (decide ((p1.length : Int) > 30)))) (fun _ => ya 9 4 z yaj) (ya 13 1 z (bsq G fun q21 Xq21 G => ya5 [14, 15, 16] 17 21 25 Xq21 (fun _ => ya 14 4 z yaj) (yb (y0 G (fun H G => ?_) (fun H G => ?_))))))
 exact ye nL2 (bsk G fun r29 Xr24 G => WO.c1 (law32_works_ok  S18 Xr24) z fun I26 w25 L27 S28 => ya 1 1 z (yb (yr (yf (sj G ▸ yz ⟨I26, rfl, le, S28⟩)))))
 refine yk (yc (W.seq (have S30 := S18.drew; ybl (l := nL11) kr 10 (KR I9 []) qR (.ords nL11 [0, 1, 2, 4, 5, 9, 3, 6, 7, 8, 10] kr kr kr kr kr) kr (yae S30.im) ?_)))
 generalize World.drew _ = w31 at *
 refine ya 0 1 z ?_
 obtain ⟨x32, G, Hx32, _, rfl, Zx32⟩ := sx I9 h_p1 G
 refine y6 9 1 Hx32 z (yan Zx32 (rd_i S30.im) z (ya 3 4 z ?_))
 obtain ⟨x33, G, Hx33, _, rfl, Zx33⟩ := sx I9 h_p1 G
 refine y6 9 1 Hx33 z (yan Zx33 (rd_i S30.im) z (ya 9 1 z (WO.tail z (ya 10 1 z (y7 nL5 (ya 0 3 z (bsk G fun r39 Xr34 G => yai (why_Path_ok (up h_p0) S30 Xr34) ?_)))))))
 rintro _ w35 ⟨I36, a_r39, c_r39, rfl, L37, S38, h_r39⟩
 refine cv (ya 4 1 z (yb (W.seq (ye nL8 (ya 0 6 z (bsk G fun r45 Xr40 G => WO.c1 (member_Is_ok (up h_p0) S38 Xr40) z fun I42 w41 L43 S44 => yab 7 47 (.bool (!((decide ((r39.length : Int) > 0)) == r45))) (yb (y0 G (fun H G => ?_) (fun H G => ?_)))))))))
 exact ye [0] (ya 0 1 z (yb (yr (yf (sj G ▸ yz ⟨I42, rfl, le, S44⟩)))))
 refine yk (yc (W.seq (ye nL26 (ya 0 4 z (bsk G fun j46 R1 G => yam (l1 := [4, 5, 6, 7, 8, 9, 10, 11, 12, 13, 14, 15, 16, 17, 18, 19, 20, 21, 22, 23, 24, 25]) (J := JI E I42 [(0, Sl a_p0 p0 c_p0), (1, Sl a_p1 p1 c_p1), (7, Sl a_r39 r39 c_r39), (73, .bool j46)] Os) ?_ ?_)))))
 refine yal R1 (fun H R1 => ?_) (fun H R1 => ?_)
 refine yy 51 H (ya 4 2 z (bsk R1 fun r55 Xr50 R1 => WO.c1 (why_IsPath_ok (up h_p0) (RSl.mono h_r39 L43) S44 Xr50) z fun I52 w51 L53 S54 => ya 7 2 z (bsk R1 fun j56 R2 R1 => yam (l1 := [9, 10, 11, 12, 13, 14]) (J := JI E I52 [(0, Sl a_p0 p0 c_p0), (1, Sl a_p1 p1 c_p1), (6, .string x33), (7, Sl a_r39 r39 c_r39), (51, .bool true), (62, .bool j56)] Os) ?_ ?_)))
 refine yal R2 (fun H R2 => ?_) (fun H R2 => ?_)
 refine yy 56 H ?_
 iterate 5 refine yak ?_
 exact ya 14 1 z (sj R2 ▸ yx ⟨I52, rfl, lr, S54⟩)
 refine yy 56 H (ya 9 1 z ?_)
 obtain ⟨x60, R2, Hx60, _, rfl, Zx60⟩ := sx I52 h_r39 R2
 exact y6 9 1 Hx60 z (yan Zx60 S54.rm z (ya 12 3 z (sj R2 ▸ yx ⟨I52, rfl, lr, S54⟩)))
 rintro _ w61 ⟨I58, rfl, L59, S62⟩
 refine ya 15 1 z (bsk R1 fun j63 R2 R1 => yam (l1 := [16, 17, 18, 19, 20, 21, 22, 23, 24]) (J := JI E I58 [(0, Sl a_p0 p0 c_p0), (1, Sl a_p1 p1 c_p1), (7, Sl a_r39 r39 c_r39), (51, .bool true), (72, .bool j63)] Os) ?_ ?_)
 refine yal R2 (fun H R2 => ?_) (fun H R2 => ?_)
 refine yy 63 H ?_
 iterate 8 refine yak ?_
 exact ya 24 1 z (sj R2 ▸ yx ⟨I58, rfl, lr, S62⟩)
 refine yy 63 H (ya 16 4 z ?_)
 obtain ⟨x67, R2, Hx67, _, rfl, Zx67⟩ := sx I58 h_r39 R2
 exact y6 9 1 Hx67 z (yan Zx67 S62.rm z (ya 22 3 z (sj R2 ▸ yx ⟨I58, rfl, lr, S62⟩)))
 rintro _ w68 ⟨I65, rfl, L66, S69⟩
 exact ya 25 1 z (sj R1 ▸ yx ⟨I65, rfl, le, S69⟩)
 refine yy 51 H ?_
 iterate 21 refine yak ?_
 exact ya 25 1 z (sj R1 ▸ yx ⟨I42, rfl, lr, S44⟩)
 rintro _ w70 ⟨I48, rfl, L49, S71⟩
 refine yb (y0 G (fun H G => ?_) (fun H G => ?_))
 exact ye [0] (ya 0 1 z (yb (yr (yf (sj G ▸ yz ⟨I48, rfl, le, S71⟩)))))
 refine yk (yc (ye nL20 (ya 0 2 z (bsk G fun r77 Xr72 G => WO.c1 (r32_IsPath_ok (up h_p0) (up h_p1) S71 Xr72) z fun I74 w73 L75 S76 => ya 3 2 z (bsq G fun q80 Xq80 G => ya5 [5, 6, 7, 8, 9, 10, 11, 12, 13, 14] 15 78 89 Xq80 (fun _ => ya 5 4 z (yaq [9, 10, 11, 12, 13] 14 82 88 (.refl ((decide ((r39.length : Int) > 0)) && (decide ((r39.length : Int) ≤ (p1.length : Int))))) (fun _ => ya 9 6 z yaj) (ya 15 1 z yaj))) (ya 16 1 z (bsk G fun j85 R1 G => yam (l1 := [17, 18]) (J := JI E I74 [(92, .bool j85)] Os) ?_ ?_)))))))
 refine yal R1 (fun H R1 => ?_) (fun H R1 => ?_)
 exact yy 90 H (bsk R1 fun r94 Xr89 R1 => WO.c1 (law32_works_ok  S76 Xr89) z fun I91 w90 L92 S93 => ya 18 1 z (sj R1 ▸ yx ⟨I91, rfl, L92, S93⟩))
 refine yy 90 H (yak ?_)
 exact ya 18 1 z (sj R1 ▸ yx ⟨I74, rfl, lr, S76⟩)
 rintro _ w95 ⟨I87, rfl, L88, S96⟩
 exact ya 19 1 z (yb (yr (sj G ▸ yz ⟨I87, rfl, le, S96⟩)))
end Go.Proofs.YtlfphpegelclpaaGreat
