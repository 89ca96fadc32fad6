/- What functions of the program come to, each by a plain one. Conditions: none. -/
import Derived.Test.YtlfphpegelclpaaGreatF3
import Derived.Test.YtlfphpegelclpaaGreatProg
set_option maxRecDepth 100000
namespace Go.Proofs.YtlfphpegelclpaaGreat
open Go.Gv
set_option maxHeartbeats 1000000
variable {E w : World} {I : Mem} {Os : List Mem}
noncomputable def member_AllM (p0 : List qJ) (p1 : By8) : M (List By8) := bindM (optM (member_at p0 p1)) (fun (r6 : Int) => (bif (decide (r6 < 0)) then retM ([] : List By8) else bindM (loopM (fun (s : Bool × (List (By8 × Bool))) => match s with | (s18, s19) => (bif s18 then bindM (rangeM (fun (k71 : By8) (x72 : Bool) (s33 : List By8) => (member_Find p0 k71).bind (fun ((r91, r92) : qJ × Bool) => (forE (fun (i103 : Nat) (s102 : List By8) => (idx r91.In (i103 : Int)).bind (fun (x114 : By8) => (some ((mget sEq s19 x114).getD false)).bind (fun (x115 : Bool) => ((bif (!x115) then (member_at p0 x114).bind (fun (r125 : Int) => some (decide (r125 ≥ 0))) else some false)).bind (fun (j116 : Bool) => ((bif j116 then (app 16 s102 ([x114] : List By8)).bind (fun (x140 : List By8) => some x140) else some s102)).bind (fun (j128 : List By8) => some j128))))) r91.In.length 0 s33).bind (fun (s102 : (List By8)) => some (.inl s102)))) s19 ([] : List By8)) (fun (t : (List By8) ⊕ Unit) => Sum.elim (fun (s33 : List By8) => bindM (optM (forE (fun (i53 : Nat) (s52 : List (By8 × Bool)) => (idx s33 (i53 : Int)).bind (fun (x61 : By8) => some (mset sEq s52 x61 true))) s33.length 0 s19)) (fun (s52 : List (By8 × Bool)) => retM (.inl ((decide ((s33.length : Int) > 0)), s52)))) (fun _ _ => False) t) else retM (.inr s19))) (true, (mset sEq ([] : List (By8 × Bool)) p1 true))) (fun (s156 : List (By8 × Bool)) => bindM (optM (keysO s156)) (fun (r163 : List By8) => retM r163))))
noncomputable def member_All (p0 : List qJ) (p1 : By8) : Option (List By8) := ofM (member_AllM p0 p1)
theorem member_All_ok {p0 : List qJ} {p1 : By8} {a_p0 : Option Addr} {c_p0 : Nat} (h_p0 : RSl 2 R_qJ I a_p0 c_p0 p0) (hS : St E w I Os) {r : (List By8)} (G : member_All p0 p1 = some r) :
    Calls P 47 #[(.slice a_p0 p0.length c_p0), (.string p1)] w (fun e w' => ∃ (I' : Mem) (ra0 : Option Addr) (rc0 : Nat), e = .returned (.slice ra0 r.length rc0) ∧ I.Le I' ∧ St E w' I' Os ∧ RSl 1 RStr I' ra0 rc0 r) := by
  refine calls_W (args := [(.slice a_p0 p0.length c_p0), (.string p1)]) (fn := Tryz.f47) rfl rfl rfl ?_
  replace G := ofM_some (m := member_AllM p0 p1) G
  unfold member_AllM at G
  refine W.seq ?_
  refine W.region (l := [0]) kr ?_
  refine yan [(0, 4, (.slice none 0 0))] kr (fun _ => by kernel_rfl) ?_
  refine yp ?_
  refine ye ?_
  refine W.seq ?_
  refine W.seq ?_
  refine W.region (l := [0, 1, 2, 3]) kr ?_
  refine yan [(0, 15, (.slice a_p0 p0.length c_p0)), (1, 16, (.string p1))] kr (fun _ => by kernel_rfl) ?_
  obtain ⟨r6, Xr1, G⟩ := optM_some G
  refine ybl z kr z (f := 63) (args := #[(.slice a_p0 p0.length c_p0), (.string p1)]) kr (member_at_ok h_p0 hS Xr1) ?_
  rintro _ w2 ⟨I3, rfl, L4, S5⟩
  refine ⟨_, rfl, trivial, ?_⟩
  refine yan [(3, 18, (.bool (decide (r6 < 0))))] kr (fun _ => by kernel_rfl) ?_
  refine yp ?_
  refine ye ?_
  refine W.cond (b := (decide (r6 < 0))) z z (fun H => ?_) (fun H => ?_)
  · replace G := condM_t H G
    refine W.seq ?_
    refine W.region (l := [0]) kr ?_
    refine yan [(0, 4, (.slice none 0 0))] kr (fun _ => by kernel_rfl) ?_
    refine yp ?_
    refine ye ?_
    refine yq ?_
    refine yh ?_
    have he : ([] : List By8) = r := G
    subst r
    exact En.ret1 z (.slice none 0 0) z ⟨I3, none, 0, rfl, L4, S5, SlAt.nil⟩
  · replace G := condM_f H G
    refine W.skip ?_
    refine ye ?_
    refine W.seq ?_
    refine W.region (l := [0, 1, 2, 3, 4]) kr ?_
    refine ybj S5 z kr z (.map #[] 0) (fun b => .map (some b)) kr tv ?_
    intro b7 w10 S9
    refine yan [(1, 20, (.string p1))] kr (fun _ => by kernel_rfl) ?_
    refine WO.update (OwnMap.nil (enc := Value.string) (val := (val1 RBool)) (I := I3) (m := b7)) S9 (t := 125) (kt := 9) (et := 4) kr (keyLaw_str (kt := 9) kr) z kr z (.inr z) z p1 z z (xv := true) z tv ?_
    intro w13 C11 S12 hm14
    refine yan [(3, 21, (.map (some b7))), (4, 5, (.map (some b7)))] kr (fun _ => by kernel_rfl) ?_
    refine yp ?_
    refine ye ?_
    refine W.seq ?_
    refine W.seq ?_
    refine W.region (l := [0]) kr ?_
    refine yan [(0, 6, (.bool true))] kr (fun _ => by kernel_rfl) ?_
    refine yp ?_
    refine ye ?_
    refine yl ?_
    have hloop20 : Gv.loopM _ _ _ := G
    refine W.weaken (fr' := [(0, (.slice a_p0 p0.length c_p0)), (5, (.map (some b7))), (6, (.bool true))]) (W.loopM hloop20 (fun (s : Bool × (List (By8 × Bool))) fr w => match s with | (s18, s19) => ∃ (I16 : Mem), ∃ (C_s19 : Mem), fr = [(0, (.slice a_p0 p0.length c_p0)), (5, (.map (some b7))), (6, (.bool s18))] ∧ I3.Le I16 ∧ St E w I16 ((C_s19) :: Os) ∧ OwnMap Value.string (val1 RBool) I16 C_s19 b7 s19) ⟨I3, C11, rfl, Mem.Le.refl _, S12, hm14⟩ ?_) (Sub.cons z (Sub.cons z (Sub.cons z Sub.nil)))
    rintro ⟨s18, s19⟩ _ w21 ⟨I16, C_s19, rfl, L17, S22, h_s19⟩ Kx23 R1
    refine W.seq ?_
    refine W.seq ?_
    refine W.region (l := [0]) kr ?_
    refine yan [(0, 22, (.bool s18))] kr (fun _ => by kernel_rfl) ?_
    refine yp ?_
    refine ye ?_
    refine W.cond (b := s18) z z (fun H => ?_) (fun H => ?_)
    · replace R1 := condM_t H R1
      refine W.skip ?_
      refine ye ?_
      refine yl ?_
      refine W.seq ?_
      refine W.region (l := [0]) kr ?_
      refine yan [(0, 7, (.slice none 0 0))] kr (fun _ => by kernel_rfl) ?_
      refine yp ?_
      refine ye ?_
      refine W.seq ?_
      refine W.seq ?_
      refine W.region (l := [0, 1]) kr ?_
      refine yan [(0, 23, (.map (some b7)))] kr (fun _ => by kernel_rfl) ?_
      refine WO.rangeMap h_s19 S22 (t := 125) (kt := 9) (et := 4) kr z kr z z tv ?_
      intro b24 w25 D26 S27 hit28
      refine yp ?_
      refine ye ?_
      refine yl ?_
      have hloop38 : Gv.rangeM _ _ _ _ := R1
      have S40 := S27.no
      have S41 := S40.front1
      have S42 := S41.front2
      refine W.weaken (fr' := [(0, (.slice a_p0 p0.length c_p0)), (5, (.map (some b7))), (7, (.slice none ([] : List By8).length 0)), (24, (.pointer (some ⟨b24, 0, none⟩)))]) (W.rangeM hloop38 (fun (rm34 : List (By8 × Bool)) (s33 : List By8) fr w => ∃ (I31 : Mem), ∃ (a_s33 : Option Addr), ∃ (c_s33 : Nat), ∃ (C_s33 : Mem), ∃ (D35 : Mem), ∃ (lst37 : Option (Value × Value)), fr = [(0, (.slice a_p0 p0.length c_p0)), (5, (.map (some b7))), (7, (.slice a_s33 s33.length c_s33)), (24, (.pointer (some ⟨b24, 0, none⟩)))] ∧ I16.Le I31 ∧ St E w I31 ((C_s19) :: (D35) :: (C_s33) :: Os) ∧ OwnSl 9 1 RStr I31 C_s33 a_s33 c_s33 s33 ∧ IterSt Value.string (val1 RBool) I31 C_s19 b7 s19 D35 b24 rm34 lst37) ⟨I16, none, 0, Mem.no, D26, _, rfl, Mem.Le.refl _, S42, OwnSl.nil, hit28⟩ ?_) (Sub.cons z (Sub.cons z (Sub.cons z (Sub.cons z Sub.nil))))
      rintro rm34 s33 _ w43 ⟨I31, a_s33, c_s33, C_s33, D35, lst37, rfl, L32, S44, h_s33, hit36⟩ hst45 hend46
      refine W.seq ?_
      refine W.region (l := [0, 1]) kr ?_
      have S47 := S44.front1
      refine WO.next hit36 S47 z kr z z tv (fun he48 => ?_) ?_
      · skip
        replace R1 := hend46 he48
        refine yan [(1, 26, (.bool false))] kr (fun _ => by kernel_rfl) ?_
        refine yp ?_
        refine ye ?_
        refine W.seq ?_
        refine W.cond (b := false) z z (fun H => ?_) (fun H => ?_)
        · cases H
        clear H
        refine W.exit ?_
        refine yn ?_
        refine yo ?_
        refine yr ?_
        refine ye ?_
        refine W.seq ?_
        refine W.region (l := [0, 1, 2, 3]) kr ?_
        refine yan [(0, 57, (.slice a_s33 s33.length c_s33)), (1, 58, (.int .i64 (s33.length : Int))), (2, 59, (.bool (decide ((s33.length : Int) > 0)))), (3, 6, (.bool (decide ((s33.length : Int) > 0))))] kr (fun _ => by kernel_rfl) ?_
        refine yp ?_
        refine ye ?_
        refine W.seq ?_
        refine W.region (l := [0, 1, 2]) kr ?_
        refine yan [(0, 60, (.slice a_s33 s33.length c_s33)), (1, 61, (.int .i64 (s33.length : Int))), (2, 62, (.int .i64 0))] kr (fun _ => by kernel_rfl) ?_
        refine yp ?_
        refine ye ?_
        refine yl ?_
        obtain ⟨s52, hloop54, R1⟩ := optM_some R1
        have S55 := S47.drop
        have hlt59 := (h_s33.sl).len_lt
        refine W.weaken (fr' := [(0, (.slice a_p0 p0.length c_p0)), (5, (.map (some b7))), (6, (.bool (decide ((s33.length : Int) > 0)))), (60, (.slice a_s33 s33.length c_s33)), (61, (.int .i64 (s33.length : Int))), (62, (.int .i64 ((0 : Nat) : Int)))]) (yat (m := s33.length) hloop54 (fun (i53 : Nat) (s52 : List (By8 × Bool)) fr w => ∃ (I50 : Mem), ∃ (C_s52 : Mem), fr = [(0, (.slice a_p0 p0.length c_p0)), (5, (.map (some b7))), (6, (.bool (decide ((s33.length : Int) > 0)))), (60, (.slice a_s33 s33.length c_s33)), (61, (.int .i64 (s33.length : Int))), (62, (.int .i64 (i53 : Int)))] ∧ I31.Le I50 ∧ St E w I50 ((C_s52) :: (C_s33) :: Os) ∧ OwnMap Value.string (val1 RBool) I50 C_s52 b7 s52) ⟨I31, C_s19, rfl, Mem.Le.refl _, S55, (OwnMap.mono h_s19 L32)⟩ ?roundt49 ?lastt49) (Sub.cons z (Sub.cons z (Sub.cons z (Sub.cons z (Sub.cons z (Sub.cons z Sub.nil))))))
        case roundt49 =>
          rintro i53 s52 _ w56 hi60 ⟨I50, C_s52, rfl, L51, S57, h_s52⟩ x58 R2
          refine W.seq ?_
          refine W.region (l := [0]) kr ?_
          refine yan [(0, 63, (.bool (decide ((i53 : Int) < (s33.length : Int)))))] kr (fun _ => by kernel_rfl) ?_
          refine yp ?_
          refine ye ?_
          refine W.seq ?_
          refine W.cond (b := (decide ((i53 : Int) < (s33.length : Int)))) z z (fun H => ?_) (fun H => ?_)
          rotate_left
          · exact absurd H (by first | (simp; done) | (simp; omega))
          clear H
          refine W.skip ?_
          refine ye ?_
          refine W.seq ?_
          refine yl ?_
          refine W.seq ?_
          refine W.region (l := [0, 1, 2]) kr ?_
          obtain ⟨x61, Xx61, R2⟩ := bind_some R2
          obtain ⟨h0_x61, h1_x61, Xx61⟩ := idx_some Xx61
          obtain ⟨ha_x61, cs_x61, hn_x61, hr_x61, Zx61⟩ := ((h_s33.mono L51).sl).el _ _ Xx61
          obtain rfl := hr_x61
          refine ybg (e := 9) (sz := 1) z kr kr kr z ha_x61 z h0_x61 h1_x61 ?_
          refine ybm z kr kr z (v := (.string x61)) (fun w' hw' => Zx61.cell0 kr ((rd_f (S57.rd (List.Mem.tail _ (List.Mem.head _)))) w' hw')) ?_
          refine yan [(2, 14, (.string x61))] kr (fun _ => by kernel_rfl) ?_
          refine yp ?_
          refine ye ?_
          refine W.region (l := [0, 1, 2]) kr ?_
          refine yan [(0, 66, (.map (some b7))), (1, 67, (.string x61))] kr (fun _ => by kernel_rfl) ?_
          refine WO.update h_s52 S57 (t := 125) (kt := 9) (et := 4) kr (keyLaw_str (kt := 9) kr) z kr z (.inl z) z x61 z z (xv := true) z tv ?_
          intro w65 C62 S63 hm66
          refine yp ?_
          refine yk ?_
          refine ye ?_
          refine W.region (l := [0, 1]) kr ?_
          refine WO.incr (j := i53) z kr z (by first | omega | (dsimp only at *; omega)) ?_
          refine yan [(1, 62, (.int .i64 ((i53 + 1 : Nat) : Int)))] kr (fun _ => by kernel_rfl) ?_
          refine yp ?_
          have he := Option.some.inj R2
          subst x58
          refine En.weaken (fr' := [(0, (.slice a_p0 p0.length c_p0)), (5, (.map (some b7))), (6, (.bool (decide ((s33.length : Int) > 0)))), (60, (.slice a_s33 s33.length c_s33)), (61, (.int .i64 (s33.length : Int))), (62, (.int .i64 ((i53 + 1 : Nat) : Int)))]) (En.round ⟨I50, C62, rfl, L51, S63, hm66⟩) (Sub.cons z (Sub.cons z (Sub.cons z (Sub.cons z (Sub.cons z (Sub.cons z Sub.nil))))))
        case lastt49 =>
          rintro _ w67 ⟨I50, C_s52, rfl, L51, S68, h_s52⟩
          refine W.seq ?_
          refine W.region (l := [0]) kr ?_
          refine yan [(0, 63, (.bool (decide ((s33.length : Int) < (s33.length : Int)))))] kr (fun _ => by kernel_rfl) ?_
          refine yp ?_
          refine ye ?_
          refine W.seq ?_
          refine W.cond (b := (decide ((s33.length : Int) < (s33.length : Int)))) z z (fun H => ?_) (fun H => ?_)
          · exact absurd H (by first | (simp; done) | (simp; omega))
          clear H
          refine W.exit ?_
          refine yn ?_
          refine yo ?_
          refine yr ?_
          refine yk ?_
          have S69 := S68.front1
          have S70 := S69.drop
          refine En.weaken (fr' := [(0, (.slice a_p0 p0.length c_p0)), (5, (.map (some b7))), (6, (.bool (decide ((s33.length : Int) > 0))))]) (En.round ⟨((decide ((s33.length : Int) > 0)), s52), R1, I50, C_s52, rfl, ((L17.trans L32).trans L51), S70, h_s52⟩) (Sub.cons z (Sub.cons z (Sub.cons z Sub.nil)))
      · skip
        intro k71 x72 rm73 v74 w75 D76 hp77 hv78 S79 hit80
        obtain ⟨y81, hy82, hex83⟩ := hst45 k71 x72 rm73 hp77
        have R2 := hy82
        obtain rfl := (List.cons.inj hv78).1
        refine yan [(1, 26, (.bool true))] kr (fun _ => by kernel_rfl) ?_
        refine yp ?_
        refine ye ?_
        refine W.seq ?_
        refine W.cond (b := true) z z (fun H => ?_) (fun H => ?_)
        rotate_left
        · cases H
        clear H
        refine W.skip ?_
        refine ye ?_
        refine yl ?_
        refine W.seq ?_
        refine W.region (l := [0, 1, 2]) kr ?_
        have S84 := S79.front1
        have S85 := S84.front1
        refine WO.entry hit80 S85 z kr z z trivial ?_
        refine yan [(1, 28, (.string k71)), (2, 8, (.string k71))] kr (fun _ => by kernel_rfl) ?_
        refine yp ?_
        refine ye ?_
        refine W.seq ?_
        refine W.region (l := [0, 1, 2, 3, 4, 5, 6, 7, 8]) kr ?_
        refine yan [(0, 30, (.slice a_p0 p0.length c_p0)), (1, 31, (.string k71))] kr (fun _ => by kernel_rfl) ?_
        obtain ⟨⟨r91, r92⟩, Xr86, R2⟩ := bind_some R2
        refine ybl z kr z (f := 43) (args := #[(.slice a_p0 p0.length c_p0), (.string k71)]) kr (member_Find_ok (RSl.mono h_p0 ((L4.trans L17).trans L32)) S85 Xr86) ?_
        rintro _ w87 ⟨I88, w_r91, rfl, L89, S90, h_r91⟩
        refine ⟨_, rfl, trivial, ?_⟩
        refine yan [(3, 29, (.tuple #[(vJ r91 w_r91), (.bool r92)])), (4, 33, (vJ r91 w_r91)), (5, 34, (.bool r92))] kr (fun _ => by kernel_rfl) ?_
        refine ybj S90 z kr z (.cells (cs_qJ z_qJ zw_qJ).toArray 74 (0, 0)) (fun b => .pointer (some ⟨b, 0, none⟩)) kr tv ?_
        intro b93 w96 S95
        refine ybp S95 z kr z 0 z z kr kr kr ((cs_qJ r91 w_r91).toArray) kr tv ?_
        intro w98 S97
        refine yan [(8, 10, (.bool r92))] kr (fun _ => by kernel_rfl) ?_
        refine yp ?_
        refine ye ?_
        refine W.seq ?_
        refine W.region (l := [0, 1, 2, 3]) kr ?_
        refine yan [(0, 35, (.pointer (some ⟨b93, 1, none⟩)))] kr (fun _ => by kernel_rfl) ?_
        refine ybm z kr kr z (v := (.slice w_r91.In.a r91.In.length w_r91.In.c)) (fun w' hw' => cell_one ((rd_f (S97.rd (List.Mem.head _))) w' hw') kr) ?_
        refine yan [(2, 37, (.int .i64 (r91.In.length : Int))), (3, 38, (.int .i64 0))] kr (fun _ => by kernel_rfl) ?_
        refine yp ?_
        refine ye ?_
        refine yl ?_
        obtain ⟨s102, hloop104, R2⟩ := bind_some R2
        have S105 := S97.drop
        have S106 := S105.front2
        have S107 := S106.front1
        have S108 := S107.front2
        have hlt112 := (h_r91.In).len_lt
        refine W.weaken (fr' := [(0, (.slice a_p0 p0.length c_p0)), (5, (.map (some b7))), (7, (.slice a_s33 s33.length c_s33)), (24, (.pointer (some ⟨b24, 0, none⟩))), (36, (.slice w_r91.In.a r91.In.length w_r91.In.c)), (37, (.int .i64 (r91.In.length : Int))), (38, (.int .i64 ((0 : Nat) : Int)))]) (yat (m := r91.In.length) hloop104 (fun (i103 : Nat) (s102 : List By8) fr w => ∃ (I100 : Mem), ∃ (a_s102 : Option Addr), ∃ (c_s102 : Nat), ∃ (C_s102 : Mem), fr = [(0, (.slice a_p0 p0.length c_p0)), (5, (.map (some b7))), (7, (.slice a_s102 s102.length c_s102)), (24, (.pointer (some ⟨b24, 0, none⟩))), (36, (.slice w_r91.In.a r91.In.length w_r91.In.c)), (37, (.int .i64 (r91.In.length : Int))), (38, (.int .i64 (i103 : Int)))] ∧ I88.Le I100 ∧ St E w I100 ((C_s19) :: (D76) :: (C_s102) :: Os) ∧ OwnSl 9 1 RStr I100 C_s102 a_s102 c_s102 s102) ⟨I88, a_s33, c_s33, C_s33, rfl, Mem.Le.refl _, S108, (OwnSl.mono h_s33 L89)⟩ ?roundt99 ?lastt99) (Sub.cons z (Sub.cons z (Sub.cons z (Sub.cons z (Sub.cons z (Sub.cons z (Sub.cons z Sub.nil)))))))
        case roundt99 =>
          rintro i103 s102 _ w109 hi113 ⟨I100, a_s102, c_s102, C_s102, rfl, L101, S110, h_s102⟩ x111 R3
          refine W.seq ?_
          refine W.region (l := [0]) kr ?_
          refine yan [(0, 39, (.bool (decide ((i103 : Int) < (r91.In.length : Int)))))] kr (fun _ => by kernel_rfl) ?_
          refine yp ?_
          refine ye ?_
          refine W.seq ?_
          refine W.cond (b := (decide ((i103 : Int) < (r91.In.length : Int)))) z z (fun H => ?_) (fun H => ?_)
          rotate_left
          · exact absurd H (by first | (simp; done) | (simp; omega))
          clear H
          refine W.skip ?_
          refine ye ?_
          refine W.seq ?_
          refine yl ?_
          refine W.seq ?_
          refine W.region (l := [0, 1, 2]) kr ?_
          obtain ⟨x114, Xx114, R3⟩ := bind_some R3
          obtain ⟨h0_x114, h1_x114, Xx114⟩ := idx_some Xx114
          obtain ⟨ha_x114, cs_x114, hn_x114, hr_x114, Zx114⟩ := ((RSl.mono h_r91.In L101)).el _ _ Xx114
          obtain rfl := hr_x114
          refine ybg (e := 9) (sz := 1) z kr kr kr z ha_x114 z h0_x114 h1_x114 ?_
          refine ybm z kr kr z (v := (.string x114)) (fun w' hw' => Zx114.cell0 kr ((rd_f S110.im) w' hw')) ?_
          refine yan [(2, 12, (.string x114))] kr (fun _ => by kernel_rfl) ?_
          refine yp ?_
          refine ye ?_
          refine W.seq ?_
          refine W.region (l := [0, 1, 2, 3, 4, 5, 6, 7, 8, 9]) kr ?_
          refine yan [(0, 42, (.map (some b7))), (1, 43, (.string x114))] kr (fun _ => by kernel_rfl) ?_
          obtain ⟨x115, Xx115, R3⟩ := bind_some R3
          obtain ⟨v_x115, hv_x115, hq_x115⟩ := OwnMap.lookup (OwnMap.mono h_s19 ((L32.trans L89).trans L101)) (t := 125) (kt := 9) (et := 4) kr (keyLaw_str (kt := 9) kr) x114 (zv := (.bool false)) (z0 := false) kr rfl
          rw [Option.some.inj Xx115] at hv_x115
          obtain rfl := (List.cons.inj hv_x115).1
          refine WO.lookup z kr z z hq_x115 ((rd_f (S110.rd (List.Mem.head _)))) (.bool x115) z ?_
          refine yan [(3, 45, (.bool (!x115))), (4, 46, (.bool (!x115)))] kr (fun _ => by kernel_rfl) ?_
          obtain ⟨j116, R4, R3⟩ := bind_some R3
          refine WO.join (l1 := [5, 6, 7, 8, 9]) (l2 := []) (J := (fun fr w => ∃ (I118 : Mem), fr = [(0, (.slice a_p0 p0.length c_p0)), (5, (.map (some b7))), (7, (.slice a_s102 s102.length c_s102)), (12, (.string x114)), (24, (.pointer (some ⟨b24, 0, none⟩))), (36, (.slice w_r91.In.a r91.In.length w_r91.In.c)), (37, (.int .i64 (r91.In.length : Int))), (38, (.int .i64 (i103 : Int))), (51, (.bool j116))] ∧ I100.Le I118 ∧ St E w I118 ((C_s19) :: (D76) :: (C_s102) :: Os))) ?restj116 ?waysj116
          case waysj116 =>
            refine WO.caseb (!x115) (fun H => ?_) (fun H => ?_)
            · replace R4 := cond_t H R4
              refine yae 46 z (show Value.bool (!x115) = Value.bool true by rw [H]) ?_
              refine yan [(5, 47, (.slice a_p0 p0.length c_p0)), (6, 48, (.string x114))] kr (fun _ => by kernel_rfl) ?_
              obtain ⟨r125, Xr120, R4⟩ := bind_some R4
              refine ybl z kr z (f := 63) (args := #[(.slice a_p0 p0.length c_p0), (.string x114)]) kr (member_at_ok (RSl.mono h_p0 ((((L4.trans L17).trans L32).trans L89).trans L101)) S110 Xr120) ?_
              rintro _ w121 ⟨I122, rfl, L123, S124⟩
              refine ⟨_, rfl, trivial, ?_⟩
              refine yan [(8, 50, (.bool (decide (r125 ≥ 0)))), (9, 51, (.bool (decide (r125 ≥ 0))))] kr (fun _ => by kernel_rfl) ?_
              have he := Option.some.inj R4
              subst j116
              refine WO.weaken (fr' := [(0, (.slice a_p0 p0.length c_p0)), (5, (.map (some b7))), (7, (.slice a_s102 s102.length c_s102)), (12, (.string x114)), (24, (.pointer (some ⟨b24, 0, none⟩))), (36, (.slice w_r91.In.a r91.In.length w_r91.In.c)), (37, (.int .i64 (r91.In.length : Int))), (38, (.int .i64 (i103 : Int))), (51, (.bool (decide (r125 ≥ 0))))]) (WO.meet ⟨I122, rfl, L123, S124⟩) (Sub.cons z (Sub.cons z (Sub.cons z (Sub.cons z (Sub.cons z (Sub.cons z (Sub.cons z (Sub.cons z (Sub.cons z Sub.nil)))))))))
            · replace R4 := cond_f H R4
              refine yae 46 z (show Value.bool (!x115) = Value.bool false by rw [H]) ?_
              refine ybq z kr z ?_
              refine ybq z kr z ?_
              refine ybq z kr z ?_
              refine ybq z kr z ?_
              refine yan [(9, 51, (.bool false))] kr (fun _ => by kernel_rfl) ?_
              have he := Option.some.inj R4
              subst j116
              refine WO.weaken (fr' := [(0, (.slice a_p0 p0.length c_p0)), (5, (.map (some b7))), (7, (.slice a_s102 s102.length c_s102)), (12, (.string x114)), (24, (.pointer (some ⟨b24, 0, none⟩))), (36, (.slice w_r91.In.a r91.In.length w_r91.In.c)), (37, (.int .i64 (r91.In.length : Int))), (38, (.int .i64 (i103 : Int))), (51, (.bool false))]) (WO.meet ⟨I100, rfl, Mem.Le.refl _, S110⟩) (Sub.cons z (Sub.cons z (Sub.cons z (Sub.cons z (Sub.cons z (Sub.cons z (Sub.cons z (Sub.cons z (Sub.cons z Sub.nil)))))))))
          case restj116 =>
            rintro _ w126 ⟨I118, rfl, L119, S127⟩
            refine yp ?_
            refine ye ?_
            obtain ⟨j128, R4, R3⟩ := bind_some R3
            refine W.join (J := (fun fr w => ∃ (I130 : Mem), ∃ (a_j128 : Option Addr), ∃ (c_j128 : Nat), ∃ (C_j128 : Mem), fr = [(0, (.slice a_p0 p0.length c_p0)), (5, (.map (some b7))), (7, (.slice a_j128 j128.length c_j128)), (24, (.pointer (some ⟨b24, 0, none⟩))), (36, (.slice w_r91.In.a r91.In.length w_r91.In.c)), (37, (.int .i64 (r91.In.length : Int))), (38, (.int .i64 (i103 : Int)))] ∧ I118.Le I130 ∧ St E w I130 ((C_s19) :: (D76) :: (C_j128) :: Os) ∧ OwnSl 9 1 RStr I130 C_j128 a_j128 c_j128 j128)) ?restj128 ?waysj128
            case waysj128 =>
              refine W.cond (b := j116) z z (fun H => ?_) (fun H => ?_)
              · replace R4 := cond_t H R4
                refine W.region (l := [0, 1, 2, 3, 4]) kr ?_
                refine yan [(0, 52, (.slice a_s102 s102.length c_s102)), (1, 53, (.string x114))] kr (fun _ => by kernel_rfl) ?_
                refine yab (rel := RStr) (xs := ([x114] : List By8)) S127 z kr z 9 1 [[(.string x114)]] kr z ((Elr.cons z Elr.nil)) tv ?_
                intro a135 C133 w137 S136 ho134
                have S139 := S136.front3
                obtain ⟨x140, Xx140, R4⟩ := bind_some R4
                obtain ⟨h0_x140, he_x140⟩ := app_some Xx140
                refine ya7 (e' := 9) (b := 16) (zs := #[(.string eB)]) S139 (OwnSl.mono h_s102 L119) z kr z kr kr kr z z z z ho134.sl (S139.rd (List.Mem.tail _ (List.Mem.head _))) h0_x140 he_x140 tv ?_
                intro a141 c142 w143 C144 S145 ho146
                have S147 := S145.front1
                have S148 := S147.drop
                refine yan [(4, 7, (.slice a141 x140.length c142))] kr (fun _ => by kernel_rfl) ?_
                refine yp ?_
                have S149 := S148.front2
                have S150 := S149.front2
                have he := Option.some.inj R4
                subst j128
                refine En.weaken (fr' := [(0, (.slice a_p0 p0.length c_p0)), (5, (.map (some b7))), (7, (.slice a141 x140.length c142)), (24, (.pointer (some ⟨b24, 0, none⟩))), (36, (.slice w_r91.In.a r91.In.length w_r91.In.c)), (37, (.int .i64 (r91.In.length : Int))), (38, (.int .i64 (i103 : Int)))]) (En.round ⟨I118, a141, c142, C144, rfl, Mem.Le.refl _, S150, ho146⟩) (Sub.cons z (Sub.cons z (Sub.cons z (Sub.cons z (Sub.cons z (Sub.cons z (Sub.cons z Sub.nil)))))))
              · replace R4 := cond_f H R4
                refine W.skip ?_
                have he := Option.some.inj R4
                subst j128
                refine En.weaken (fr' := [(0, (.slice a_p0 p0.length c_p0)), (5, (.map (some b7))), (7, (.slice a_s102 s102.length c_s102)), (24, (.pointer (some ⟨b24, 0, none⟩))), (36, (.slice w_r91.In.a r91.In.length w_r91.In.c)), (37, (.int .i64 (r91.In.length : Int))), (38, (.int .i64 (i103 : Int)))]) (En.round ⟨I118, a_s102, c_s102, C_s102, rfl, Mem.Le.refl _, S127, (OwnSl.mono h_s102 L119)⟩) (Sub.cons z (Sub.cons z (Sub.cons z (Sub.cons z (Sub.cons z (Sub.cons z (Sub.cons z Sub.nil)))))))
            case restj128 =>
              rintro _ w151 ⟨I130, a_j128, c_j128, C_j128, rfl, L131, S152, h_j128⟩
              refine yk ?_
              refine ye ?_
              refine W.region (l := [0, 1]) kr ?_
              refine WO.incr (j := i103) z kr z (by first | omega | (dsimp only at *; omega)) ?_
              refine yan [(1, 38, (.int .i64 ((i103 + 1 : Nat) : Int)))] kr (fun _ => by kernel_rfl) ?_
              refine yp ?_
              have he := Option.some.inj R3
              subst x111
              refine En.weaken (fr' := [(0, (.slice a_p0 p0.length c_p0)), (5, (.map (some b7))), (7, (.slice a_j128 j128.length c_j128)), (24, (.pointer (some ⟨b24, 0, none⟩))), (36, (.slice w_r91.In.a r91.In.length w_r91.In.c)), (37, (.int .i64 (r91.In.length : Int))), (38, (.int .i64 ((i103 + 1 : Nat) : Int)))]) (En.round ⟨I130, a_j128, c_j128, C_j128, rfl, ((L101.trans L119).trans L131), S152, h_j128⟩) (Sub.cons z (Sub.cons z (Sub.cons z (Sub.cons z (Sub.cons z (Sub.cons z (Sub.cons z Sub.nil)))))))
        case lastt99 =>
          rintro _ w153 ⟨I100, a_s102, c_s102, C_s102, rfl, L101, S154, h_s102⟩
          refine W.seq ?_
          refine W.region (l := [0]) kr ?_
          refine yan [(0, 39, (.bool (decide ((r91.In.length : Int) < (r91.In.length : Int)))))] kr (fun _ => by kernel_rfl) ?_
          refine yp ?_
          refine ye ?_
          refine W.seq ?_
          refine W.cond (b := (decide ((r91.In.length : Int) < (r91.In.length : Int)))) z z (fun H => ?_) (fun H => ?_)
          · exact absurd H (by first | (simp; done) | (simp; omega))
          clear H
          refine W.exit ?_
          refine yn ?_
          refine yo ?_
          refine yr ?_
          refine yk ?_
          refine En.weaken (fr' := [(0, (.slice a_p0 p0.length c_p0)), (5, (.map (some b7))), (7, (.slice a_s102 s102.length c_s102)), (24, (.pointer (some ⟨b24, 0, none⟩)))]) (En.round ⟨k71, x72, rm73, s102, hp77, hy82.trans (congrArg some (Option.some.inj R2).symm), I100, a_s102, c_s102, C_s102, D76, _, rfl, ((L32.trans L89).trans L101), S154, h_s102, (IterSt.mono hit80 (L89.trans L101))⟩) (Sub.cons z (Sub.cons z (Sub.cons z (Sub.cons z Sub.nil))))
    · replace R1 := condM_f H R1
      refine W.exit ?_
      refine yn ?_
      refine yo ?_
      replace G := R1
      refine yr ?_
      refine ye ?_
      refine W.seq ?_
      refine W.region (l := [0, 1, 2, 3]) kr ?_
      refine yan [(0, 69, (.map (some b7)))] kr (fun _ => by kernel_rfl) ?_
      refine ybl z kr z (f := 67) (args := #[(.map (some b7))]) kr (keys67_ok S22) ?_
      rintro _ w176 ⟨b174, rfl, S175⟩
      refine ⟨_, rfl, trivial, ?_⟩
      have S178 := S175.front1
      have S179 := S178.front1
      obtain ⟨r180, hx181, G⟩ := optM_some G
      refine ybl z kr z (f := 66) (args := #[(.func (.func 100) #[] #[(.pointer (some ⟨b174, 0, none⟩))])]) kr (sorted66_67_ok h_s19 S179 hx181) ?_
      rintro _ w188 ⟨I182, a183, c184, rfl, L185, S186, hp187⟩
      refine ⟨_, rfl, trivial, ?_⟩
      refine yan [(3, 4, (.slice a183 r180.length c184))] kr (fun _ => by kernel_rfl) ?_
      refine yp ?_
      refine ye ?_
      refine yq ?_
      have S189 := S186.drop
      have S190 := S189.drop
      have he : r180 = r := G
      subst r
      exact En.ret1 z (.slice a183 r180.length c184) z ⟨I182, a183, c184, rfl, ((L4.trans L17).trans L185), S190, hp187⟩
def slices_Index_string (p0 : List By8) (p1 : By8) : Option Int := (forN (fun (i4 : Nat) (_s : Unit) => (idx p0 (i4 : Int)).bind (fun x11 => (bif (sEq p1 x11) then some (.inr (i4 : Int)) else some (.inl ())))) p0.length 0 ()).bind (fun (t : Unit ⊕ (Int)) => match t with | .inl _ => some (-1) | .inr s13 => some s13)
theorem slices_Index_string_ok {p0 : List By8} {p1 : By8} {a_p0 : Option Addr} {c_p0 : Nat} (h_p0 : RSl 1 RStr I a_p0 c_p0 p0) (hS : St E w I Os) {r : Int} (G : slices_Index_string p0 p1 = some r) :
    Calls P 65 #[(Sl a_p0 p0 c_p0), (.string p1)] w (RT E I Os (Iv r)) := by
 refine calls_W (fn := Tryz.f65) rfl rfl rfl ?_
 unfold slices_Index_string at G
 refine yf [0] (ya 0 1 z (yb (W.seq (yf nL3 (ya 0 3 z (yb (yl (bsk G fun t1 hloop5 G => have hlt9 := (h_p0).len_lt; W.wk (yap (m := p0.length) hloop5 (fun (i4 : Nat) (_s : Unit) => JI E I [(0, Sl a_p0 p0 c_p0), (1, .string p1), (7, Nv p0.length), (8, Nv i4)] Os) ⟨I, rfl, lr, hS⟩ ?_ ?_)))))))))
 rintro i4 _ _ w6 hi10 ⟨I2, rfl, L3, S7⟩ x8 R1 hext1
 refine yf [0] (ya 0 1 z (yb (W.seq (yar fun _ => W.skip (ye (W.seq (yl (yf nL2 (ya 0 2 z (y0 nL6 (ya 0 3 z ?_)))))))))))
 obtain ⟨x11, R1, Hx11, _, rfl, Zx11⟩ := sx I2 h_p0 R1
 refine yaa 9 1 Hx11 z (yao Zx11 S7.rm z (ya 5 1 z (yb (yy R1 (fun H R1 => ?_) (fun H R1 => ?_)))))
 refine yf nL2 (ya 0 2 z (yb (yq (ym (yh (yu ?_))))))
 obtain rfl := hext1 _ (sj R1).symm
 exact ym (yh (sj G ▸ yw ⟨I2, rfl, L3, S7⟩))
 exact W.skip (yk (ye (yag nL2 (yam i4 z (ya 1 1 z (yp (yt ⟨(), (sj R1).symm, I2, rfl, L3, S7⟩)))))))
 rintro _ _ w14 ⟨I2, rfl, L3, S15⟩ he
 cases he
 exact yf [0] (ya 0 1 z (yb (W.seq (yas fun _ => W.exit (yn (yo (yr (ye (yf [0] (ya 0 1 z (yb (yq (sj G ▸ yw ⟨I2, rfl, L3, S15⟩)))))))))))))
def slices_Contains_string (p0 : List By8) (p1 : By8) : Option Bool := (slices_Index_string p0 p1).bind (fun r6 => some (decide (r6 ≥ 0)))
theorem slices_Contains_string_ok {p0 : List By8} {p1 : By8} {a_p0 : Option Addr} {c_p0 : Nat} (h_p0 : RSl 1 RStr I a_p0 c_p0 p0) (hS : St E w I Os) {r : Bool} (G : slices_Contains_string p0 p1 = some r) :
    Calls P 44 #[(Sl a_p0 p0 c_p0), (.string p1)] w (RT E I Os (.bool r)) := by
 refine calls_W (fn := Tryz.f44) rfl rfl rfl ?_
 unfold slices_Contains_string at G
 exact yf [0] (ya 0 1 z (y0 nL5 (ya 0 2 z (bsk G fun r6 Xr1 G => WO.c1 (slices_Index_string_ok h_p0 hS Xr1) z fun I3 w2 L4 S5 => ya 3 2 z (yb (yq (sj G ▸ yw ⟨I3, rfl, L4, S5⟩)))))))
noncomputable def member_Is (p0 : List qJ) (p1 : By8) (p2 : By8) : Option Bool := (member_All p0 p1).bind (fun r6 => (slices_Contains_string r6 p2).bind (fun r12 => some r12))
theorem member_Is_ok {p0 : List qJ} {p1 : By8} {p2 : By8} {a_p0 : Option Addr} {c_p0 : Nat} (h_p0 : RSl 2 R_qJ I a_p0 c_p0 p0) (hS : St E w I Os) {r : Bool} (G : member_Is p0 p1 p2 = some r) :
    Calls P 24 #[(Sl a_p0 p0 c_p0), (.string p1), (.string p2)] w (RT E I Os (.bool r)) := by
 refine calls_W (fn := Tryz.f24) rfl rfl rfl ?_
 unfold member_Is at G
 refine yf [0] (ya 0 1 z (y0 nL6 (ya 0 2 z (bsk G fun r6 Xr1 G => yai (member_All_ok h_p0 hS Xr1) ?_))))
 rintro _ w2 ⟨I3, a_r6, c_r6, rfl, L4, S5, h_r6⟩
 exact cv (ya 3 1 z (bsk G fun r12 Xr7 G => WO.c1 (slices_Contains_string_ok h_r6 S5 Xr7) z fun I9 w8 L10 S11 => ya 5 1 z (yb (yq (sj G ▸ yw ⟨I9, rfl, le, S11⟩)))))
noncomputable def grants_Owns (p0 : qC) (p1 : By8) (p2 : By8) : Option Bool := (catalog_Find p0 p2).bind (fun (r10, r11) => ((bif r11 then (member_Is p0.Roles p1 r10.Owner).bind (fun r27 => some r27) else some false)).bind (fun (j18 : Bool) => some j18))
theorem grants_Owns_ok {p0 : qC} {p1 : By8} {p2 : By8} {w_p0 : W_qC} (h_p0 : ok_qC I p0 w_p0) (hS : St E w I Os) {r : Bool} (G : grants_Owns p0 p1 p2 = some r) :
    Calls P 48 #[(vC p0 w_p0), (.string p1), (.string p2)] w (RT E I Os (.bool r)) := by
 refine calls_W (fn := Tryz.f48) rfl rfl rfl ?_
 unfold grants_Owns at G
 refine yf nL2 (yz hS (cs_qC p0 w_p0) 33 z fun b1 w4 S3 => ya 1 1 z (y0 nL9 (yx ((cs_qC p0 w_p0)) (S3.rf m0) z (ya 1 1 z ?_))))
 obtain ⟨⟨r10, r11⟩, Xr5, G⟩ := bsm G
 refine yai (catalog_Find_ok h_p0 S3 Xr5) ?_
 rintro _ w6 ⟨I7, w_r10, rfl, L8, S9, h_r10⟩
 refine cv (ya 3 3 z (yz S9 (cs_qT z_qT zw_qT) 104 z fun b12 w15 S14 => y7 S14 0 (cs_qT r10 w_r10) fun w17 S16 => ya 8 1 z (y0 nL10 (ya 0 2 z (bsk G fun j18 R1 G => yal (l1 := [2, 3, 4, 5, 6, 7, 8]) (J := JI E I7 [(23, .bool j18)] Os) ?_ ?_)))))
 refine yak R1 (fun H R1 => ?_) (fun H R1 => ?_)
 exact y6 16 H (yg 2 1 [2] z (yj (S16.rf m1) z (yg 4 2 [1] z (yj (S16.rf m0) z (bsk R1 fun r27 Xr22 R1 => WO.c1 (member_Is_ok (RSl.mono h_p0.Roles L8) S16 Xr22) z fun I24 w23 L25 S26 => ya 8 1 z (sj R1 ▸ y4 ⟨I24, rfl, L25, S26.d2⟩))))))
 refine y6 16 H ?_
 iterate 6 refine yaj ?_
 exact ya 8 1 z (sj R1 ▸ y4 ⟨I7, rfl, lr, S16.d2⟩)
 rintro _ w32 ⟨I20, rfl, L21, S33⟩
 exact ya 9 1 z (yb (yq (sj G ▸ yw ⟨I20, rfl, le, S33⟩)))
noncomputable def why_asked_owns (p0 : why_asked) (p1 : By8) : Option Bool := (grants_Owns p0.c p1 p0.table_).bind (fun r10 => some r10)
theorem why_asked_owns_ok {p0 : why_asked} {p1 : By8} {w_p0 : W_why_asked} (h_p0 : ok_why_asked I p0 w_p0) (hS : St E w I Os) {r : Bool} (G : why_asked_owns p0 p1 = some r) :
    Calls P 35 #[(.agg (cs_why_asked p0 w_p0).toArray), (.string p1)] w (RT E I Os (.bool r)) := by
 refine calls_W (fn := Tryz.f35) rfl rfl rfl ?_
 unfold why_asked_owns at G
 exact yf nL2 (yz hS (cs_why_asked p0 w_p0) 79 z fun b1 w4 S3 => ya 1 1 z (y0 nL7 (yg 0 1 [0] z (yx ((cs_qC p0.c w_p0.c)) (S3.rf m0) z (yg 2 2 [5] z (yj (S3.rf m0) z (bsk G fun r10 Xr5 G => WO.c1 (grants_Owns_ok h_p0.c S3 Xr5) z fun I7 w6 L8 S9 => ya 6 1 z (yb (yq (sj G ▸ yw ⟨I7, rfl, L8, S9.drop⟩))))))))))
def why_asked_fits (p0 : why_asked) (p1 : qG) (p2 : Bool) : Option Bool := (member_Find p0.c.Roles p1.To).bind (fun (r14, r15) => (some (((r15 && (p1.Priv == p0.priv)) && (sEq p1.Table p0.table_)) && (p1.Option || (!p2)))).bind (fun (q28 : Bool) => some q28))
theorem why_asked_fits_ok {p0 : why_asked} {p1 : qG} {p2 : Bool} {w_p0 : W_why_asked} (h_p0 : ok_why_asked I p0 w_p0) (hS : St E w I Os) {r : Bool} (G : why_asked_fits p0 p1 p2 = some r) :
    Calls P 34 #[(.agg (cs_why_asked p0 w_p0).toArray), (vG p1), (.bool p2)] w (RT E I Os (.bool r)) := by
 refine calls_W (fn := Tryz.f34) rfl rfl rfl ?_
 unfold why_asked_fits at G
 refine yf nL3 (yz hS (cs_why_asked p0 w_p0) 79 z fun b1 w4 S3 => yz S3 (cs_qG p1) 50 z fun b5 w8 S7 => ya 2 1 z (y0 nL12 (yg 0 2 [0, 2] z (yj (S7.rf m1) z (yg 3 1 [0] z (yj (S7.rf m0) z ?_))))))
 obtain ⟨⟨r14, r15⟩, Xr9, G⟩ := bsm G
 refine yai (member_Find_ok h_p0.c.Roles S7 Xr9) ?_
 rintro _ w10 ⟨I11, w_r14, rfl, L12, S13, h_r14⟩
 exact cv (ya 6 3 z (yz S13 (cs_qJ z_qJ zw_qJ) 74 z fun b16 w19 S18 => y7 S18 0 (cs_qJ r14 w_r14) fun w21 S20 => ya 11 1 z (y0 nL24 (ya 0 2 z (yaq [2, 3, 4, 5, 6] 7 19 25 (.refl (r15 && (p1.Priv == p0.priv))) (fun _ => yg 2 1 [3] z (yj (S20.rf m1) z (yg 4 1 [4] z (yj (S20.rf m2) z (ya 6 2 z yah))))) (ya 8 1 z (yaq [9, 10, 11, 12, 13] 14 26 32 (.refl ((r15 && (p1.Priv == p0.priv)) && (sEq p1.Table p0.table_))) (fun _ => yg 9 1 [2] z (yj (S20.rf m1) z (yg 11 1 [5] z (yj (S20.rf m2) z (ya 13 2 z yah))))) (ya 15 1 z (bsq G fun q28 Xq28 G => yaq [16, 17, 18, 19, 20, 21] 22 33 40 Xq28 (fun _ => yg 16 1 [4] z (yj (S20.rf m1) z (ya 18 1 z (ya2 [19, 20] 21 36 39 (.refl (p1.Option || (!p2))) (fun _ => ya 19 3 z yah) (ya 22 1 z yah))))) (ya 23 1 z (yb (yq (sj G ▸ yw ⟨I11, rfl, L12, S20.d3⟩)))))))))))))
noncomputable def why_asked_step (p0 : why_asked) (p1 : List (Int × Int)) (p2 : By8) (p3 : Bool) : Option (Int × Int) := (forE (fun (i10 : Nat) (s : Int × Int) => match s with | (s8, s9) => (idx p0.c.Grants (i10 : Int)).bind (fun x17 => (some ((mget iEq p1 (i10 : Int)).getD 0)).bind (fun (x24 : Int) => ((bif (mhas iEq p1 (i10 : Int)) then (why_asked_fits p0 x17 p3).bind (fun r34 => some r34) else some false)).bind (fun (j25 : Bool) => ((bif j25 then (member_Is p0.c.Roles p2 x17.To).bind (fun r48 => some r48) else some false)).bind (fun (j39 : Bool) => ((bif (j39 && ((decide (s8 < 0)) || (decide (x24 < s9)))) then some ((i10 : Int), x24) else some (s8, s9))).bind (fun ((s65, s66) : Int × Int) => some (s65, s66))))))) p0.c.Grants.length 0 ((-1), 0)).bind (fun (s8, s9) => some (s8, s9))
theorem why_asked_step_ok {p0 : why_asked} {p1 : List (Int × Int)} {p2 : By8} {p3 : Bool} {w_p0 : W_why_asked} {m_p1 : Nat} {C_p1 : Mem} (h_p0 : ok_why_asked I p0 w_p0) (h_p1 : OwnMap (Value.int .i64) (val1 (RInt .i64)) I C_p1 m_p1 p1) (hm_p1 : (C_p1) ∈ Os) (hS : St E w I Os) {r : Int × Int} (G : why_asked_step p0 p1 p2 p3 = some r) :
    Calls P 39 #[(.agg (cs_why_asked p0 w_p0).toArray), (.map (some m_p1)), (.string p2), (.bool p3)] w (RT E I Os (.tuple #[(Iv r.1), (Iv r.2)])) := by
 refine calls_W (fn := Tryz.f39) rfl rfl rfl ?_
 unfold why_asked_step at G
 refine yf nL3 (yz hS (cs_why_asked p0 w_p0) 79 z fun b1 w4 S3 => ya 1 2 z (y0 nL2 (ya 0 2 z (yb (W.seq (yf nL5 (yg 0 2 [0, 3] z (yj (S3.rf m0) z (ya 3 2 z (yb (yl ?_)))))))))))
 obtain ⟨⟨s8, s9⟩, hloop11, G⟩ := bsm G
 have hlt15 := (h_p0.c.Grants).len_lt
 refine W.wk (yat (m := p0.c.Grants.length) hloop11 (fun (i10 : Nat) (s : Int × Int) fr w => match s with | (s8, s9) => ∃ I6, fr = [(1, .map (some m_p1)), (2, .string p2), (3, .bool p3), (4, Pt b1 0), (10, Iv s8), (11, Iv s9), (18, Sl w_p0.c.Grants.a p0.c.Grants w_p0.c.Grants.c), (19, Nv p0.c.Grants.length), (20, Nv i10)] ∧ I.Le I6 ∧ St E w I6 ((Bx b1 (cs_why_asked p0 w_p0) 79) :: Os)) ⟨I, rfl, lr, S3⟩ ?_ ?_)
 rintro i10 ⟨s8, s9⟩ _ w12 hi16 ⟨I6, rfl, L7, S13⟩ x14 R1
 refine yf [0] (ya 0 1 z (yb (W.seq (yar fun _ => W.skip (ye (W.seq (yl (yf nL6 (ya 0 1 z ?_)))))))))
 obtain ⟨x17, R1, Hx17, _, rfl, Zx17⟩ := sx I6 h_p0.c.Grants R1
 refine yaa 50 5 Hx17 z (yau ((cs_qG x17)) Zx17 0 S13.rm z (yz S13 (cs_qG z_qG) 50 z fun b18 w21 S20 => ya 4 1 z (y7 S20 0 (cs_qG x17) fun w23 S22 => y0 nL8 (y8 0 26 (.map (some m_p1)) (ya 1 1 z ?_)))))
 obtain ⟨x24, Xx24, R1⟩ := bsm R1
 obtain ⟨v_x24, hv_x24, hq_x24⟩ := OwnMap.lookup (OwnMap.mono h_p1 L7) (t := 83) (kt := 3) (et := 3) kr (keyLaw_int (kt := 3) kr) (i10 : Int) (zv := (Iv 0)) (z0 := 0) kr rfl
 rw [sj Xx24] at hv_x24
 obtain rfl := (List.cons.inj hv_x24).1
 refine WO.lookup z kr z z hq_x24 ((rd_f (S22.rd (List.Mem.tail _ (List.Mem.tail _ hm_p1))))) (.tuple #[(Iv x24), (.bool (mhas iEq p1 (i10 : Int)))]) z ?_
 refine ya 3 5 z (y0 nL25 (ya 0 2 z (bsk R1 fun j25 R2 R1 => yal (l1 := [2, 3, 4, 5, 6]) (J := JI E I6 [(1, .map (some m_p1)), (2, .string p2), (3, .bool p3), (4, Pt b1 0), (10, Iv s8), (11, Iv s9), (12, Nv i10), (13, Pt b18 0), (14, Iv x24), (18, Sl w_p0.c.Grants.a p0.c.Grants w_p0.c.Grants.c), (19, Nv p0.c.Grants.length), (20, Nv i10), (37, .bool j25)] ((Bx b1 (cs_why_asked p0 w_p0) 79) :: (bG b18 x17) :: Os)) ?_ ?_)))
 refine yak R2 (fun H R2 => ?_) (fun H R2 => ?_)
 exact y6 32 H (yx ((cs_why_asked p0 w_p0)) (S22.rf m1) z (yx ((cs_qG x17)) (S22.rf m0) z (ya 4 1 z (bsk R2 fun r34 Xr29 R2 => WO.c1 (why_asked_fits_ok (h_p0.mono L7) S22 Xr29) z fun I31 w30 L32 S33 => ya 6 1 z (sj R2 ▸ y4 ⟨I31, rfl, L32, S33.front1⟩)))))
 refine y6 32 H ?_
 iterate 4 refine yaj ?_
 exact ya 6 1 z (sj R2 ▸ y4 ⟨I6, rfl, lr, S22.front1⟩)
 rintro _ w37 ⟨I27, rfl, L28, S38⟩
 refine ya 7 1 z (bsk R1 fun j39 R2 R1 => yal (l1 := [8, 9, 10, 11, 12, 13, 14, 15]) (J := JI E I27 [(1, .map (some m_p1)), (2, .string p2), (3, .bool p3), (4, Pt b1 0), (10, Iv s8), (11, Iv s9), (12, Nv i10), (14, Iv x24), (18, Sl w_p0.c.Grants.a p0.c.Grants w_p0.c.Grants.c), (19, Nv p0.c.Grants.length), (20, Nv i10), (46, .bool j39)] ((Bx b1 (cs_why_asked p0 w_p0) 79) :: Os)) ?_ ?_)
 refine yak R2 (fun H R2 => ?_) (fun H R2 => ?_)
 exact y6 38 H (yg 8 2 [0, 2] z (yj (S38.rf m0) z (yg 11 2 [0] z (yj (S38.rf m1) z (bsk R2 fun r48 Xr43 R2 => WO.c1 (member_Is_ok (up h_p0.c.Roles) S38 Xr43) z fun I45 w44 L46 S47 => ya 15 1 z (sj R2 ▸ y4 ⟨I45, rfl, L46, S47.front1.drop⟩))))))
 refine y6 38 H ?_
 iterate 7 refine yaj ?_
 exact ya 15 1 z (sj R2 ▸ y4 ⟨I27, rfl, lr, S38.front1.drop⟩)
 rintro _ w53 ⟨I41, rfl, L42, S54⟩
 refine ya 16 1 z (yaq [17, 18, 19, 20, 21, 22, 23] 24 47 55 (.refl (j39 && ((decide (s8 < 0)) || (decide (x24 < s9))))) (fun _ => ya 17 3 z (ya2 [20, 21, 22] 23 50 54 (.refl ((decide (s8 < 0)) || (decide (x24 < s9)))) (fun _ => ya 20 4 z yah) (ya 24 1 z yah))) (yb (bsk R1 fun j61 R2 R1 => yav (J := (fun fr w => ∃ (s65 : Int) (s66 : Int), ∃ I63, (s65, s66) = j61 ∧ fr = [(1, .map (some m_p1)), (2, .string p2), (3, .bool p3), (4, Pt b1 0), (10, Iv s65), (11, Iv s66), (18, Sl w_p0.c.Grants.a p0.c.Grants w_p0.c.Grants.c), (19, Nv p0.c.Grants.length), (20, Nv i10)] ∧ I41.Le I63 ∧ St E w I63 ((Bx b1 (cs_why_asked p0 w_p0) 79) :: Os))) ?_ ?_)))
 refine yy R2 (fun H R2 => ?_) (fun H R2 => ?_)
 exact yag nL4 (ya 0 4 z (yp (yt ⟨(i10 : Int), x24, I41, sj R2, rfl, lr, S54⟩)))
 exact W.skip (yt ⟨s8, s9, I41, sj R2, rfl, lr, S54⟩)
 rintro _ w67 ⟨s65, s66, I63, rfl, rfl, L64, S68⟩
 exact yk (ye (yag nL2 (yam i10 z (ya 1 1 z (yp (sj R1 ▸ yt ⟨I63, rfl, le, S68⟩))))))
 rintro _ w69 ⟨I6, rfl, L7, S70⟩
 exact yf [0] (ya 0 1 z (yb (W.seq (yas fun _ => W.exit (yn (yo (yr (ye (yf nL4 (ya 0 4 z (yb (yq (sj G ▸ yay ⟨I6, rfl, L7, S70.drop⟩)))))))))))))
noncomputable def why_asked_dists (p0 : why_asked) : Option (List (Int × Int)) := (loopO (fun (s : Bool × (List (Int × Int))) => match s with | (s12, s13) => (bif s12 then (forE (fun (i24 : Nat) (s : Bool × (List (Int × Int))) => match s with | (s22, s23) => ((idx p0.c.Grants (i24 : Int)).bind (fun x35 => (why_asked_fits p0 x35 false).bind (fun r47 => (bif (!r47) then some (s22, s23) else (why_asked_owns p0 x35.By).bind (fun r56 => ((bif (!r56) then (why_asked_step p0 s23 x35.By true).bind (fun (r66, r67) => (bif (decide (r66 < 0)) then some (.inl ()) else some (.inr r67))) else some (.inr 0))).bind (fun (t : Unit ⊕ Int) => match t with | (.inl ()) => some (s22, s23) | (.inr s71) => (some ((mget iEq s23 (i24 : Int)).getD 0)).bind (fun (x76 : Int) => (some ((!(mhas iEq s23 (i24 : Int))) || (decide ((w64 (s71 + 1)) < x76)))).bind (fun (q77 : Bool) => ((bif q77 then some (true, (mset iEq s23 (i24 : Int) (w64 (s71 + 1)))) else some (s22, s23))).bind (fun ((s89, s90) : Bool × (List (Int × Int))) => some (s89, s90)))))))))).bind (fun ((s48, s49) : Bool × (List (Int × Int))) => some (s48, s49))) p0.c.Grants.length 0 (false, s13)).bind (fun (s22, s23) => some (.inl (s22, s23))) else some (.inr s13))) (true, ([] : List (Int × Int)))).bind (fun (s99 : List (Int × Int)) => some s99)
theorem why_asked_dists_ok {p0 : why_asked} {w_p0 : W_why_asked} (h_p0 : ok_why_asked I p0 w_p0) (hS : St E w I Os) {r : (List (Int × Int))} (G : why_asked_dists p0 = some r) :
    Calls P 38 #[(.agg (cs_why_asked p0 w_p0).toArray)] w (fun e w' => ∃ (I' : Mem) (rm0 : Nat) (rC0 : Mem), e = .returned (.map (some rm0)) ∧ I.Le I' ∧ St E w' I' (rC0 :: Os) ∧ OwnMap (Value.int .i64) (val1 (RInt .i64)) I' rC0 rm0 r) := by
 refine calls_W (fn := Tryz.f38) rfl rfl rfl ?_
 unfold why_asked_dists at G
 refine yf nL2 (yz hS (cs_why_asked p0 w_p0) 79 z fun b1 w4 S3 => y8 1 2 (.map none) (y0 nL2 (ybj S3 z kr z (.map #[] 0) (fun b => .map (some b)) kr tv ?_)))
 intro b5 w8 S7
 refine y8 1 3 (.map (some b5)) (yb (W.seq (yf [0] (ya 0 1 z (yb (yl (bsk G fun t9 hloop14 G => W.wk (ya6 hloop14 (fun (s : Bool × (List (Int × Int))) fr w => match s with | (s12, s13) => ∃ I10 C_s13, fr = [(1, Pt b1 0), (3, .map (some b5)), (4, .bool s12)] ∧ I.Le I10 ∧ St E w I10 ((Bx b1 (cs_why_asked p0 w_p0) 79) :: (C_s13) :: Os) ∧ OwnMap (Value.int .i64) (val1 (RInt .i64)) I10 C_s13 b5 s13) ⟨I, Gv.one b5 (.map #[] 0), rfl, lr, S7.front1, (OwnMap.nil (enc := (Value.int .i64)) (val := (val1 (RInt .i64))) (I := I) (m := b5))⟩ ?_))))))))
 rintro ⟨s12, s13⟩ _ w16 ⟨I10, C_s13, rfl, L11, S17, h_s13⟩ x18 R1 hext9
 refine W.seq (yf [0] (ya 0 1 z (yb (yy R1 (fun H R1 => ?_) (fun H R1 => ?_)))))
 refine W.skip (ye (yl (yf [0] (ya 0 1 z (y0 nL5 (yg 0 2 [0, 3] z (yj (S17.rf m0) z (ya 3 2 z (yb (yl ?_))))))))))
 obtain ⟨⟨s22, s23⟩, hloop25, R1⟩ := bsm R1
 have hlt29 := ((RSl.mono h_p0.c.Grants L11)).len_lt
 refine W.wk (yat (m := p0.c.Grants.length) hloop25 (fun (i24 : Nat) (s : Bool × (List (Int × Int))) fr w => match s with | (s22, s23) => ∃ I20 C_s23, fr = [(1, Pt b1 0), (3, .map (some b5)), (4, .bool s22), (16, Sl w_p0.c.Grants.a p0.c.Grants w_p0.c.Grants.c), (17, Nv p0.c.Grants.length), (18, Nv i24)] ∧ I10.Le I20 ∧ St E w I20 ((Bx b1 (cs_why_asked p0 w_p0) 79) :: (C_s23) :: Os) ∧ OwnMap (Value.int .i64) (val1 (RInt .i64)) I20 C_s23 b5 s23) ⟨I10, C_s13, rfl, lr, S17, h_s13⟩ ?_ ?_)
 rintro i24 ⟨s22, s23⟩ _ w26 hi30 ⟨I20, C_s23, rfl, L21, S27, h_s23⟩ x28 R2
 refine yf [0] (ya 0 1 z (yb (W.seq (yar fun _ => W.skip (ye (W.seq (bsk R2 fun j31 R3 R2 => yav (J := (fun fr w => ∃ (s48 : Bool) (s49 : List (Int × Int)), ∃ I33 C_s49, (s48, s49) = j31 ∧ fr = [(1, Pt b1 0), (3, .map (some b5)), (4, .bool s48), (16, Sl w_p0.c.Grants.a p0.c.Grants w_p0.c.Grants.c), (17, Nv p0.c.Grants.length), (18, Nv i24)] ∧ I20.Le I33 ∧ St E w I33 ((Bx b1 (cs_why_asked p0 w_p0) 79) :: (C_s49) :: Os) ∧ OwnMap (Value.int .i64) (val1 (RInt .i64)) I33 C_s49 b5 s49)) ?_ ?_)))))))
 refine yl (yf nL6 (ya 0 1 z ?_))
 obtain ⟨x35, R3, Hx35, _, rfl, Zx35⟩ := sx I20 h_p0.c.Grants R3
 refine yaa 50 5 Hx35 z (yau ((cs_qG x35)) Zx35 0 S27.rm z (yz S27 (cs_qG z_qG) 50 z fun b36 w39 S38 => ya 4 1 z (y7 S38 0 (cs_qG x35) fun w41 S40 => y0 [0] (ya 0 1 z (yb (W.seq (yf nL4 (yx ((cs_why_asked p0 w_p0)) (S40.rf m1) z (yx ((cs_qG x35)) (S40.rf m0) z (bsk R3 fun r47 Xr42 R3 => WO.c1 (why_asked_fits_ok (h_p0.mono le) S40 Xr42) z fun I44 w43 L45 S46 => ya 3 1 z (yb (yy R3 (fun H R3 => ?_) (fun H R3 => ?_)))))))))))))
 exact W.exit (yn (yr (yt ⟨s22, s23, I44, C_s23, sj R3, rfl, L45, S46.drop, (OwnMap.mono h_s23 L45)⟩)))
 refine W.skip (ye (W.seq (yf nL5 (yx ((cs_why_asked p0 w_p0)) (S46.rf m1) z (yg 1 1 [1] z (yj (S46.rf m0) z (bsk R3 fun r56 Xr51 R3 => WO.c1 (why_asked_owns_ok (h_p0.mono le) S46 Xr51) z fun I53 w52 L54 S55 => ya 4 1 z (yb (bsk R3 fun j57 R4 R3 => yav (J := (fun fr w => ∃ (s71 : Int), ∃ I59, (.inr s71) = j57 ∧ fr = [(1, Pt b1 0), (3, .map (some b5)), (4, .bool s22), (5, Nv i24), (7, Iv s71), (16, Sl w_p0.c.Grants.a p0.c.Grants w_p0.c.Grants.c), (17, Nv p0.c.Grants.length), (18, Nv i24)] ∧ I53.Le I59 ∧ St E w I59 ((Bx b1 (cs_why_asked p0 w_p0) 79) :: (C_s23) :: Os))) ?_ ?_)))))))))
 refine yy R4 (fun H R4 => ?_) (fun H R4 => ?_)
 refine yf nL10 (yx ((cs_why_asked p0 w_p0)) (S55.rf m1) z (y8 1 34 (.map (some b5)) (yg 2 1 [1] z (yj (S55.rf m0) z ?_))))
 obtain ⟨⟨r66, r67⟩, Xr61, R4⟩ := bsm R4
 refine WO.c1 (why_asked_step_ok (h_p0.mono le) (OwnMap.mono h_s23 le) m2 S55 Xr61) z fun I63 w62 L64 S65 => ya 5 5 z (yb (W.seq (yf nL2 (ya 0 2 z (yb (yy R4 (fun H R4 => ?_) (fun H R4 => ?_)))))))
 refine W.exit (yn (yo ?_))
 obtain rfl := sj R4
 exact yn (yr (yt ⟨s22, s23, I63, C_s23, sj R3, rfl, le, S65.drop, (OwnMap.mono h_s23 le)⟩))
 exact W.skip (ye (yag nL2 (ya 0 2 z (yp (yt ⟨r67, I63, sj R4, rfl, L64, S65.drop⟩)))))
 exact W.skip (yt ⟨0, I53, sj R4, rfl, lr, S55.drop⟩)
 rintro _ w74 ⟨s71, I59, rfl, rfl, L60, S75⟩
 refine ye (yf nL8 (y8 0 44 (.map (some b5)) (ya 1 1 z ?_)))
 obtain ⟨x76, Xx76, R3⟩ := bsm R3
 obtain ⟨v_x76, hv_x76, hq_x76⟩ := OwnMap.lookup (OwnMap.mono h_s23 ((L45.trans L54).trans L60)) (t := 83) (kt := 3) (et := 3) kr (keyLaw_int (kt := 3) kr) (i24 : Int) (zv := (Iv 0)) (z0 := 0) kr rfl
 rw [sj Xx76] at hv_x76
 obtain rfl := (List.cons.inj hv_x76).1
 refine WO.lookup z kr z z hq_x76 ((S75.rf m1)) (.tuple #[(Iv x76), (.bool (mhas iEq s23 (i24 : Int)))]) z ?_
 refine ya 3 5 z (y0 nL8 (ya 0 3 z (bsq R3 fun q77 Xq77 R3 => ya2 [3, 4, 5, 6] 7 51 56 Xq77 (fun _ => ya 3 5 z yah) (yb (bsk R3 fun j80 R4 R3 => yav (J := (fun fr w => ∃ (s89 : Bool) (s90 : List (Int × Int)), ∃ I82 C_s90, (s89, s90) = j80 ∧ fr = [(1, Pt b1 0), (3, .map (some b5)), (4, .bool s89), (16, Sl w_p0.c.Grants.a p0.c.Grants w_p0.c.Grants.c), (17, Nv p0.c.Grants.length), (18, Nv i24)] ∧ I59.Le I82 ∧ St E w I82 ((Bx b1 (cs_why_asked p0 w_p0) 79) :: (C_s90) :: Os) ∧ OwnMap (Value.int .i64) (val1 (RInt .i64)) I82 C_s90 b5 s90)) ?_ ?_)))))
 refine yy R4 (fun H R4 => ?_) (fun H R4 => ?_)
 refine yf nL5 (y8 0 57 (.map (some b5)) (ya 1 3 z (WO.update (OwnMap.mono h_s23 le) S75.front1 (t := 83) (kt := 3) (et := 3) kr (keyLaw_int (kt := 3) kr) z kr z (.inl z) z (i24 : Int) z z (xv := (w64 (s71 + 1))) z tv ?_)))
 intro w87 C85 S86 hm88
 exact yb (yag [0] (ya 0 1 z (yp (yt ⟨true, (mset iEq s23 (i24 : Int) (w64 (s71 + 1))), I59, C85, sj R4, rfl, lr, S86.front1, hm88⟩))))
 exact W.skip (yt ⟨s22, s23, I59, C_s23, sj R4, rfl, lr, S75, (OwnMap.mono h_s23 le)⟩)
 rintro _ w92 ⟨s89, s90, I82, C_s90, rfl, rfl, L83, S93, h_s90⟩
 exact yk (yt ⟨s89, s90, I82, C_s90, sj R3, rfl, le, S93, h_s90⟩)
 rintro _ w94 ⟨s48, s49, I33, C_s49, rfl, rfl, L34, S95, h_s49⟩
 exact ye (yag nL2 (yam i24 z (ya 1 1 z (yp (sj R2 ▸ yt ⟨I33, C_s49, rfl, le, S95, h_s49⟩)))))
 rintro _ w96 ⟨I20, C_s23, rfl, L21, S97, h_s23⟩
 exact yf [0] (ya 0 1 z (yb (W.seq (yas fun _ => W.exit (yn (yo (yr (yk (yt ⟨(s22, s23), (sj R1).symm, I20, C_s23, rfl, le, S97, h_s23⟩)))))))))
 refine W.exit (yn (yo ?_))
 obtain rfl := hext9 _ (sj R1).symm
 exact yr (ye (yf nL2 (WO.vs 0 [(62, .map (some b5)), (2, .map (some b5))] (yb (yq (sj G ▸ yw ⟨I10, b5, C_s13, rfl, L11, S17.drop, h_s13⟩))))))
noncomputable def why_Why (p0 : qC) (p1 : By8) (p2 : Int) (p3 : By8) : Option ((List qG) × Bool) := (why_asked_owns (⟨p0, p2, p3⟩ : why_asked) p1).bind (fun r17 => (bif r17 then some (([] : List qG), true) else (why_asked_dists (⟨p0, p2, p3⟩ : why_asked)).bind (fun r26 => (loopO (fun (s : By8 × (List qG) × Bool) => match s with | (s30, s31, s32) => (why_asked_owns (⟨p0, p2, p3⟩ : why_asked) s30).bind (fun r48 => (bif (!r48) then (why_asked_step (⟨p0, p2, p3⟩ : why_asked) r26 s30 s32).bind (fun (r55, r56) => (bif (decide (r55 < 0)) then some (.inr (.inl (([] : List qG), false))) else (idx p0.Grants r55).bind (fun x67 => (app 64 s31 ([x67] : List qG)).bind (fun x76 => (idx p0.Grants r55).bind (fun x85 => some (.inl (x85.By, x76, true))))))) else some (.inr (.inr s31))))) (p1, ([] : List qG), false)).bind (fun (t : ((List qG) × Bool) ⊕ (List qG)) => match t with | (.inl (s58, s59)) => some (s58, s59) | (.inr s90) => some (s90, true)))))
theorem why_Why_ok {p0 : qC} {p1 : By8} {p2 : Int} {p3 : By8} {w_p0 : W_qC} (h_p0 : ok_qC I p0 w_p0) (hS : St E w I Os) {r : (List qG) × Bool} (G : why_Why p0 p1 p2 p3 = some r) :
    Calls P 15 #[(vC p0 w_p0), (.string p1), (Iv p2), (.string p3)] w (fun e w' => ∃ (I' : Mem) (ra0 : Option Addr) (rc0 : Nat), e = .returned (.tuple #[(Sl ra0 r.1 rc0), (.bool r.2)]) ∧ I.Le I' ∧ St E w' I' Os ∧ RSl 5 R_qG I' ra0 rc0 r.1) := by
 refine calls_W (fn := Tryz.f15) rfl rfl rfl ?_
 unfold why_Why at G
 refine yf nL3 (yz hS (cs_qC p0 w_p0) 33 z fun b1 w4 S3 => y8 1 8 (.slice none 0 0) (ya 2 1 z (y0 nL6 (yx ((cs_qC p0 w_p0)) (S3.rf m0) z (ya 1 2 z (y8 3 19 (.agg (cs_why_asked (⟨p0, p2, p3⟩ : why_asked) (⟨w_p0⟩ : W_why_asked)).toArray) (yz S3 (cs_why_asked z_why_asked zw_why_asked) 79 z fun b5 w8 S7 => y7 S7 0 (cs_why_asked (⟨p0, p2, p3⟩ : why_asked) (⟨w_p0⟩ : W_why_asked)) fun w10 S9 => yb (W.seq (yf nL3 (yx ((cs_why_asked (⟨p0, p2, p3⟩ : why_asked) (⟨w_p0⟩ : W_why_asked))) (S9.rf m0) z (ya 1 1 z ?_)))))))))))
 have hk11 : ok_why_asked I (⟨p0, p2, p3⟩ : why_asked) (⟨w_p0⟩ : W_why_asked) := ⟨h_p0⟩
 refine bsk G fun r17 Xr12 G => WO.c1 (why_asked_owns_ok hk11 S9 Xr12) z fun I14 w13 L15 S16 => yb (yy G (fun H G => ?_) (fun H G => ?_))
 exact yf nL2 (y8 0 8 (.slice none 0 0) (ya 1 1 z (yb (yq (yh (sj G ▸ yay ⟨I14, none, 0, rfl, L15, S16.d2, SlAt.nil⟩))))))
 refine W.skip (ye (yf nL3 (yx ((cs_why_asked (⟨p0, p2, p3⟩ : why_asked) (⟨w_p0⟩ : W_why_asked))) (S16.rf m0) z ?_)))
 have hk20 : ok_why_asked I14 (⟨p0, p2, p3⟩ : why_asked) (⟨w_p0⟩ : W_why_asked) := ⟨(h_p0.mono L15)⟩
 refine bsk G fun r26 Xr21 G => yai (why_asked_dists_ok hk20 S16 Xr21) ?_
 rintro _ w22 ⟨I23, m_r26, C_r26, rfl, L24, S25, h_r26⟩
 refine cv (y8 2 11 (.map (some m_r26)) (y0 [0] (y8 0 12 (.slice none 0 0) (yb (W.seq (yf [0] (ya 0 1 z (yb (yl (bsk G fun t27 hloop33 G => W.wk (ya6 hloop33 (fun (s : By8 × (List qG) × Bool) fr w => match s with | (s30, s31, s32) => ∃ I28 a_s31 c_s31 C_s31, fr = [(1, .string s30), (4, Pt b1 0), (10, Pt b5 0), (11, .map (some m_r26)), (12, Sl a_s31 s31 c_s31), (13, .bool s32)] ∧ I23.Le I28 ∧ St E w I28 (bC b1 p0 w_p0 :: (Bx b5 (cs_why_asked (⟨p0, p2, p3⟩ : why_asked) (⟨w_p0⟩ : W_why_asked)) 79) :: (C_r26) :: (C_s31) :: Os) ∧ OwnSl 50 5 R_qG I28 C_s31 a_s31 c_s31 s31) ⟨I23, none, 0, Mem.no, rfl, lr, S25.no.front1.front2.front3, OwnSl.nil⟩ ?_)))))))))))
 rintro ⟨s30, s31, s32⟩ _ w39 ⟨I28, a_s31, c_s31, C_s31, rfl, L29, S40, h_s31⟩ x41 R1 hext27
 refine W.seq (yf nL4 (yx ((cs_why_asked (⟨p0, p2, p3⟩ : why_asked) (⟨w_p0⟩ : W_why_asked))) (S40.rf m1) z (ya 1 1 z ?_)))
 have hk42 : ok_why_asked I28 (⟨p0, p2, p3⟩ : why_asked) (⟨w_p0⟩ : W_why_asked) := ⟨(h_p0.mono ((L15.trans L24).trans L29))⟩
 refine bsk R1 fun r48 Xr43 R1 => WO.c1 (why_asked_owns_ok hk42 S40 Xr43) z fun I45 w44 L46 S47 => ya 3 1 z (yb (yy R1 (fun H R1 => ?_) (fun H R1 => ?_)))
 refine W.skip (ye (W.seq (yl (yf nL10 (yx ((cs_why_asked (⟨p0, p2, p3⟩ : why_asked) (⟨w_p0⟩ : W_why_asked))) (S47.rf m1) z (y8 1 31 (.map (some m_r26)) (ya 2 2 z ?_)))))))
 have hk49 : ok_why_asked I45 (⟨p0, p2, p3⟩ : why_asked) (⟨w_p0⟩ : W_why_asked) := ⟨(h_p0.mono (((L15.trans L24).trans L29).trans L46))⟩
 obtain ⟨⟨r55, r56⟩, Xr50, R1⟩ := bsm R1
 refine WO.c1 (why_asked_step_ok hk49 (OwnMap.mono h_r26 le) m2 S47 Xr50) z fun I52 w51 L53 S54 => ya 5 5 z (yb (W.seq (yf nL2 (ya 0 2 z (yb (yy R1 (fun H R1 => ?_) (fun H R1 => ?_)))))))
 refine yf nL2 (y8 0 8 (.slice none 0 0) (ya 1 1 z (yb (yq (yh (ym (yh (yu ?_))))))))
 obtain rfl := hext27 _ (sj R1).symm
 exact ym (yh (sj G ▸ yay ⟨I52, none, 0, rfl, le, S54.d4, SlAt.nil⟩))
 refine W.skip (ye (yf nL9 (yg 0 2 [3] z (yj (S54.rf m0) z (ya 3 1 z ?_)))))
 obtain ⟨x67, R1, Hx67, _, rfl, Zx67⟩ := sx I52 h_p0.Grants R1
 refine yaa 50 5 Hx67 z (yau ((cs_qG x67)) Zx67 0 S54.rm z (yab (rel := R_qG) (xs := ([x67] : List qG)) S54 z kr z 50 5 [(cs_qG x67)] kr z ((Elr.cons z Elr.nil)) tv ?_))
 intro a71 C69 w73 S72 ho70
 have S75 := S72.front4
 refine apk R1 fun x76 h0_x76 he_x76 R1 => yax 50 64 (cs_qG z_qG) S75 (OwnSl.mono h_s31 le) ho70.sl (S75.rd m1) h0_x76 he_x76 z fun a77 c78 w79 C80 S81 ho82 => have S84 := S81.front1.drop; ya 8 1 z (yb (yag nL7 (yg 0 1 [3] z (yj (S84.rf m1) z (ya 2 1 z ?_)))))
 obtain ⟨x85, R1, Hx85, _, rfl, Zx85⟩ := sx I52 h_p0.Grants R1
 exact yaa 50 5 Hx85 z (yg 4 1 [1] z (yaz Zx85 1 S84.rm z (ya 6 1 z (yp (yk (ye (yag [0] (ya 0 1 z (yp (yt ⟨(x85.By, x76, true), (sj R1).symm, I52, a77, c78, C80, rfl, le, S84.front3.front3.front3, ho82⟩))))))))))
 refine W.exit (yn (yo ?_))
 obtain rfl := hext27 _ (sj R1).symm
 refine yr (ye (yf nL3 (ya 0 1 z ?_)))
 obtain ⟨I100, L101, S103, hp102⟩ := yac (h_s31.mono L46) S47.front3
 exact ya 1 2 z (yb (yq (sj G ▸ yay ⟨I100, a_s31, c_s31, rfl, le, S103.d3, hp102⟩)))
noncomputable def why_far (p0 : List qJ) (p1 : By8) : Option (List (By8 × Int)) := (member_Find p0 p1).bind (fun (r10, r11) => (bif (!r11) then some ([] : List (By8 × Int)) else (loopO (fun (s : Bool × (List (By8 × Int))) => match s with | (s27, s28) => (bif s27 then (forE (fun (i40 : Nat) (s : Bool × (List (By8 × Int))) => match s with | (s38, s39) => (idx p0 (i40 : Int)).bind (fun x47 => (member_Find p0 x47.Name).bind (fun (r59, r60) => (forE (fun (i73 : Nat) (s : Bool × (List (By8 × Int))) => match s with | (s71, s72) => (idx r59.In (i73 : Int)).bind (fun x82 => (some ((mget sEq s72 x82).getD 0)).bind (fun (x83 : Int) => (some ((mget sEq s72 x47.Name).getD 0)).bind (fun (x84 : Int) => (some ((mhas sEq s72 x82) && ((!(mhas sEq s72 x47.Name)) || (decide ((w64 (x83 + 1)) < x84))))).bind (fun (q87 : Bool) => ((bif q87 then some (true, (mset sEq s72 x47.Name (w64 (x83 + 1)))) else some (s71, s72))).bind (fun ((s100, s101) : Bool × (List (By8 × Int))) => some (s100, s101))))))) r59.In.length 0 (s38, s39)).bind (fun (s71, s72) => some (s71, s72))))) p0.length 0 (false, s28)).bind (fun (s38, s39) => some (.inl (s38, s39))) else some (.inr s28))) (true, (mset sEq ([] : List (By8 × Int)) p1 0))).bind (fun (s111 : List (By8 × Int)) => some s111)))
theorem why_far_ok {p0 : List qJ} {p1 : By8} {a_p0 : Option Addr} {c_p0 : Nat} (h_p0 : RSl 2 R_qJ I a_p0 c_p0 p0) (hS : St E w I Os) {r : (List (By8 × Int))} (G : why_far p0 p1 = some r) :
    Calls P 41 #[(Sl a_p0 p0 c_p0), (.string p1)] w (fun e w' => ∃ (I' : Mem) (rm0 : Nat) (rC0 : Mem), e = .returned (.map (some rm0)) ∧ I.Le I' ∧ St E w' I' (rC0 :: Os) ∧ OwnMap Value.string (val1 (RInt .i64)) I' rC0 rm0 r) := by
 refine calls_W (fn := Tryz.f41) rfl rfl rfl ?_
 unfold why_far at G
 refine yf [0] (y8 0 4 (.map none) (y0 nL2 (ybj hS z kr z (.map #[] 0) (fun b => .map (some b)) kr tv ?_)))
 intro b1 w4 S3
 refine y8 1 5 (.map (some b1)) (yb (W.seq (yf nL9 (ya 0 2 z ?_))))
 obtain ⟨⟨r10, r11⟩, Xr5, G⟩ := bsm G
 refine yai (member_Find_ok h_p0 S3 Xr5) ?_
 rintro _ w6 ⟨I7, w_r10, rfl, L8, S9, h_r10⟩
 refine cv (ya 3 3 z (yz S9 (cs_qJ z_qJ zw_qJ) 74 z fun b12 w15 S14 => y7 S14 0 (cs_qJ r10 w_r10) fun w17 S16 => ya 8 1 z (y0 nL2 (ya 0 2 z (yb (yy G (fun H G => ?_) (fun H G => ?_)))))))
 exact yf nL2 (WO.vs 0 [(28, .map (some b1)), (4, .map (some b1))] (yb (yq (yh (sj G ▸ yw ⟨I7, b1, Gv.one b1 (.map #[] 0), rfl, L8, S16.drop, (OwnMap.mono (OwnMap.nil (enc := Value.string) (val := (val1 (RInt .i64))) (I := I) (m := b1)) L8)⟩)))))
 refine W.skip (ye (yf nL3 (y8 0 29 (.map (some b1)) (ya 1 1 z (WO.update (OwnMap.mono (OwnMap.nil (enc := Value.string) (val := (val1 (RInt .i64))) (I := I) (m := b1)) L8) S16.front1 (t := 88) (kt := 9) (et := 3) kr (keyLaw_str (kt := 9) kr) z kr z (.inl z) z p1 z z (xv := 0) z tv ?_)))))
 intro w22 C20 S21 hm23
 refine yb (W.seq (yf [0] (ya 0 1 z (yb (yl (bsk G fun t24 hloop29 G => W.wk (ya6 hloop29 (fun (s : Bool × (List (By8 × Int))) fr w => match s with | (s27, s28) => ∃ I25 C_s28, fr = [(0, Sl a_p0 p0 c_p0), (5, .map (some b1)), (8, .bool s27)] ∧ I7.Le I25 ∧ St E w I25 ((C_s28) :: Os) ∧ OwnMap Value.string (val1 (RInt .i64)) I25 C_s28 b1 s28) ⟨I7, C20, rfl, lr, S21.front1.drop, hm23⟩ ?_)))))))
 rintro ⟨s27, s28⟩ _ w32 ⟨I25, C_s28, rfl, L26, S33, h_s28⟩ x34 R1 hext24
 refine W.seq (yf [0] (ya 0 1 z (yb (yy R1 (fun H R1 => ?_) (fun H R1 => ?_)))))
 refine W.skip (ye (yl (yf [0] (ya 0 1 z (y0 nL3 (ya 0 3 z (yb (yl ?_))))))))
 obtain ⟨⟨s38, s39⟩, hloop41, R1⟩ := bsm R1
 have hlt45 := ((RSl.mono h_p0 (L8.trans L26))).len_lt
 refine W.wk (yat (m := p0.length) hloop41 (fun (i40 : Nat) (s : Bool × (List (By8 × Int))) fr w => match s with | (s38, s39) => ∃ I36 C_s39, fr = [(0, Sl a_p0 p0 c_p0), (5, .map (some b1)), (8, .bool s38), (32, Sl a_p0 p0 c_p0), (33, Nv p0.length), (34, Nv i40)] ∧ I25.Le I36 ∧ St E w I36 ((C_s39) :: Os) ∧ OwnMap Value.string (val1 (RInt .i64)) I36 C_s39 b1 s39) ⟨I25, C_s28, rfl, lr, S33, h_s28⟩ ?_ ?_)
 rintro i40 ⟨s38, s39⟩ _ w42 hi46 ⟨I36, C_s39, rfl, L37, S43, h_s39⟩ x44 R2
 refine yf [0] (ya 0 1 z (yb (W.seq (yar fun _ => W.skip (ye (W.seq (yl (yf nL4 ?_))))))))
 obtain ⟨x47, R2, Hx47, _, ⟨w_x47, rfl, h_x47⟩, Zx47⟩ := sx I36 h_p0 R2
 refine yaa 74 2 Hx47 z (yau ((cs_qJ x47 w_x47)) Zx47 0 S43.rm z (yz S43 (cs_qJ z_qJ zw_qJ) 74 z fun b48 w51 S50 => y7 S50 0 (cs_qJ x47 w_x47) fun w53 S52 => y0 nL10 (yg 0 2 [0] z (yj (S52.rf m0) z ?_))))
 obtain ⟨⟨r59, r60⟩, Xr54, R2⟩ := bsm R2
 refine yai (member_Find_ok (up h_p0) S52 Xr54) ?_
 rintro _ w55 ⟨I56, w_r59, rfl, L57, S58, h_r59⟩
 refine cv (ya 4 3 z (yz S58 (cs_qJ z_qJ zw_qJ) 74 z fun b61 w65 S63 => y7 S63 0 (cs_qJ r59 w_r59) fun w67 S66 => ya 9 1 z (y0 nL4 (yg 0 1 [1] z (yj (S66.rf m0) z (ya 2 2 z (yb (yl ?_))))))))
 obtain ⟨⟨s71, s72⟩, hloop74, R2⟩ := bsm R2
 have hlt80 := (h_r59.In).len_lt
 refine W.wk (yat (m := r59.In.length) hloop74 (fun (i73 : Nat) (s : Bool × (List (By8 × Int))) fr w => match s with | (s71, s72) => ∃ I69 C_s72, fr = [(0, Sl a_p0 p0 c_p0), (5, .map (some b1)), (8, .bool s71), (10, Pt b48 0), (32, Sl a_p0 p0 c_p0), (33, Nv p0.length), (34, Nv i40), (46, Sl w_r59.In.a r59.In w_r59.In.c), (47, Nv r59.In.length), (48, Nv i73)] ∧ I56.Le I69 ∧ St E w I69 ((C_s72) :: (bJ b48 x47 w_x47) :: Os) ∧ OwnMap Value.string (val1 (RInt .i64)) I69 C_s72 b1 s72) ⟨I56, C_s39, rfl, lr, S66.drop.front1, (OwnMap.mono h_s39 L57)⟩ ?_ ?_)
 rintro i73 ⟨s71, s72⟩ _ w77 hi81 ⟨I69, C_s72, rfl, L70, S78, h_s72⟩ x79 R3
 refine yf [0] (ya 0 1 z (yb (W.seq (yar fun _ => W.skip (ye (W.seq (yl (yf nL3 ?_))))))))
 obtain ⟨x82, R3, Hx82, _, rfl, Zx82⟩ := sx I69 h_r59.In R3
 refine yaa 9 1 Hx82 z (yao Zx82 S78.rm z (ya 2 1 z (y0 nL8 (y8 0 53 (.map (some b1)) (ya 1 1 z ?_)))))
 obtain ⟨x83, Xx83, R3⟩ := bsm R3
 obtain ⟨v_x83, hv_x83, hq_x83⟩ := OwnMap.lookup h_s72 (t := 88) (kt := 9) (et := 3) kr (keyLaw_str (kt := 9) kr) x82 (zv := (Iv 0)) (z0 := 0) kr rfl
 rw [sj Xx83] at hv_x83
 obtain rfl := (List.cons.inj hv_x83).1
 refine WO.lookup z kr z z hq_x83 ((S78.rf m0)) (.tuple #[(Iv x83), (.bool (mhas sEq s72 x82))]) z ?_
 refine ya 3 5 z (y0 nL9 (y8 0 59 (.map (some b1)) (yg 1 1 [0] z (yj (S78.rf m1) z ?_))))
 obtain ⟨x84, Xx84, R3⟩ := bsm R3
 obtain ⟨v_x84, hv_x84, hq_x84⟩ := OwnMap.lookup h_s72 (t := 88) (kt := 9) (et := 3) kr (keyLaw_str (kt := 9) kr) x47.Name (zv := (Iv 0)) (z0 := 0) kr rfl
 rw [sj Xx84] at hv_x84
 obtain rfl := (List.cons.inj hv_x84).1
 refine WO.lookup z kr z z hq_x84 ((S78.rf m0)) (.tuple #[(Iv x84), (.bool (mhas sEq s72 x47.Name))]) z ?_
 refine ya 4 5 z (y0 nL11 (ya 0 2 z (bsq R3 fun q87 Xq87 R3 => yaq [2, 3, 4, 5, 6, 7, 8, 9] 10 66 75 Xq87 (fun _ => ya 2 3 z (ya2 [5, 6, 7, 8] 9 69 74 (.refl ((!(mhas sEq s72 x47.Name)) || (decide ((w64 (x83 + 1)) < x84)))) (fun _ => ya 5 5 z yah) (ya 10 1 z yah))) (yb (bsk R3 fun j92 R4 R3 => yav (J := (fun fr w => ∃ (s100 : Bool) (s101 : List (By8 × Int)), ∃ I94 C_s101, (s100, s101) = j92 ∧ fr = [(0, Sl a_p0 p0 c_p0), (5, .map (some b1)), (8, .bool s100), (10, Pt b48 0), (32, Sl a_p0 p0 c_p0), (33, Nv p0.length), (34, Nv i40), (46, Sl w_r59.In.a r59.In w_r59.In.c), (47, Nv r59.In.length), (48, Nv i73)] ∧ I69.Le I94 ∧ St E w I94 ((C_s101) :: (bJ b48 x47 w_x47) :: Os) ∧ OwnMap Value.string (val1 (RInt .i64)) I94 C_s101 b1 s101)) ?_ ?_)))))
 refine yy R4 (fun H R4 => ?_) (fun H R4 => ?_)
 refine yf nL6 (y8 0 76 (.map (some b1)) (yg 1 1 [0] z (yj (S78.rf m1) z (ya 3 2 z (WO.update h_s72 S78 (t := 88) (kt := 9) (et := 3) kr (keyLaw_str (kt := 9) kr) z kr z (.inl z) z x47.Name z z (xv := (w64 (x83 + 1))) z tv ?_)))))
 intro w98 C96 S97 hm99
 exact yb (yag [0] (ya 0 1 z (yp (yt ⟨true, (mset sEq s72 x47.Name (w64 (x83 + 1))), I69, C96, sj R4, rfl, lr, S97, hm99⟩))))
 exact W.skip (yt ⟨s71, s72, I69, C_s72, sj R4, rfl, lr, S78, h_s72⟩)
 rintro _ w102 ⟨s100, s101, I94, C_s101, rfl, rfl, L95, S103, h_s101⟩
 exact yk (ye (yag nL2 (yam i73 z (ya 1 1 z (yp (sj R3 ▸ yt ⟨I94, C_s101, rfl, le, S103, h_s101⟩))))))
 rintro _ w104 ⟨I69, C_s72, rfl, L70, S105, h_s72⟩
 exact yf [0] (ya 0 1 z (yb (W.seq (yas fun _ => W.exit (yn (yo (yr (yk (ye (yag nL2 (yam i40 z (ya 1 1 z (yp (sj R2 ▸ yt ⟨I69, C_s72, rfl, le, S105.front1.drop, h_s72⟩))))))))))))))
 rintro _ w108 ⟨I36, C_s39, rfl, L37, S109, h_s39⟩
 exact yf [0] (ya 0 1 z (yb (W.seq (yas fun _ => W.exit (yn (yo (yr (yk (yt ⟨(s38, s39), (sj R1).symm, I36, C_s39, rfl, le, S109, h_s39⟩)))))))))
 refine W.exit (yn (yo ?_))
 obtain rfl := hext24 _ (sj R1).symm
 exact yr (ye (yf nL2 (WO.vs 0 [(83, .map (some b1)), (4, .map (some b1))] (yb (yq (sj G ▸ yw ⟨I25, b1, C_s28, rfl, le, S33, h_s28⟩))))))
def wayNext (l : List qJ) (dist : List (By8 × Int)) (nm : By8) : Option By8 := (member_Find l nm).bind (fun (r : qJ × Bool) => (forE (fun (i : Nat) (v : By8 × Bool) => match v with | (nx, fd) => (idx r.1.In (i : Int)).bind (fun x => (some ((mhas sEq dist x && ((mget sEq dist x).getD 0 == w64 ((mget sEq dist nm).getD 0 - 1))) && (!fd || sLt x nx))).bind (fun (q : Bool) => (bif q then some (x, true) else some (nx, fd)).bind (fun (v' : By8 × Bool) => some v')))) r.1.In.length 0 (eB, false)).bind (fun (v : By8 × Bool) => some v.1))
def wayStep {σ : Type} (l : List qJ) (dist : List (By8 × Int)) (y : σ → By8 → Option σ) (u : By8 × σ) : Option ((By8 × σ) ⊕ σ) :=
  match u with
  | (nm, s) => (y s nm).bind (fun s' => (bif decide ((mget sEq dist nm).getD 0 > 0) then (wayNext l dist nm).bind (fun nx => some (.inl (nx, s'))) else some (.inr s')))
set_option maxHeartbeats 2000000 in
theorem way1_ok {σ : Type} {R : Mem → σ → List Mem → Prop} {y : σ → By8 → Option σ} {E w : World} {I : Mem} {Os Ms : List Mem} {l : Nat} {p0 : List qJ} {dist : List (By8 × Int)} {name : By8} {s : σ} {a_p0 : Option Addr} {c_p0 m k1 k2 k3 : Nat} {Cm : Mem}
    (mono : ∀ {I J : Mem} {s : σ} {Ms : List Mem}, R I s Ms → I.Le J → R J s Ms) (h_p0 : RSl 2 R_qJ I a_p0 c_p0 p0) (h_m : OwnMap Value.string (val1 (RInt .i64)) I Cm m dist)
    (h_y : ∀ {F Ms : List Mem} {I' : Mem} {w : World} {n : By8} {s : σ}, I.Le I' → R I' s Ms → St E w I' (F ++ (Ms ++ Os)) → ∀ {r : σ}, y s n = some r → YieldAt Fence.wide 0 P l #[.string n] w (fun e w' => e = .returned (.bool true) ∧ ∃ I'' Ms', I'.Le I'' ∧ R I'' r Ms' ∧ St E w' I'' (F ++ (Ms' ++ Os))))
    (hs : R I s Ms) (hS : St E w I (Bx k1 [.string name] 9 :: Bx k2 [.map (some m)] 88 :: Bx k3 [Sl a_p0 p0 c_p0] 31 :: Cm :: (Ms ++ Os))) {r : σ} (G : loopO (wayStep p0 dist y) (name, s) = some r) :
    Calls P 62 #[.func (.yield l) #[] #[], Pt k1 0, Pt k2 0, Pt k3 0] w (fun e w' => (∃ v, e = .returned v) ∧ ∃ I' Ms', I.Le I' ∧ R I' r Ms' ∧ St E w' I' (Ms' ++ Os)) := by
 refine calls_W (fn := Tryz.f62) rfl rfl rfl ?_
 refine yl (W.wk (ya6 G (fun (u : By8 × σ) fr w => match u with | (nm, s) => ∃ I1 Ms1, fr = [(0, .func (.yield l) #[] #[]), (1, Pt k1 0), (2, Pt k2 0), (3, Pt k3 0)] ∧ I.Le I1 ∧ R I1 s Ms1 ∧ St E w I1 (Bx k1 [.string nm] 9 :: Bx k2 [.map (some m)] 88 :: Bx k3 [Sl a_p0 p0 c_p0] 31 :: Cm :: (Ms1 ++ Os))) ⟨I, Ms, rfl, lr, hs, hS⟩ ?_))
 rintro ⟨nm, s⟩ _ w1 ⟨I1, Ms1, rfl, L1, hs1, S1⟩ x R1 hext
 unfold wayStep at R1
 obtain ⟨s', hy, R1⟩ := bsm R1
 refine W.seq (W.seq (W.regionY (nL2 ++ [2, 3, 4, 5, 6, 7, 8]) (WY.of nL2 (ya 0 1 z (yj (S1.rf m0) z (WY.go (WY.yield (h_y (F := [Bx k1 [.string nm] 9, Bx k2 [.map (some m)] 88, Bx k3 [Sl a_p0 p0 c_p0] 31, Cm]) L1 hs1 S1 hy) ?_)))))))
 rintro _ w2 ⟨rfl, I2, Ms2, L2, hs2, S2⟩
 have S2 : St E w2 I2 (Bx k1 [.string nm] 9 :: Bx k2 [.map (some m)] 88 :: Bx k3 [Sl a_p0 p0 c_p0] 31 :: Cm :: (Ms2 ++ Os)) := S2
 refine ⟨_, rfl, WY.end' _ ?_⟩
 obtain ⟨v1, hv1, hq1⟩ := OwnMap.lookup (h_m.mono (L1.trans L2)) (t := 88) (kt := 9) (et := 3) kr (keyLaw_str (kt := 9) kr) nm (zv := (Iv 0)) (z0 := 0) kr rfl
 obtain ⟨x19, hx19⟩ : ∃ x : Int, (mget sEq dist nm).getD 0 = x := ⟨_, rfl⟩
 rw [hx19] at hv1 R1
 obtain rfl := (List.cons.inj hv1).1
 refine ya 3 1 z (yj (S2.rf m1) z (yj (S2.rf m0) z (WO.lookup z kr z z hq1 (S2.rf m3) (Iv x19) z (ya 7 2 z (yb (yy R1 (fun H R1 => ?_) (fun H R1 => ?_)))))))
 refine W.skip (ye (yl ?_))
 obtain ⟨nx1, hn, R1⟩ := bsm R1
 unfold wayNext at hn
 obtain ⟨⟨r10, r11⟩, Xr, hn⟩ := bsm hn
 obtain ⟨⟨nx2, fd2⟩, hloop, hn⟩ := bsm hn
 refine yf nL9 (yj (S2.rf m2) z (yj (S2.rf m0) z (yai (member_Find_ok (up h_p0) S2 Xr) ?_)))
 rintro _ w6 ⟨I7, w_r10, rfl, L8, S9, h_r10⟩
 refine cv (ya 3 3 z (yz S9 (cs_qJ z_qJ zw_qJ) 74 z fun b12 w15 S14 => y7 S14 0 (cs_qJ r10 w_r10) fun w17 S16 => ya 8 1 z (y0 nL2 (ya 0 2 z (yb (W.seq (yf nL4 (yg 0 1 [1] z (yj (S16.rf m0) z (ya 2 2 z (yb (yl ?_))))))))))))
 have hlt := (h_r10.In).len_lt
 refine W.wk (yat (m := r10.In.length) hloop (fun (i : Nat) (v : By8 × Bool) fr w => match v with | (nx, fd) => ∃ I8, fr = [(0, .func (.yield l) #[] #[]), (1, Pt k1 0), (2, Pt k2 0), (3, Pt k3 0), (7, .string nx), (8, .bool fd), (29, Sl w_r10.In.a r10.In w_r10.In.c), (30, Nv r10.In.length), (31, Nv i)] ∧ I7.Le I8 ∧ St E w I8 (Bx k1 [.string nm] 9 :: Bx k2 [.map (some m)] 88 :: Bx k3 [Sl a_p0 p0 c_p0] 31 :: Cm :: (Ms2 ++ Os))) ⟨I7, rfl, lr, S16.drop⟩ ?_ ?_)
 rintro i ⟨nx, fd⟩ _ w20 hi ⟨I8, rfl, L9, S20⟩ x20 R2
 refine yf [0] (ya 0 1 z (yb (W.seq (yar fun _ => W.skip (ye (W.seq (yl (yf nL3 ?_))))))))
 obtain ⟨x, R2, Hx, _, rfl, Zx⟩ := sx I8 h_r10.In R2
 refine yaa 9 1 Hx z (yao Zx S20.rm z (ya 2 1 z (y0 nL8 (yj (S20.rf m1) z (ya 1 1 z ?_)))))
 obtain ⟨v2, hv2, hq2⟩ := OwnMap.lookup (h_m.mono ((L1.trans L2).trans (L8.trans L9))) (t := 88) (kt := 9) (et := 3) kr (keyLaw_str (kt := 9) kr) x (zv := (Iv 0)) (z0 := 0) kr rfl
 obtain ⟨x38, hx38⟩ : ∃ y : Int, (mget sEq dist x).getD 0 = y := ⟨_, rfl⟩
 rw [hx38] at hv2 R2
 obtain rfl := (List.cons.inj hv2).1
 obtain ⟨v3, hv3, hq3⟩ := OwnMap.lookup (h_m.mono ((L1.trans L2).trans (L8.trans L9))) (t := 88) (kt := 9) (et := 3) kr (keyLaw_str (kt := 9) kr) nm (zv := (Iv 0)) (z0 := 0) kr rfl
 rw [hx19] at hv3 R2
 obtain rfl := (List.cons.inj hv3).1
 refine WO.lookup z kr z z hq2 (S20.rf m3) (.tuple #[(Iv x38), (.bool (mhas sEq dist x))]) z ?_
 obtain ⟨q1, hq1'⟩ : ∃ q, (mhas sEq dist x && (x38 == w64 (x19 - 1))) = q := ⟨_, rfl⟩
 rw [hq1'] at R2
 refine ya 3 5 z (y0 nL18 (ya 0 2 z (bsq R2 fun q Xq R2 => yaq [2, 3, 4, 5, 6, 7] 8 42 49 hq1' (fun _ => ya 2 1 z (yj (S20.rf m1) z (yj (S20.rf m0) z (WO.lookup z kr z z hq3 (S20.rf m3) (Iv x19) z (ya 6 3 z yah)))))
  (ya 9 1 rfl (yaq [10, 11, 12, 13, 14, 15, 16] 17 50 58 Xq (fun _ => ya 10 3 rfl (ya2 [13, 14, 15] 16 53 57 (.refl (!fd || sLt x nx)) (fun _ => ya 13 2 rfl (y8 15 56 (.bool (sLt x nx)) (ya 16 1 rfl yah))) (ya 17 1 rfl yah))) (yb ?_))))))
 obtain ⟨⟨nx', fd'⟩, R3, R2⟩ := bsm R2
 refine yav (J := (fun fr w => fr = [(0, .func (.yield l) #[] #[]), (1, Pt k1 0), (2, Pt k2 0), (3, Pt k3 0), (7, .string nx'), (8, .bool fd'), (29, Sl w_r10.In.a r10.In w_r10.In.c), (30, Nv r10.In.length), (31, Nv i)] ∧ St E w I8 (Bx k1 [.string nm] 9 :: Bx k2 [.map (some m)] 88 :: Bx k3 [Sl a_p0 p0 c_p0] 31 :: Cm :: (Ms2 ++ Os)))) ?_ ?_
 refine yy R3 (fun H R3 => ?_) (fun H R3 => ?_)
 cases sj R3
 exact yag nL3 (ya 0 3 z (yp (yt ⟨rfl, S20⟩)))
 cases sj R3
 exact W.skip (yt ⟨rfl, S20⟩)
 rintro _ w22 ⟨rfl, S22⟩
 exact yk (ye (yag nL2 (yam i z (ya 1 1 z (yp (sj R2 ▸ yt ⟨I8, rfl, L9, S22⟩))))))
 rintro _ w20 ⟨I8, rfl, L9, S20⟩
 refine yf [0] (ya 0 1 z (yb (W.seq (yas fun _ => W.exit (yn (yo (yr (ye (yag nL2 (ya 0 1 z (y7 S20 0 [.string nx2] fun w23 S23 => yp ?_)))))))))))
 obtain rfl := sj hn
 exact yk (yt ⟨(nx2, s'), (sj R1).symm, I8, Ms2, rfl, le, mono hs2 le, S23⟩)
 refine W.exit (yn (yo (yr (En.end0 z ?_))))
 obtain rfl := hext _ (sj R1).symm
 exact ⟨⟨_, rfl⟩, I2, Ms2, le, hs2, S2.d4⟩
theorem perm_in {A B Os : List Mem} {x : Mem} : (A ++ (B ++ (x :: Os))).Perm (x :: (B ++ (A ++ Os))) := by
  rw [← List.append_assoc, ← List.append_assoc]
  exact List.perm_middle.trans (List.Perm.cons _ (List.perm_append_comm.append_right Os))
theorem way_ok {p0 : List qJ} {a_p0 : Option Addr} {c_p0 m : Nat} {name : By8} (hS : St E w I Os) :
    Calls P 42 #[Sl a_p0 p0 c_p0, .map (some m), .string name] w (fun e w' => ∃ k1 k2 k3, e = .returned (.func (.func 62) #[] #[Pt k1 0, Pt k2 0, Pt k3 0]) ∧ St E w' I (Bx k1 [.string name] 9 :: Bx k2 [.map (some m)] 88 :: Bx k3 [Sl a_p0 p0 c_p0] 31 :: Os)) := by
 refine calls_W (fn := Tryz.f42) rfl rfl rfl ?_
 refine yf nL4 (yz hS [Sl a_p0 p0 c_p0] 31 z fun k3 w3 S3 => yz S3 [.map (some m)] 88 z fun k2 w2 S2 => yz S2 [.string name] 9 z fun k1 w1 S1 => y8 3 6 .nilFunc (y0 nL2 (y8 0 7 (.func (.func 62) #[] #[Pt k1 0, Pt k2 0, Pt k3 0]) (y8 1 6 (.func (.func 62) #[] #[Pt k1 0, Pt k2 0, Pt k3 0]) (yb (yq (yw ⟨k1, k2, k3, rfl, S1⟩)))))))
def ROw (kb : Nat) (I : Mem) (s : List By8) (Ms : List Mem) : Prop := ∃ a c C, Ms = [Bx kb [.slice a s.length c] 41, C] ∧ OwnSl 9 1 RStr I C a c s
theorem ROw.mono {kb : Nat} {I J : Mem} {s : List By8} {Ms : List Mem} (h : ROw kb I s Ms) (hl : I.Le J) : ROw kb J s Ms := by
  obtain ⟨a, c, C, e, ho⟩ := h
  exact ⟨a, c, C, e, ho.mono hl⟩
noncomputable def why_Path (p0 : List qJ) (p1 p2 : By8) : Option (List By8) := (why_far p0 p2).bind (fun dist => bif !(mhas sEq dist p1) then some [] else loopO (wayStep p0 dist (fun (s : List By8) (n : By8) => app 16 s [n])) (p1, []))
set_option maxHeartbeats 2000000 in
theorem why_Path_ok {p0 : List qJ} {p1 p2 : By8} {a_p0 : Option Addr} {c_p0 : Nat} (h_p0 : RSl 2 R_qJ I a_p0 c_p0 p0) (hS : St E w I Os) {r : List By8} (G : why_Path p0 p1 p2 = some r) :
    Calls P 19 #[Sl a_p0 p0 c_p0, .string p1, .string p2] w (fun e w' => ∃ (I' : Mem) (ra0 : Option Addr) (rc0 : Nat), e = .returned (Sl ra0 r rc0) ∧ I.Le I' ∧ St E w' I' Os ∧ RSl 1 RStr I' ra0 rc0 r) := by
 refine calls_WM (fn := Tryz.f19) rfl rfl rfl ?_
 unfold why_Path at G
 refine bsk G fun dist hx G => yf [0] (y8 0 6 (.slice none 0 0) (y0 nL4 (ya 0 2 z (yai (why_far_ok h_p0 hS hx) ?_))))
 rintro _ w2 ⟨I2, m, Cm, rfl, L2, S2, h_m⟩
 refine cv (y8 3 7 (.map (some m)) (yb (W.seq (yf nL8 (y8 0 16 (.map (some m)) (ya 1 1 z ?_))))))
 obtain ⟨v1, hv1, hq1⟩ := OwnMap.lookup h_m (t := 88) (kt := 9) (et := 3) kr (keyLaw_str (kt := 9) kr) p1 (zv := (Iv 0)) (z0 := 0) kr rfl
 obtain ⟨x1, hx1⟩ : ∃ x : Int, (mget sEq dist p1).getD 0 = x := ⟨_, rfl⟩
 rw [hx1] at hv1
 obtain rfl := (List.cons.inj hv1).1
 refine WO.lookup z kr z z hq1 (S2.rf m0) (.tuple #[(Iv x1), (.bool (mhas sEq dist p1))]) z (ya 3 5 z (y0 nL2 (ya 0 2 z (yb (yy G (fun H G => ?_) (fun H G => ?_))))))
 exact sj G ▸ yf [0] (y8 0 6 (.slice none 0 0) (yb (yq (yh (markRet0 ⟨I2, none, 0, rfl, L2, S2.drop, SlAt.nil⟩)))))
 refine W.skip (ye (yf [0] (yz S2 [.slice none 0 0] 41 z fun b10 w5 S5 => yb (W.seq (yf nL4 (ya 0 1 z (y8 1 24 (.map (some m)) (ya 2 1 z (yai (way_ok (p0 := p0) (a_p0 := a_p0) (c_p0 := c_p0) (m := m) (name := p1) S5) ?_)))))))))
 rintro _ w6 ⟨k1, k2, k3, rfl, S6⟩
 refine cv (yb (yl ?_))
 refine W.wk (fr' := [(10, Pt b10 0), (26, .func (.func 62) #[] #[Pt k1 0, Pt k2 0, Pt k3 0])]) (W.rangeF (gf := 62) (lb := [Pt k1 0, Pt k2 0, Pt k3 0]) (Φ := fun I3 Os3 => ∃ a c C, Os3 = Bx b10 [.slice a r.length c] 41 :: C :: Os ∧ OwnSl 9 1 RStr I3 C a c r ∧ I2.Le I3) S6.no (fun _ _ => by kernel_rfl) ?_ ?_)
 intro l D rec w1 hst hpe hag hp has hbo S1
 have S1' : St E w1 I2 (Bx k1 [.string p1] 9 :: Bx k2 [.map (some m)] 88 :: Bx k3 [Sl a_p0 p0 c_p0] 31 :: Cm :: ([Bx b10 [.slice none 0 0] 41, Mem.no] ++ (Gv.one l (.loop rec) :: Gv.one D (.deferred (some [])) :: Os))) := S1.front2.front6.front7.front7.front7.front7
 refine (way1_ok (R := ROw b10) ROw.mono (RSl.mono h_p0 L2) h_m ?_ ⟨none, 0, Mem.no, rfl, OwnSl.nil⟩ S1' G).mono ?_
 intro F Ms I' w' n s hl' hs' hSy r' hy
 obtain ⟨a, c, C, rfl, ho⟩ := hs'
 have hSr := hSy.perm perm_in
 refine ((roundW (fr1 := [(10, Pt b10 0), (11, .string n)]) (Φ := fun I3 Os3 => ∃ Ms', Os3 = Ms' ++ (F ++ (Gv.one D (.deferred (some [])) :: Os)) ∧ I'.Le I3 ∧ ROw b10 I3 r' Ms') hSr hst hpe hag hp (by decide) ?_ ?_)).mono ?_
 rw [has]
 exact WI.region [0] (ya 0 1 z (WO.weaken (yp fun a ha => ⟨rfl, rfl, ha⟩) (Sub.cons z (Sub.cons z Sub.nil))))
 intro w2' S2'
 have S3' : St E w2' I' (Gv.one l (.loop { rec with state := .busy }) :: Bx b10 [.slice a s.length c] 41 :: C :: (F ++ (Gv.one D (.deferred (some [])) :: Os))) := S2'
 refine (show ∀ {c : Code} {Q fr w}, rec.body = c → WI l P Tryz.f19.ntmps c Q fr w → WI l P Tryz.f19.ntmps rec.body Q fr w from fun e h => by rw [e]; exact h) hbo (WI.block (WI.region nL5 (yj (S3'.rf m1) z (ya 1 1 z (yab (rel := RStr) (xs := ([n] : List By8)) S3' rfl kr z 9 1 [[(.string n)]] kr z ((Elr.cons z Elr.nil)) tv ?_)))))
 intro a6 C6 w6' S6' ho6
 have S7 := S6'.front3
 refine yax 9 16 [(.string eB)] S7 ho ho6.sl (S7.rd m1) (app_some hy).1 (app_some hy).2 z fun a9 c9 w9 C9 S9 ho9 => ?_
 refine y7 S9.front3 0 [.slice a9 r'.length c9] fun w11 S11 => ?_
 exact yp (yk (fun b hb => ⟨rfl, I', _, ⟨[Bx b10 [.slice a9 r'.length c9] 41, C9], rfl, lr, a9, c9, C9, rfl, ho9⟩, S11.front3.front3.drop⟩))
 rintro e w4 ⟨he, I3, Os3, ⟨Ms', rfl, L3, hR⟩, S4⟩
 exact ⟨he, I3, Ms', L3, hR, S4.perm perm_in.symm⟩
 rintro e w' ⟨hv, I', Ms', hl', ⟨a, c, C, rfl, ho⟩, hS'⟩
 have S2' : St E w' I' (Bx b10 [.slice a r.length c] 41 :: C :: Gv.one l (.loop rec) :: Gv.one D (.deferred (some [])) :: Os) := hS'
 exact ⟨hv, I', _, ⟨a, c, C, rfl, ho, hl'⟩, S2'.front3.front3⟩
 rintro D a w3 I3 Os3 hd hag ⟨a', c', C', rfl, ho, L3⟩ S3
 show (Code.seq (.region _ _ false) .ret).wp P _ a w3
 refine region_ret nL2 (Q' := fun e b w' => e = .normal ∧ Ag Tryz.f19.ntmps [(6, Sl a' r c')] b ∧ w' = w3) (yj (S3.rf m1) z (ya 1 1 z (WO.weaken (yp fun b hb => ⟨rfl, hb, rfl⟩) (Sub.cons z Sub.nil)))) ?_ kr a hd hag
 rintro b w' ⟨_, hb, rfl⟩ b' hd' ht'
 have hb' : Ag Tryz.f19.ntmps [(6, Sl a' r c')] { b' with defers := [] } := ⟨rfl, by show b'.tmps.size = _; rw [ht']; exact hb.size, fun i v hi => by show b'.tmps.getD i undef = v; rw [ht']; exact hb.slots i v hi⟩
 refine markRet hd' hb' S3 (fun w4 S4 => ?_)
 obtain ⟨I5, L5, S5', hp5⟩ := yac ho S4.drop
 exact ⟨I5, a', c', rfl, (L2.trans L3).trans L5, S5', hp5⟩
noncomputable def why_Check (p0 : qC) (p1 : By8) (p2 : Int) (p3 : By8) (p4 : List qG) : Option Bool := (forN (fun (i15 : Nat) (s14 : By8) => (idx p4 (i15 : Int)).bind (fun x23 => (why_asked_fits (⟨p0, p2, p3⟩ : why_asked) x23 (decide ((i15 : Int) > 0))).bind (fun r36 => ((bif (!r36) then some true else (member_Is p0.Roles s14 x23.To).bind (fun r48 => some (!r48)))).bind (fun (j37 : Bool) => (bif j37 then some (.inr false) else some (.inl x23.By)))))) p4.length 0 p1).bind (fun (t : By8 ⊕ (Bool)) => match t with | .inl s14 => (why_asked_owns (⟨p0, p2, p3⟩ : why_asked) s14).bind (fun r70 => some r70) | .inr s54 => some s54)
theorem why_Check_ok {p0 : qC} {p1 : By8} {p2 : Int} {p3 : By8} {p4 : List qG} {w_p0 : W_qC} {a_p4 : Option Addr} {c_p4 : Nat} (h_p0 : ok_qC I p0 w_p0) (h_p4 : RSl 5 R_qG I a_p4 c_p4 p4) (hS : St E w I Os) {r : Bool} (G : why_Check p0 p1 p2 p3 p4 = some r) :
    Calls P 13 #[(vC p0 w_p0), (.string p1), (Iv p2), (.string p3), (Sl a_p4 p4 c_p4)] w (RT E I Os (.bool r)) := by
 refine calls_W (fn := Tryz.f13) rfl rfl rfl ?_
 unfold why_Check at G
 refine yf nL2 (yz hS (cs_qC p0 w_p0) 33 z fun b1 w4 S3 => ya 1 1 z (y0 nL6 (yx ((cs_qC p0 w_p0)) (S3.rf m0) z (ya 1 2 z (y8 3 17 (.agg (cs_why_asked (⟨p0, p2, p3⟩ : why_asked) (⟨w_p0⟩ : W_why_asked)).toArray) (yz S3 (cs_why_asked z_why_asked zw_why_asked) 79 z fun b5 w8 S7 => y7 S7 0 (cs_why_asked (⟨p0, p2, p3⟩ : why_asked) (⟨w_p0⟩ : W_why_asked)) fun w10 S9 => yb (W.seq (yf nL3 (ya 0 3 z (yb (yl (bsk G fun t11 hloop16 G => have hlt21 := (h_p4).len_lt; W.wk (yap (m := p4.length) hloop16 (fun (i15 : Nat) (s14 : By8) => JI E I [(1, .string s14), (5, Pt b1 0), (11, Pt b5 0), (18, Sl a_p4 p4 c_p4), (19, Nv p4.length), (20, Nv i15)] (bC b1 p0 w_p0 :: (Bx b5 (cs_why_asked (⟨p0, p2, p3⟩ : why_asked) (⟨w_p0⟩ : W_why_asked)) 79) :: Os)) ⟨I, rfl, lr, S9.front1⟩ ?_ ?_)))))))))))))
 rintro i15 s14 _ w18 hi22 ⟨I12, rfl, L13, S19⟩ x20 R1 hext11
 refine yf [0] (ya 0 1 z (yb (W.seq (yar fun _ => W.skip (ye (W.seq (yl (yf nL6 (ya 0 1 z ?_)))))))))
 obtain ⟨x23, R1, Hx23, _, rfl, Zx23⟩ := sx I12 h_p4 R1
 refine yaa 50 5 Hx23 z (yau ((cs_qG x23)) Zx23 0 S19.rm z (yz S19 (cs_qG z_qG) 50 z fun b24 w27 S26 => ya 4 1 z (y7 S26 0 (cs_qG x23) fun w29 S28 => yb (W.seq (yf nL15 (yx ((cs_why_asked (⟨p0, p2, p3⟩ : why_asked) (⟨w_p0⟩ : W_why_asked))) (S28.rf m2) z (yx ((cs_qG x23)) (S28.rf m0) z (ya 2 2 z ?_))))))))
 have hk30 : ok_why_asked I12 (⟨p0, p2, p3⟩ : why_asked) (⟨w_p0⟩ : W_why_asked) := ⟨(h_p0.mono L13)⟩
 refine bsk R1 fun r36 Xr31 R1 => WO.c1 (why_asked_fits_ok hk30 S28 Xr31) z fun I33 w32 L34 S35 => ya 5 2 z (bsk R1 fun j37 R2 R1 => yal (l1 := [7, 8, 9, 10, 11, 12, 13, 14]) (J := JI E I33 [(5, Pt b1 0), (11, Pt b5 0), (13, Pt b24 0), (18, Sl a_p4 p4 c_p4), (19, Nv p4.length), (20, Nv i15), (39, .bool j37)] (bC b1 p0 w_p0 :: (Bx b5 (cs_why_asked (⟨p0, p2, p3⟩ : why_asked) (⟨w_p0⟩ : W_why_asked)) 79) :: (bG b24 x23) :: Os)) ?_ ?_)
 refine yak R2 (fun H R2 => ?_) (fun H R2 => ?_)
 refine y6 31 H ?_
 iterate 7 refine yaj ?_
 exact ya 14 1 z (sj R2 ▸ y4 ⟨I33, rfl, lr, S35.front2.front2⟩)
 exact y6 31 H (yg 7 1 [2] z (yj (S35.rf m1) z (yg 9 2 [0] z (yj (S35.rf m0) z (bsk R2 fun r48 Xr43 R2 => WO.c1 (member_Is_ok (up h_p0.Roles) S35 Xr43) z fun I45 w44 L46 S47 => ya 13 2 z (sj R2 ▸ y4 ⟨I45, rfl, L46, S47.front2.front2⟩))))))
 rintro _ w51 ⟨I39, rfl, L40, S52⟩
 refine yb (yy R1 (fun H R1 => ?_) (fun H R1 => ?_))
 refine yf [0] (ya 0 1 z (yb (yq (yh (ym (yh (yu ?_)))))))
 obtain rfl := hext11 _ (sj R1).symm
 exact ym (yh (sj G ▸ yw ⟨I39, rfl, le, S52.d3⟩))
 exact W.skip (ye (yag nL3 (yg 0 1 [1] z (yj (S52.rf m2) z (ya 2 1 z (yp (yk (ye (yag nL2 (yam i15 z (ya 1 1 z (yp (yt ⟨x23.By, (sj R1).symm, I39, rfl, le, S52.front2.drop⟩)))))))))))))
 rintro s14 _ w62 ⟨I12, rfl, L13, S63⟩ he
 cases he
 refine yf [0] (ya 0 1 z (yb (W.seq (yas fun _ => W.exit (yn (yo (yr (ye (yf nL4 (yx ((cs_why_asked (⟨p0, p2, p3⟩ : why_asked) (⟨w_p0⟩ : W_why_asked))) (S63.rf m1) z (ya 1 1 z ?_)))))))))))
 have hk64 : ok_why_asked I12 (⟨p0, p2, p3⟩ : why_asked) (⟨w_p0⟩ : W_why_asked) := ⟨(h_p0.mono L13)⟩
 exact bsk G fun r70 Xr65 G => WO.c1 (why_asked_owns_ok hk64 S63 Xr65) z fun I67 w66 L68 S69 => ya 3 1 z (yb (yq (sj G ▸ yw ⟨I67, rfl, le, S69.d2⟩)))
def law32_works_1 (p0 : By8) (p1 : By8) : Option law19_Act := some (⟨{ z_qS with Kind := 14, Table := (⟨#[116]⟩ : By8), Role := p1, Priv := 1, Option := true }, p0⟩ : law19_Act)
theorem law32_works_1_ok {p0 : By8} {p1 : By8} (hS : St E w I Os) {r : law19_Act} (G : law32_works_1 p0 p1 = some r) :
    Calls P 31 #[(.string p0), (.string p1)] w (fun e w' => ∃ I' w_rw0, e = .returned (.agg (cs_law19_Act r w_rw0).toArray) ∧ I.Le I' ∧ St E w' I' Os ∧ ok_law19_Act I' r w_rw0) := by
 refine calls_W (fn := Tryz.f31) rfl rfl rfl ?_
 unfold law32_works_1 at G
 refine yf [0] (yz hS (cs_law19_Act z_law19_Act zw_law19_Act) 71 z fun b1 w4 S3 => y0 nL5 (ya 0 1 z (y8 1 6 (.agg (cs_qS ({ z_qS with Kind := 14, Table := (⟨#[116]⟩ : By8), Role := p1, Priv := 1, Option := true }) zw_qS).toArray) (ya 2 1 z (y8 3 8 (.agg (cs_law19_Act (⟨{ z_qS with Kind := 14, Table := (⟨#[116]⟩ : By8), Role := p1, Priv := 1, Option := true }, p0⟩ : law19_Act) (⟨zw_qS⟩ : W_law19_Act)).toArray) (y7 S3 0 (cs_law19_Act (⟨{ z_qS with Kind := 14, Table := (⟨#[116]⟩ : By8), Role := p1, Priv := 1, Option := true }, p0⟩ : law19_Act) (⟨zw_qS⟩ : W_law19_Act)) fun w6 S5 => yb (yq ?_)))))))
 have hk8 : ok_law19_Act I (⟨{ z_qS with Kind := 14, Table := (⟨#[116]⟩ : By8), Role := p1, Priv := 1, Option := true }, p0⟩ : law19_Act) (⟨zw_qS⟩ : W_law19_Act) := ⟨⟨SlAt.nil, SlAt.nil, SlAt.nil, SlAt.nil, zok_qS.Where, SlAt.nil, SlAt.nil, SlAt.nil⟩⟩
 exact sj G ▸ En.c1 _ (S5.rd m0) ⟨I, (⟨zw_qS⟩ : W_law19_Act), rfl, lr, S5.drop, hk8⟩
noncomputable def law32_works  : Option Bool := (law32_works_1 (⟨#[97, 110, 110]⟩ : By8) (⟨#[98, 111, 98]⟩ : By8)).bind (fun r6 => (law32_works_1 (⟨#[98, 111, 98]⟩ : By8) (⟨#[99, 121]⟩ : By8)).bind (fun r12 => (law19_Grown ([r6, r12] : List law19_Act)).bind (fun r29 => (why_Why r29 (⟨#[99, 121]⟩ : By8) 1 (⟨#[116]⟩ : By8)).bind (fun (r41, r42) => (why_Path ([(⟨(⟨#[97]⟩ : By8), ([(⟨#[98]⟩ : By8)] : List By8)⟩ : qJ), { z_qJ with Name := (⟨#[98]⟩ : By8) }] : List qJ) (⟨#[97]⟩ : By8) (⟨#[98]⟩ : By8)).bind (fun r72 => ((bif (r42 && ((r41.length : Int) == 2)) then (idx r41 0).bind (fun x79 => some (sEq x79.By (⟨#[98, 111, 98]⟩ : By8))) else some false)).bind (fun (j75 : Bool) => ((bif j75 then (idx r41 1).bind (fun x86 => some (sEq x86.By (⟨#[97, 110, 110]⟩ : By8))) else some false)).bind (fun (j82 : Bool) => ((bif j82 then (why_Check r29 (⟨#[99, 121]⟩ : By8) 1 (⟨#[116]⟩ : By8) r41).bind (fun r98 => some r98) else some false)).bind (fun (j89 : Bool) => some (j89 && ((r72.length : Int) == 2))))))))))
theorem law32_works_ok (hS : St E w I Os) {r : Bool} (G : law32_works = some r) :
    Calls P 11 #[] w (RT E I Os (.bool r)) := by
 refine calls_W (fn := Tryz.f11) rfl rfl rfl ?_
 unfold law32_works at G
 refine yf [0] (ya 0 1 z (y0 [0] (y8 0 1 (.func (.func 31) #[] #[]) (y0 nL8 (y8 0 6 (.func (.func 31) #[] #[]) (bsk G fun r6 Xr1 G => yai (law32_works_1_ok  hS Xr1) ?_))))))
 rintro _ w2 ⟨I3, w_r6, rfl, L4, S5, h_r6⟩
 refine cv (y8 2 8 (.func (.func 31) #[] #[]) (bsk G fun r12 Xr7 G => yai (law32_works_1_ok  S5 Xr7) ?_))
 rintro _ w8 ⟨I9, w_r12, rfl, L10, S11, h_r12⟩
 refine cv (yab (rel := R_law19_Act) (xs := ([r6, r12] : List law19_Act)) S11 z kr z 71 22 [(cs_law19_Act r6 w_r6), (cs_law19_Act r12 w_r12)] kr z ((Elr.cons ⟨w_r6, rfl, (h_r6.mono L10)⟩ (Elr.cons ⟨w_r12, rfl, h_r12⟩ Elr.nil))) tv ?_)
 intro a16 C14 w18 S17 ho15
 obtain ⟨I20, L21, S23, hp22⟩ := yac ho15 S17
 refine bsk G fun r29 Xr24 G => yai (law19_Grown_ok hp22 S23 Xr24) ?_
 rintro _ w25 ⟨I26, w_r29, rfl, L27, S28, h_r29⟩
 refine cv (yz S28 (cs_qC z_qC zw_qC) 33 z fun b30 w33 S32 => y7 S32 0 (cs_qC r29 w_r29) fun w35 S34 => y0 nL7 (yx ((cs_qC r29 w_r29)) (S34.rf m0) z ?_))
 obtain ⟨⟨r41, r42⟩, Xr36, G⟩ := bsm G
 refine yai (why_Why_ok h_r29 S34 Xr36) ?_
 rintro _ w37 ⟨I38, a_r41, c_r41, rfl, L39, S40, h_r41⟩
 refine cv (ya 2 5 z (y0 nL6 (yab (rel := RStr) (xs := ([(⟨#[98]⟩ : By8)] : List By8)) S40 z kr z 9 1 [[(.string (⟨#[98]⟩ : By8))]] kr z ((Elr.cons z Elr.nil)) tv ?_)))
 intro a46 C44 w48 S47 ho45
 obtain ⟨I50, L51, S53, hp52⟩ := yac ho45 S47
 refine WO.vs 1 [(18, .agg #[(.string (⟨#[97]⟩ : By8)), (.slice a46 1 1)]), (19, .agg (cs_qJ ({ z_qJ with Name := (⟨#[98]⟩ : By8) }) zw_qJ).toArray)] ?_
 have hk61 : ok_qJ I50 (⟨(⟨#[97]⟩ : By8), ([(⟨#[98]⟩ : By8)] : List By8)⟩ : qJ) (⟨⟨a46, 1⟩⟩ : W_qJ) := ⟨hp52⟩
 have hk62 : ok_qJ I50 ({ z_qJ with Name := (⟨#[98]⟩ : By8) }) zw_qJ := ⟨SlAt.nil⟩
 refine yab (rel := R_qJ) (xs := ([(⟨(⟨#[97]⟩ : By8), ([(⟨#[98]⟩ : By8)] : List By8)⟩ : qJ), { z_qJ with Name := (⟨#[98]⟩ : By8) }] : List qJ)) S53 z kr z 74 2 [[(.string (⟨#[97]⟩ : By8)), (.slice a46 1 1)], (cs_qJ ({ z_qJ with Name := (⟨#[98]⟩ : By8) }) zw_qJ)] kr z ((Elr.cons ⟨(⟨⟨a46, 1⟩⟩ : W_qJ), rfl, hk61⟩ (Elr.cons ⟨zw_qJ, rfl, hk62⟩ Elr.nil))) tv ?_
 intro a57 C55 w59 S58 ho56
 obtain ⟨I63, L64, S66, hp65⟩ := yac ho56 S58
 refine bsk G fun r72 Xr67 G => yai (why_Path_ok hp65 S66 Xr67) ?_
 rintro _ w68 ⟨I69, a_r72, c_r72, rfl, L70, S71, h_r72⟩
 refine cv (ya 5 1 z (y0 nL31 (ya 0 2 z (yaq [2, 3, 4] 5 23 27 (.refl (r42 && ((r41.length : Int) == 2))) (fun _ => ya 2 4 z yah) (ya 6 1 z (bsk G fun j75 R1 G => yal (l1 := [7, 8, 9, 10, 11, 12]) (J := JI E I69 [(2, Pt b30 0), (3, Sl a_r41 r41 c_r41), (5, Sl a_r72 r72 c_r72), (34, .bool j75)] (bC b30 r29 w_r29 :: Os)) ?_ ?_))))))
 refine yak R1 (fun H R1 => ?_) (fun H R1 => ?_)
 refine y6 28 H (ya 7 1 z ?_)
 obtain ⟨x79, R1, Hx79, _, rfl, Zx79⟩ := sx I69 h_r41 R1
 exact yaa 50 5 Hx79 z (yg 9 1 [1] z (yaz Zx79 1 S71.rm z (ya 11 2 z (sj R1 ▸ y4 ⟨I69, rfl, lr, S71⟩))))
 refine y6 28 H ?_
 iterate 5 refine yaj ?_
 exact ya 12 1 z (sj R1 ▸ y4 ⟨I69, rfl, lr, S71⟩)
 rintro _ w80 ⟨I77, rfl, L78, S81⟩
 refine ya 13 1 z (bsk G fun j82 R1 G => yal (l1 := [14, 15, 16, 17, 18, 19]) (J := JI E I77 [(2, Pt b30 0), (3, Sl a_r41 r41 c_r41), (5, Sl a_r72 r72 c_r72), (41, .bool j82)] (bC b30 r29 w_r29 :: Os)) ?_ ?_)
 refine yak R1 (fun H R1 => ?_) (fun H R1 => ?_)
 refine y6 35 H (ya 14 1 z ?_)
 obtain ⟨x86, R1, Hx86, _, rfl, Zx86⟩ := sx I77 h_r41 R1
 exact yaa 50 5 Hx86 z (yg 16 1 [1] z (yaz Zx86 1 S81.rm z (ya 18 2 z (sj R1 ▸ y4 ⟨I77, rfl, lr, S81⟩))))
 refine y6 35 H ?_
 iterate 5 refine yaj ?_
 exact ya 19 1 z (sj R1 ▸ y4 ⟨I77, rfl, lr, S81⟩)
 rintro _ w87 ⟨I84, rfl, L85, S88⟩
 refine ya 20 1 z (bsk G fun j89 R1 G => yal (l1 := [21, 22, 23, 24]) (J := JI E I84 [(5, Sl a_r72 r72 c_r72), (46, .bool j89)] Os) ?_ ?_)
 refine yak R1 (fun H R1 => ?_) (fun H R1 => ?_)
 exact y6 42 H (yx ((cs_qC r29 w_r29)) (S88.rf m0) z (ya 22 1 z (bsk R1 fun r98 Xr93 R1 => WO.c1 (why_Check_ok (h_r29.mono le) (up h_r41) S88 Xr93) z fun I95 w94 L96 S97 => ya 24 1 z (sj R1 ▸ y4 ⟨I95, rfl, L96, S97.drop⟩))))
 refine y6 42 H ?_
 iterate 3 refine yaj ?_
 exact ya 24 1 z (sj R1 ▸ y4 ⟨I84, rfl, lr, S88.drop⟩)
 rintro _ w101 ⟨I91, rfl, L92, S102⟩
 exact ya 25 1 z (yaq [26, 27, 28] 29 47 51 (.refl (j89 && ((r72.length : Int) == 2))) (fun _ => ya 26 4 z yah) (ya 30 1 z (yb (yq (sj G ▸ yw ⟨I91, rfl, le, S102⟩)))))
def slices_IndexFunc_qG (p0 : List qG) (p1 : qG → Option Bool) : Option Int := (forN (fun (i4 : Nat) (_s : Unit) => (idx p0 (i4 : Int)).bind (fun x11 => (p1 x11).bind (fun (r17 : Bool) => (bif r17 then some (.inr (i4 : Int)) else some (.inl ()))))) p0.length 0 ()).bind (fun (t : Unit ⊕ (Int)) => match t with | .inl _ => some (-1) | .inr s19 => some s19)
theorem slices_IndexFunc_qG_ok {p0 : List qG} {p1 : qG → Option Bool} {a_p0 : Option Addr} {c_p0 : Nat} {g_p1 : FuncId} {k_p1 : List Value} (h_p0 : RSl 5 R_qG I a_p0 c_p0 p0) (h_p1 : ∀ {F : List Mem} {I' : Mem} {w : World} {u0 : qG}, I.Le I' → St E w I' (F ++ Os) → ∀ {r : Bool}, p1 u0 = some r → Calls P g_p1 (([(vG u0)] : List Value) ++ k_p1).toArray w (fun e w' => ∃ (I'' : Mem), e = .returned (.bool r) ∧ I'.Le I'' ∧ St E w' I'' (F ++ Os))) (hcall_p1 : Callable P g_p1) (hS : St E w I Os) {r : Int} (G : slices_IndexFunc_qG p0 p1 = some r) :
    Calls P 101 #[(Sl a_p0 p0 c_p0), (.func (.func g_p1) #[] k_p1.toArray)] w (RT E I Os (Iv r)) := by
 refine calls_W (fn := Tryz.f101) rfl rfl rfl ?_
 unfold slices_IndexFunc_qG at G
 refine yf [0] (ya 0 1 z (yb (W.seq (yf nL3 (ya 0 3 z (yb (yl (bsk G fun t1 hloop5 G => have hlt9 := (h_p0).len_lt; W.wk (yap (m := p0.length) hloop5 (fun (i4 : Nat) (_s : Unit) => JI E I [(0, Sl a_p0 p0 c_p0), (1, .func (.func g_p1) #[] k_p1.toArray), (7, Nv p0.length), (8, Nv i4)] Os) ⟨I, rfl, lr, hS⟩ ?_ ?_)))))))))
 rintro i4 _ _ w6 hi10 ⟨I2, rfl, L3, S7⟩ x8 R1 hext1
 refine yf [0] (ya 0 1 z (yb (W.seq (yar fun _ => W.skip (ye (W.seq (yl (yf nL2 (ya 0 2 z (y0 nL6 (y8 0 11 (.func (.func g_p1) #[] k_p1.toArray) (ya 1 2 z ?_))))))))))))
 obtain ⟨x11, R1, Hx11, _, rfl, Zx11⟩ := sx I2 h_p0 R1
 refine yaa 50 5 Hx11 z (yau ((cs_qG x11)) Zx11 0 S7.rm z (bsk R1 fun r17 Xr12 R1 => WO.callv z kr z (g := g_p1) (kk := k_p1) (args := [(vG x11)]) z kr hcall_p1 (h_p1 (F := []) L3 S7  Xr12) ?_))
 rintro _ w13 ⟨I14, rfl, L15, S16⟩
 refine cv (yb (yy R1 (fun H R1 => ?_) (fun H R1 => ?_)))
 refine yf nL2 (ya 0 2 z (yb (yq (ym (yh (yu ?_))))))
 obtain rfl := hext1 _ (sj R1).symm
 exact ym (yh (sj G ▸ yw ⟨I14, rfl, le, S16⟩))
 exact W.skip (yk (ye (yag nL2 (yam i4 z (ya 1 1 z (yp (yt ⟨(), (sj R1).symm, I14, rfl, le, S16⟩)))))))
 rintro _ _ w20 ⟨I2, rfl, L3, S21⟩ he
 cases he
 exact yf [0] (ya 0 1 z (yb (W.seq (yas fun _ => W.exit (yn (yo (yr (ye (yf [0] (ya 0 1 z (yb (yq (sj G ▸ yw ⟨I2, rfl, L3, S21⟩)))))))))))))
def grants_place_1 (p0 : qG) (q1 : qS) (q2 : By8) : Option Bool := (some (((sEq p0.To q1.Role) && (sEq p0.By q2)) && (sEq p0.Table q1.Table))).bind (fun (q7 : Bool) => some (q7 && (p0.Priv == q1.Priv)))
theorem grants_place_1_ok {p0 : qG} {q1 : qS} {q2 : By8} {kb1 : Nat} {w_q1 : W_qS} {kb2 : Nat} (h_q1 : ok_qS I q1 w_q1) (hm1 : (bS kb1 q1 w_q1) ∈ Os) (hm2 : (Bx kb2 [(.string q2)] 9) ∈ Os) (hS : St E w I Os) {r : Bool} (G : grants_place_1 p0 q1 q2 = some r) :
    Calls P 117 #[(vG p0), (Pt kb1 0), (Pt kb2 0)] w (RT E I Os (.bool r)) := by
 refine calls_W (fn := Tryz.f117) rfl rfl rfl ?_
 unfold grants_place_1 at G
 exact yf nL2 (yz hS (cs_qG p0) 50 z fun b1 w4 S3 => ya 1 1 z (y0 nL26 (yg 0 1 [0] z (yj (S3.rf m0) z (yg 2 1 [3] z (yj (rd_f (S3.rd (List.Mem.tail _ hm1))) z (ya 4 2 z (yaq [6, 7, 8, 9] 10 10 15 (.refl ((sEq p0.To q1.Role) && (sEq p0.By q2))) (fun _ => yg 6 1 [1] z (yj (S3.rf m0) z (yj (rd_f (S3.rd (List.Mem.tail _ hm2))) z (ya 9 2 z yah)))) (ya 11 1 z (bsq G fun q7 Xq7 G => yaq [12, 13, 14, 15, 16] 17 16 22 Xq7 (fun _ => yg 12 1 [2] z (yj (S3.rf m0) z (yg 14 1 [1] z (yj (rd_f (S3.rd (List.Mem.tail _ hm1))) z (ya 16 2 z yah))))) (ya 18 1 z (yaq [19, 20, 21, 22, 23] 24 23 29 (.refl (q7 && (p0.Priv == q1.Priv))) (fun _ => yg 19 1 [3] z (yj (S3.rf m0) z (yg 21 1 [18] z (yj (rd_f (S3.rd (List.Mem.tail _ hm1))) z (ya 23 2 z yah))))) (ya 25 1 z (yb (yq (sj G ▸ yw ⟨I, rfl, lr, S3.drop⟩))))))))))))))))
def grants_place (p0 : qC) (p1 : qS) (p2 : By8) : Option Int := (slices_IndexFunc_qG p0.Grants (fun (u0 : qG) => grants_place_1 u0 p1 p2)).bind (fun r18 => some r18)
theorem grants_place_ok {p0 : qC} {p1 : qS} {p2 : By8} {w_p0 : W_qC} {w_p1 : W_qS} (h_p0 : ok_qC I p0 w_p0) (h_p1 : ok_qS I p1 w_p1) (hS : St E w I Os) {r : Int} (G : grants_place p0 p1 p2 = some r) :
    Calls P 79 #[(vC p0 w_p0), (vS p1 w_p1), (.string p2)] w (RT E I Os (Iv r)) := by
 refine calls_W (fn := Tryz.f79) rfl rfl rfl ?_
 unfold grants_place at G
 exact yf nL4 (yz hS (cs_qC p0 w_p0) 33 z fun b1 w4 S3 => yz S3 (cs_qS p1 w_p1) 66 z fun b5 w8 S7 => yz S7 [(.string p2)] 9 z fun b9 w12 S11 => ya 3 1 z (y0 nL5 (yg 0 1 [3] z (yj (S11.rf m2) z (y8 2 9 (.func (.func 117) #[] #[(Pt b5 0), (Pt b9 0)]) (bsk G fun r18 Xr13 G => WO.c1 (slices_IndexFunc_qG_ok h_p0.Grants (fun {F Ic wc} {_} hlc hSc  {rc} hrc => grants_place_1_ok (h_p1.mono hlc) (List.mem_append_right _ m1) (List.mem_append_right _ m0) hSc hrc) (fun _ _ => by kernel_rfl) S11 Xr13) z fun I15 w14 L16 S17 => ya 4 1 z (yb (yq (sj G ▸ yw ⟨I15, rfl, L16, S17.d3⟩)))))))))
def slices_Clone_qG (p0 : List qG) : Option (List qG) := (app 64 ([] : List qG) p0).bind (fun x10 => some x10)
theorem slices_Clone_qG_ok {p0 : List qG} {a_p0 : Option Addr} {c_p0 : Nat} (h_p0 : RSl 5 R_qG I a_p0 c_p0 p0) (hS : St E w I Os) {r : (List qG)} (G : slices_Clone_qG p0 = some r) :
    Calls P 81 #[(Sl a_p0 p0 c_p0)] w (fun e w' => ∃ (I' : Mem) (ra0 : Option Addr) (rc0 : Nat) (rC0 : Mem), e = .returned (Sl ra0 r rc0) ∧ I.Le I' ∧ St E w' I' (rC0 :: Os) ∧ OwnSl 50 5 R_qG I' rC0 ra0 rc0 r) := by
 refine calls_W (fn := Tryz.f81) rfl rfl rfl ?_
 unfold slices_Clone_qG at G
 refine yf [0] (y8 0 2 (.slice none 0 0) (yb (W.seq (yf nL2 (ya 0 1 z (ybk (e := 50) z kr kr z z ?_))))))
 refine yb (W.cd (fun H => ?_) (fun H => ?_))
 have ha0 := Option.isNone_iff_eq_none.1 H
 subst ha0
 have hx0 := (h_p0).none_nil
 subst hx0
 replace G : some ([] : List qG) = some r := by simpa [app] using G
 exact yf [0] (y8 0 2 (.slice none 0 0) (yb (yq (yh (sj G ▸ yw ⟨I, none, 0, Mem.no, rfl, lr, hS.no, OwnSl.nil⟩)))))
 clear H
 refine W.skip (ye (yf nL4 (yab (rel := R_qG) (xs := ([] : List qG)) hS z kr z 50 5 [] kr z (Elr.nil) tv ?_)))
 intro a6 C4 w8 S7 ho5
 exact ya 1 1 z (apk G fun x10 h0_x10 he_x10 G => yax 50 64 (cs_qG z_qG) S7 ho5 h_p0 S7.im h0_x10 he_x10 z fun a11 c12 w13 C14 S15 ho16 => ya 3 1 z (yb (yq (sj G ▸ yw ⟨I, a11, c12, C14, rfl, lr, S15, ho16⟩))))
theorem del82_ok {E w : World} {I C : Mem} {Os : List Mem} {xs : List qG} {a : Option Addr} {cap : Nat} (h : OwnSl 50 5 R_qG I C a cap xs) (hS : St E w I (C :: Os)) {p q : Nat} (hpq : p < q) (hq : q ≤ xs.length) :
    Calls P 82 #[.slice a xs.length cap, .int .i64 (p : Int), .int .i64 (q : Int)] w (fun e w' => ∃ (C' : Mem), e = .returned (.slice a (xs.take p ++ xs.drop q).length cap) ∧ St E w' I (C' :: Os) ∧ OwnSl 50 5 R_qG I C' a cap (xs.take p ++ xs.drop q)) := by
 have hxl := h.sl.le
 have hxc := h.sl.lt
 have hlen : (xs.take p ++ xs.drop q).length = p + (xs.length - q) := by simp; omega
 refine calls_W (fn := Tryz.f82) rfl rfl rfl ?_
 refine yf [0] (y8 0 6 (.slice none 0 0) (y0 nL6 (WO.vs 0 [(8, Sl a xs cap), (9, Iv (p : Int)), (10, Iv (q : Int)), (11, Sl a xs cap), (12, Nv xs.length)] (WO.slice3 (e := 50) (sz := 5) z kr kr kr z p q xs.length z z z (by omega) hq hxl ?_))))
 refine yb (W.seq (yf nL3 (WO.vs 0 [(14, Iv (p : Int)), (15, Iv (q : Int)), (16, .bool ((p : Int) == (q : Int)))] (yb (W.cd (fun H => ?_) (fun H => ?_))))))
 exfalso
 simp at H
 omega
 clear H
 refine W.skip (ye (yf nL3 (WO.vs 0 [(18, Sl a xs cap), (19, Nv xs.length), (7, Nv xs.length)] (yb (W.seq (have S1 := hS.drew; yba nL8 6 (yad S1.im) ?_))))))
 generalize World.drew _ = w1 at *
 refine WO.vs 0 [(20, Sl a xs cap), (21, Iv (p : Int))] (ya3 (e := 50) (sz := 5) z kr kr kr z (0 : Int) (p : Int) (by omega) (.inl ⟨rfl, rfl⟩) (.inr ⟨_, _, rfl, rfl⟩) (by omega) (by omega) ?_)
 refine WO.vs 3 [(23, Sl a xs cap), (24, Iv (q : Int))] (ya3 (e := 50) (sz := 5) z kr kr kr z (q : Int) (xs.length : Int) (by omega) (.inr ⟨_, _, rfl, rfl⟩) (.inl ⟨rfl, rfl⟩) (by omega) (by omega) ?_)
 refine WO.tail z (WO.appendSelf (T := 50) (e' := 50) (b := 64) (zs := #[(.string eB), (.string eB), (.string eB), (Iv 0), (.bool false)]) S1 h z kr z kr kr kr (Nat.le_of_lt hpq) hq z z tv ?_)
 intro w2 C2 S2 h2
 refine y8 7 0 (.slice a (p + (xs.length - q)) cap) (yb ?_)
 have hfl : (xs.take p ++ xs.drop q ++ xs.drop (p + (xs.length - q))).length = xs.length := by simp; omega
 refine yf nL6 (WO.vs 0 [(27, .slice a (p + (xs.length - q)) cap), (28, .slice a (p + (xs.length - q)) cap), (29, Iv ((p + (xs.length - q) : Nat) : Int)), (30, Nv xs.length)] (ya3 (e := 50) (sz := 5) z kr kr kr z ((p + (xs.length - q) : Nat) : Int) (xs.length : Int) (by omega) (.inr ⟨_, _, rfl, rfl⟩) (.inr ⟨_, _, rfl, rfl⟩) (by omega) (by omega) ?_))
 refine WO.clear S2 h2 (e := 50) kr (zs := [(.string eB), (.string eB), (.string eB), (Iv 0), (.bool false)]) kr (z0 := z_qG) z kr kr kr z kr z (lo := p + (xs.length - q)) (by rw [hfl]; omega) (by rw [hfl]; rfl) tv ?_
 intro w3 C3 S3 h3
 refine y0 nL2 (WO.vs 0 [(32, .slice a (p + (xs.length - q)) cap), (6, .slice a (p + (xs.length - q)) cap)] (yb (yq ?_)))
 rw [hlen]
 refine yw ⟨C3, rfl, S3, ?_⟩
 have h4 := h3.shorter (p + (xs.length - q))
 rwa [List.take_append_of_le_length (by rw [List.length_take, hfl]; omega), List.take_take, Nat.min_self, List.take_append_of_le_length (by rw [hlen]; exact Nat.le_refl _), List.take_of_length_le (by rw [hlen]; exact Nat.le_refl _)] at h4
def slices_Delete_qG (p0 : List qG) (p1 p2 : Int) : Option (List qG) := delO p0 p1 p2
theorem slices_Delete_qG_ok {p0 : List qG} {p1 p2 : Int} {a_p0 : Option Addr} {c_p0 : Nat} {C_p0 : Mem} (h_p0 : OwnSl 50 5 R_qG I C_p0 a_p0 c_p0 p0) (hS : St E w I (C_p0 :: Os)) {r : List qG} (G : slices_Delete_qG p0 p1 p2 = some r) :
    Calls P 82 #[.slice a_p0 p0.length c_p0, .int .i64 p1, .int .i64 p2] w (fun e w' => ∃ (I' : Mem) (ra0 : Option Addr) (rc0 : Nat) (rC0 : Mem), e = .returned (.slice ra0 r.length rc0) ∧ I.Le I' ∧ St E w' I' (rC0 :: Os) ∧ OwnSl 50 5 R_qG I' rC0 ra0 rc0 r) := by
  obtain ⟨p, q, rfl, rfl, h1, h2, rfl⟩ := delO_some G
  refine (del82_ok h_p0 hS h1 h2).mono ?_
  rintro e w' ⟨C', rfl, hS', ho⟩
  exact ⟨I, a_p0, c_p0, C', rfl, Mem.Le.refl _, hS', ho⟩
def grants_take (p0 : qC) (p1 : qS) (p2 : By8) : Option ((List qG) × Int) := (grants_place p0 p1 p2).bind (fun r14 => (bif (decide (r14 < 0)) then some (([] : List qG), 4) else (slices_Clone_qG p0.Grants).bind (fun r22 => (slices_Delete_qG r22 r14 (w64 (r14 + 1))).bind (fun r28 => some (r28, 0)))))
theorem grants_take_ok {p0 : qC} {p1 : qS} {p2 : By8} {w_p0 : W_qC} {w_p1 : W_qS} (h_p0 : ok_qC I p0 w_p0) (h_p1 : ok_qS I p1 w_p1) (hS : St E w I Os) {r : (List qG) × Int} (G : grants_take p0 p1 p2 = some r) :
    Calls P 54 #[(vC p0 w_p0), (vS p1 w_p1), (.string p2)] w (fun e w' => ∃ (I' : Mem) (ra0 : Option Addr) (rc0 : Nat), e = .returned (.tuple #[(Sl ra0 r.1 rc0), (Iv r.2)]) ∧ I.Le I' ∧ St E w' I' Os ∧ RSl 5 R_qG I' ra0 rc0 r.1) := by
 refine calls_W (fn := Tryz.f54) rfl rfl rfl ?_
 unfold grants_take at G
 refine yf nL4 (yz hS (cs_qC p0 w_p0) 33 z fun b1 w4 S3 => yz S3 (cs_qS p1 w_p1) 66 z fun b5 w8 S7 => y8 2 6 (.slice none 0 0) (ya 3 1 z (y0 nL5 (yx ((cs_qC p0 w_p0)) (S7.rf m1) z (yx ((cs_qS p1 w_p1)) (S7.rf m0) z (ya 2 1 z (bsk G fun r14 Xr9 G => WO.c1 (grants_place_ok h_p0 h_p1 S7 Xr9) z fun I11 w10 L12 S13 => ya 4 1 z (yb (W.seq (yf nL2 (ya 0 2 z (yb (yy G (fun H G => ?_) (fun H G => ?_))))))))))))))
 exact yf nL2 (y8 0 6 (.slice none 0 0) (ya 1 1 z (yb (yq (yh (sj G ▸ yay ⟨I11, none, 0, rfl, L12, S13.d2, SlAt.nil⟩))))))
 refine W.skip (ye (yf nL9 (yg 0 1 [3] z (yj (S13.rf m1) z (bsk G fun r22 Xr17 G => yai (slices_Clone_qG_ok (RSl.mono h_p0.Grants L12) S13 Xr17) ?_)))))
 rintro _ w18 ⟨I19, a_r22, c_r22, C_r22, rfl, L20, S21, h_r22⟩
 refine cv (ya 3 3 z (bsk G fun r28 Xr23 G => yai (slices_Delete_qG_ok h_r22 S21 Xr23) ?_))
 rintro _ w24 ⟨I25, a_r28, c_r28, C_r28, rfl, L26, S27, h_r28⟩
 refine cv ?_
 obtain ⟨I29, L30, S32, hp31⟩ := yac h_r28 S27
 exact ya 7 2 z (yb (yq (sj G ▸ yay ⟨I29, a_r28, c_r28, rfl, le, S32.d2, hp31⟩)))
def slices_ContainsFunc_qG (p0 : List qG) (p1 : qG → Option Bool) : Option Bool := (slices_IndexFunc_qG p0 p1).bind (fun r6 => some (decide (r6 ≥ 0)))
theorem slices_ContainsFunc_qG_ok {p0 : List qG} {p1 : qG → Option Bool} {a_p0 : Option Addr} {c_p0 : Nat} {g_p1 : FuncId} {k_p1 : List Value} (h_p0 : RSl 5 R_qG I a_p0 c_p0 p0) (h_p1 : ∀ {F : List Mem} {I' : Mem} {w : World} {u0 : qG}, I.Le I' → St E w I' (F ++ Os) → ∀ {r : Bool}, p1 u0 = some r → Calls P g_p1 (([(vG u0)] : List Value) ++ k_p1).toArray w (fun e w' => ∃ (I'' : Mem), e = .returned (.bool r) ∧ I'.Le I'' ∧ St E w' I'' (F ++ Os))) (hcall_p1 : Callable P g_p1) (hS : St E w I Os) {r : Bool} (G : slices_ContainsFunc_qG p0 p1 = some r) :
    Calls P 68 #[(Sl a_p0 p0 c_p0), (.func (.func g_p1) #[] k_p1.toArray)] w (RT E I Os (.bool r)) := by
 refine calls_W (fn := Tryz.f68) rfl rfl rfl ?_
 unfold slices_ContainsFunc_qG at G
 exact yf [0] (ya 0 1 z (y0 nL5 (ya 0 1 z (y8 1 6 (.func (.func g_p1) #[] k_p1.toArray) (bsk G fun r6 Xr1 G => WO.c1 (slices_IndexFunc_qG_ok h_p0 (fun {F Ic wc} {_} hlc hSc  {rc} hrc => h_p1 hlc hSc  hrc) hcall_p1 hS Xr1) z fun I3 w2 L4 S5 => ya 3 2 z (yb (yq (sj G ▸ yw ⟨I3, rfl, L4, S5⟩))))))))
noncomputable def grants_has_1 (p0 : qG) (q1 : Int) (q2 : By8) (q3 : Bool) (q4 : qC) (q5 : By8) : Option Bool := (some (((p0.Priv == q1) && (sEq p0.Table q2)) && (p0.Option || (!q3)))).bind (fun (q9 : Bool) => ((bif q9 then (member_Is q4.Roles q5 p0.To).bind (fun r23 => some r23) else some false)).bind (fun (j14 : Bool) => some j14))
theorem grants_has_1_ok {p0 : qG} {q1 : Int} {q2 : By8} {q3 : Bool} {q4 : qC} {q5 : By8} {kb1 : Nat} {kb2 : Nat} {kb3 : Nat} {kb4 : Nat} {w_q4 : W_qC} {kb5 : Nat} (h_q4 : ok_qC I q4 w_q4) (hm1 : (Bx kb1 [(Iv q1)] 3) ∈ Os) (hm2 : (Bx kb2 [(.string q2)] 9) ∈ Os) (hm3 : (Bx kb3 [(.bool q3)] 4) ∈ Os) (hm4 : (bC kb4 q4 w_q4) ∈ Os) (hm5 : (Bx kb5 [(.string q5)] 9) ∈ Os) (hS : St E w I Os) {r : Bool} (G : grants_has_1 p0 q1 q2 q3 q4 q5 = some r) :
    Calls P 69 #[(vG p0), (Pt kb1 0), (Pt kb2 0), (Pt kb3 0), (Pt kb4 0), (Pt kb5 0)] w (RT E I Os (.bool r)) := by
 refine calls_W (fn := Tryz.f69) rfl rfl rfl ?_
 unfold grants_has_1 at G
 refine yf nL2 (yz hS (cs_qG p0) 50 z fun b1 w4 S3 => ya 1 1 z (y0 nL27 (yg 0 1 [3] z (yj (S3.rf m0) z (yj (rd_f (S3.rd (List.Mem.tail _ hm1))) z (ya 3 2 z (yaq [5, 6, 7, 8] 9 12 17 (.refl ((p0.Priv == q1) && (sEq p0.Table q2))) (fun _ => yg 5 1 [2] z (yj (S3.rf m0) z (yj (rd_f (S3.rd (List.Mem.tail _ hm2))) z (ya 8 2 z yah)))) (ya 10 1 z (bsq G fun q9 Xq9 G => yaq [11, 12, 13, 14, 15, 16] 17 18 25 Xq9 (fun _ => yg 11 1 [4] z (yj (S3.rf m0) z (ya 13 1 z (ya2 [14, 15] 16 21 24 (.refl (p0.Option || (!q3))) (fun _ => yj (rd_f (S3.rd (List.Mem.tail _ hm3))) z (ya 15 2 z yah)) (ya 17 1 z yah))))) (ya 18 1 z (bsk G fun j14 R1 G => yal (l1 := [19, 20, 21, 22, 23, 24, 25]) (J := JI E I [(33, .bool j14)] Os) ?_ ?_)))))))))))
 refine yak R1 (fun H R1 => ?_) (fun H R1 => ?_)
 exact y6 26 H (yg 19 1 [2] z (yj (rd_f (S3.rd (List.Mem.tail _ hm4))) z (yj (rd_f (S3.rd (List.Mem.tail _ hm5))) z (yg 22 1 [0] z (yj (S3.rf m0) z (bsk R1 fun r23 Xr18 R1 => WO.c1 (member_Is_ok h_q4.Roles S3 Xr18) z fun I20 w19 L21 S22 => ya 25 1 z (sj R1 ▸ y4 ⟨I20, rfl, L21, S22.drop⟩)))))))
 refine y6 26 H ?_
 iterate 6 refine yaj ?_
 exact ya 25 1 z (sj R1 ▸ y4 ⟨I, rfl, lr, S3.drop⟩)
 rintro _ w26 ⟨I16, rfl, L17, S27⟩
 exact ya 26 1 z (yb (yq (sj G ▸ yw ⟨I16, rfl, L17, S27⟩)))
noncomputable def grants_has (p0 : qC) (p1 : List qG) (p2 : By8) (p3 : Int) (p4 : By8) (p5 : Bool) : Option Bool := (slices_ContainsFunc_qG p1 (fun (u0 : qG) => grants_has_1 u0 p3 p4 p5 p0 p2)).bind (fun r26 => some r26)
theorem grants_has_ok {p0 : qC} {p1 : List qG} {p2 : By8} {p3 : Int} {p4 : By8} {p5 : Bool} {w_p0 : W_qC} {a_p1 : Option Addr} {c_p1 : Nat} (h_p0 : ok_qC I p0 w_p0) (h_p1 : RSl 5 R_qG I a_p1 c_p1 p1) (hS : St E w I Os) {r : Bool} (G : grants_has p0 p1 p2 p3 p4 p5 = some r) :
    Calls P 49 #[(vC p0 w_p0), (Sl a_p1 p1 c_p1), (.string p2), (Iv p3), (.string p4), (.bool p5)] w (RT E I Os (.bool r)) := by
 refine calls_W (fn := Tryz.f49) rfl rfl rfl ?_
 unfold grants_has at G
 exact yf nL6 (yz hS (cs_qC p0 w_p0) 33 z fun b1 w4 S3 => yz S3 [(.string p2)] 9 z fun b5 w8 S7 => yz S7 [(Iv p3)] 3 z fun b9 w12 S11 => yz S11 [(.string p4)] 9 z fun b13 w16 S15 => yz S15 [(.bool p5)] 4 z fun b17 w20 S19 => ya 5 1 z (y0 nL4 (ya 0 1 z (y8 1 14 (.func (.func 69) #[] #[(Pt b9 0), (Pt b13 0), (Pt b17 0), (Pt b1 0), (Pt b5 0)]) (bsk G fun r26 Xr21 G => WO.c1 (slices_ContainsFunc_qG_ok h_p1 (fun {F Ic wc} {_} hlc hSc  {rc} hrc => grants_has_1_ok (h_p0.mono hlc) (List.mem_append_right _ m2) (List.mem_append_right _ m1) (List.mem_append_right _ m0) (List.mem_append_right _ m4) (List.mem_append_right _ m3) hSc hrc) (fun _ _ => by kernel_rfl) S19 Xr21) z fun I23 w22 L24 S25 => ya 3 1 z (yb (yq (sj G ▸ yw ⟨I23, rfl, L24, S25.d5⟩))))))))
def grants_Held_1 (q0 : qC) (q1 : List Bool) : Option (List qG) := (forE (fun (i5 : Nat) (s4 : List qG) => (idx q0.Grants (i5 : Int)).bind (fun x14 => (idx q1 (i5 : Int)).bind (fun x21 => ((bif x21 then (app 64 s4 ([x14] : List qG)).bind (fun x34 => some x34) else some s4)).bind (fun (j22 : List qG) => some j22)))) q0.Grants.length 0 ([] : List qG)).bind (fun s4 => some s4)
theorem grants_Held_1_ok {q0 : qC} {q1 : List Bool} {kb0 : Nat} {w_q0 : W_qC} {kb1 : Nat} {a_q1 : Option Addr} {c_q1 : Nat} (h_q0 : ok_qC I q0 w_q0) (h_q1 : RSl 1 RBool I a_q1 c_q1 q1) (hm0 : (bC kb0 q0 w_q0) ∈ Os) (hm1 : (Bx kb1 [(Sl a_q1 q1 c_q1)] 100) ∈ Os) (hS : St E w I Os) {r : (List qG)} (G : grants_Held_1 q0 q1 = some r) :
    Calls P 50 #[(Pt kb0 0), (Pt kb1 0)] w (fun e w' => ∃ (I' : Mem) (ra0 : Option Addr) (rc0 : Nat) (rC0 : Mem), e = .returned (Sl ra0 r rc0) ∧ I.Le I' ∧ St E w' I' (rC0 :: Os) ∧ OwnSl 50 5 R_qG I' rC0 ra0 rc0 r) := by
 refine calls_W (fn := Tryz.f50) rfl rfl rfl ?_
 unfold grants_Held_1 at G
 refine yf [0] (y8 0 2 (.slice none 0 0) (y0 [0] (y8 0 3 (.slice none 0 0) (yb (W.seq (yf nL4 (yg 0 1 [3] z (yj (rd_f (hS.rd hm0)) z (ya 2 2 z (yb (yl (bsk G fun s4 hloop6 G => have hlt12 := (h_q0.Grants).len_lt; W.wk (yat (m := q0.Grants.length) hloop6 (fun (i5 : Nat) (s4 : List qG) fr w => ∃ I2 a_s4 c_s4 C_s4, fr = [(1, Pt kb1 0), (3, Sl a_s4 s4 c_s4), (7, Sl w_q0.Grants.a q0.Grants w_q0.Grants.c), (8, Nv q0.Grants.length), (9, Nv i5)] ∧ I.Le I2 ∧ St E w I2 ((C_s4) :: Os) ∧ OwnSl 50 5 R_qG I2 C_s4 a_s4 c_s4 s4) ⟨I, none, 0, Mem.no, rfl, lr, hS.no, OwnSl.nil⟩ ?_ ?_)))))))))))))
 rintro i5 s4 _ w9 hi13 ⟨I2, a_s4, c_s4, C_s4, rfl, L3, S10, h_s4⟩ x11 R1
 refine yf [0] (ya 0 1 z (yb (W.seq (yar fun _ => W.skip (ye (W.seq (yl (yf nL6 (ya 0 1 z ?_)))))))))
 obtain ⟨x14, R1, Hx14, _, rfl, Zx14⟩ := sx I2 h_q0.Grants R1
 refine yaa 50 5 Hx14 z (yau ((cs_qG x14)) Zx14 0 S10.rm z (yz S10 (cs_qG z_qG) 50 z fun b15 w18 S17 => ya 4 1 z (y7 S17 0 (cs_qG x14) fun w20 S19 => y0 nL4 (yj (rd_f (S19.rd (List.Mem.tail _ (List.Mem.tail _ hm1)))) z (ya 1 1 z ?_)))))
 obtain ⟨x21, R1, Hx21, _, rfl, Zx21⟩ := sx I2 h_q1 R1
 refine yaa 4 1 Hx21 z (yao Zx21 S19.rm z (yb (bsk R1 fun j22 R2 R1 => yav (J := (fun fr w => ∃ I24 a_j22 c_j22 C_j22, fr = [(1, Pt kb1 0), (3, Sl a_j22 j22 c_j22), (7, Sl w_q0.Grants.a q0.Grants w_q0.Grants.c), (8, Nv q0.Grants.length), (9, Nv i5)] ∧ I2.Le I24 ∧ St E w I24 ((C_j22) :: Os) ∧ OwnSl 50 5 R_qG I24 C_j22 a_j22 c_j22 j22)) ?_ ?_)))
 refine yy R2 (fun H R2 => ?_) (fun H R2 => ?_)
 refine yag nL5 (ya 0 1 z (yx ((cs_qG x14)) (S19.rf m0) z (yab (rel := R_qG) (xs := ([x14] : List qG)) S19 z kr z 50 5 [(cs_qG x14)] kr z ((Elr.cons z Elr.nil)) tv ?_)))
 intro a29 C27 w31 S30 ho28
 have S33 := S30.front2
 exact apk R2 fun x34 h0_x34 he_x34 R2 => yax 50 64 (cs_qG z_qG) S33 h_s4 ho28.sl (S33.rd m1) h0_x34 he_x34 z fun a35 c36 w37 C38 S39 ho40 => ya 4 1 z (yp (sj R2 ▸ yt ⟨I2, a35, c36, C38, rfl, lr, S39.front1.drop.front1.drop, ho40⟩))
 exact W.skip (sj R2 ▸ yt ⟨I2, a_s4, c_s4, C_s4, rfl, lr, S19.drop, h_s4⟩)
 rintro _ w46 ⟨I24, a_j22, c_j22, C_j22, rfl, L25, S47, h_j22⟩
 exact yk (ye (yag nL2 (yam i5 z (ya 1 1 z (yp (sj R1 ▸ yt ⟨I24, a_j22, c_j22, C_j22, rfl, le, S47, h_j22⟩))))))
 rintro _ w48 ⟨I2, a_s4, c_s4, C_s4, rfl, L3, S49, h_s4⟩
 exact yf [0] (ya 0 1 z (yb (W.seq (yas fun _ => W.exit (yn (yo (yr (ye (yf nL2 (ya 0 2 z (yb (yq (sj G ▸ yw ⟨I2, a_s4, c_s4, C_s4, rfl, L3, S49, h_s4⟩)))))))))))))
noncomputable def grants_Held (p0 : qC) : Option (List qG) := (mk 1 (p0.Grants.length : Int)).bind (fun n5 => (loopO (fun (s : Bool × (List Bool)) => match s with | (s21, s22) => (bif s21 then (grants_Held_1 p0 s22).bind (fun r38 => (forE (fun (i50 : Nat) (s : Bool × (List Bool)) => match s with | (s48, s49) => (idx p0.Grants (i50 : Int)).bind (fun x59 => (catalog_Find p0 x59.Table).bind (fun (r71, r72) => (member_Find p0.Roles x59.To).bind (fun (r84, r85) => (idx s49 (i50 : Int)).bind (fun x92 => ((bif (((!x92) && r72) && r85) then (grants_Owns p0 x59.By x59.Table).bind (fun r106 => ((bif r106 then some true else (grants_has p0 r38 x59.By x59.Priv x59.Table true).bind (fun r119 => some r119))).bind (fun (j107 : Bool) => some j107)) else some false)).bind (fun (j97 : Bool) => ((bif j97 then (idx s49 (i50 : Int)).bind (fun x134 => some (true, (s49.set ((i50 : Int)).toNat true))) else some (s48, s49))).bind (fun ((s141, s142) : Bool × (List Bool)) => some (s141, s142)))))))) p0.Grants.length 0 (false, s22)).bind (fun (s48, s49) => some (.inl (s48, s49)))) else some (.inr s22))) (true, (List.replicate n5 false))).bind (fun (s150 : List Bool) => (grants_Held_1 p0 s150).bind (fun r159 => some r159)))
theorem grants_Held_ok {p0 : qC} {w_p0 : W_qC} (h_p0 : ok_qC I p0 w_p0) (hS : St E w I Os) {r : (List qG)} (G : grants_Held p0 = some r) :
    Calls P 26 #[(vC p0 w_p0)] w (fun e w' => ∃ (I' : Mem) (ra0 : Option Addr) (rc0 : Nat), e = .returned (Sl ra0 r rc0) ∧ I.Le I' ∧ St E w' I' Os ∧ RSl 5 R_qG I' ra0 rc0 r) := by
 refine calls_W (fn := Tryz.f26) rfl rfl rfl ?_
 unfold grants_Held at G
 refine yf nL2 (yz hS (cs_qC p0 w_p0) 33 z fun b1 w4 S3 => y8 1 2 (.slice none 0 0) (y0 nL6 (yg 0 1 [3] z (yj (S3.rf m0) z (ya 2 1 z ?_)))))
 obtain ⟨n5, Xn5, G⟩ := bsm G
 obtain ⟨h0_n5, he_n5⟩ := mk_some Xn5
 refine WO.make (rel := RBool) S3 z kr z kr (T := 4) (sz := 1) (b := 1) (zs := #[(.bool false)]) kr z z n5 (congrArg (Value.int .i64) he_n5) (congrArg (Value.int .i64) he_n5) h0_n5 z (z0 := false) z tv ?_
 intro a6 w10 C7 S9 ho8
 refine yae 16 z (show Value.slice a6 n5 n5 = Value.slice a6 (List.replicate n5 false).length n5 by simp only [List.length_replicate]) ?_
 refine yz S9 [(.slice none 0 0)] 100 z fun b12 w15 S14 => y7 S14 0 [(.slice a6 (List.replicate n5 false).length n5)] fun w17 S16 => y0 nL2 (WO.vs 0 [(17, .func (.func 50) #[] #[(Pt b1 0), (Pt b12 0)]), (4, .func (.func 50) #[] #[(Pt b1 0), (Pt b12 0)])] (yb (W.seq (yf [0] (ya 0 1 z (yb (yl (bsk G fun t18 hloop23 G => W.wk (ya6 hloop23 (fun (s : Bool × (List Bool)) fr w => match s with | (s21, s22) => ∃ I19 C_s22, fr = [(1, Pt b1 0), (3, Pt b12 0), (4, .func (.func 50) #[] #[(Pt b1 0), (Pt b12 0)]), (5, .bool s21)] ∧ I.Le I19 ∧ St E w I19 (bC b1 p0 w_p0 :: (Bx b12 [(Sl a6 s22 n5)] 100) :: (C_s22) :: Os) ∧ OwnSl 4 1 RBool I19 C_s22 a6 n5 s22) ⟨I, C7, rfl, lr, S16.front1.front1.front2, ho8⟩ ?_)))))))))
 rintro ⟨s21, s22⟩ _ w27 ⟨I19, C_s22, rfl, L20, S28, h_s22⟩ x29 R1 hext18
 refine W.seq (yf [0] (ya 0 1 z (yb (yy R1 (fun H R1 => ?_) (fun H R1 => ?_)))))
 refine W.skip (ye (yl (yf [0] (ya 0 1 z (y0 nL3 (y8 0 19 (.func (.func 50) #[] #[(Pt b1 0), (Pt b12 0)]) (have S30 := S28.front2; have hp32 := (h_s22).publish S30; bsk R1 fun r38 Xr33 R1 => yai (grants_Held_1_ok (h_p0.mono (L20.trans (ybc I19 C_s22))) hp32 m0 m1 S30.publish Xr33) ?_)))))))
 rintro _ w34 ⟨I35, a_r38, c_r38, C_r38, rfl, L36, S37, h_r38⟩
 have S39 := ybt S30 L36 S37
 have ho40 := ybv h_r38 I19 (fun hq => hq)
 refine cv ?_
 obtain ⟨I41, L42, S44, hp43⟩ := yac ho40 S39
 refine ya 2 1 z (y0 nL4 (yg 0 1 [3] z (yj (S44.rf m1) z (ya 2 2 z (yb (yl ?_))))))
 obtain ⟨⟨s48, s49⟩, hloop51, R1⟩ := bsm R1
 have hlt57 := ((RSl.mono h_p0.Grants (L20.trans L42))).len_lt
 refine W.wk (yat (m := p0.Grants.length) hloop51 (fun (i50 : Nat) (s : Bool × (List Bool)) fr w => match s with | (s48, s49) => ∃ I46 C_s49, fr = [(1, Pt b1 0), (3, Pt b12 0), (4, .func (.func 50) #[] #[(Pt b1 0), (Pt b12 0)]), (5, .bool s48), (6, Sl a_r38 r38 c_r38), (22, Sl w_p0.Grants.a p0.Grants w_p0.Grants.c), (23, Nv p0.Grants.length), (24, Nv i50)] ∧ I41.Le I46 ∧ St E w I46 (bC b1 p0 w_p0 :: (Bx b12 [(Sl a6 s49 n5)] 100) :: (C_s49) :: Os) ∧ OwnSl 4 1 RBool I46 C_s49 a6 n5 s49) ⟨I41, C_s22, rfl, lr, S44.front2.front2, (OwnSl.mono h_s22 L42)⟩ ?_ ?_)
 rintro i50 ⟨s48, s49⟩ _ w54 hi58 ⟨I46, C_s49, rfl, L47, S55, h_s49⟩ x56 R2
 refine yf [0] (ya 0 1 z (yb (W.seq (yar fun _ => W.skip (ye (W.seq (yl (yf nL6 (ya 0 1 z ?_)))))))))
 obtain ⟨x59, R2, Hx59, _, rfl, Zx59⟩ := sx I46 h_p0.Grants R2
 refine yaa 50 5 Hx59 z (yau ((cs_qG x59)) Zx59 0 S55.rm z (yz S55 (cs_qG z_qG) 50 z fun b60 w63 S62 => ya 4 1 z (y7 S62 0 (cs_qG x59) fun w65 S64 => y0 nL10 (yx ((cs_qC p0 w_p0)) (S64.rf m1) z (yg 1 1 [2] z (yj (S64.rf m0) z ?_))))))
 obtain ⟨⟨r71, r72⟩, Xr66, R2⟩ := bsm R2
 refine yai (catalog_Find_ok (h_p0.mono le) S64 Xr66) ?_
 rintro _ w67 ⟨I68, w_r71, rfl, L69, S70, h_r71⟩
 refine cv (ya 4 3 z (yz S70 (cs_qT z_qT zw_qT) 104 z fun b73 w76 S75 => y7 S75 0 (cs_qT r71 w_r71) fun w78 S77 => ya 9 1 z (y0 nL11 (yg 0 1 [2] z (yj (S77.rf m2) z (yg 2 1 [0] z (yj (S77.rf m1) z ?_)))))))
 obtain ⟨⟨r84, r85⟩, Xr79, R2⟩ := bsm R2
 refine yai (member_Find_ok (up h_p0.Roles) S77 Xr79) ?_
 rintro _ w80 ⟨I81, w_r84, rfl, L82, S83, h_r84⟩
 refine cv (ya 5 3 z (yz S83 (cs_qJ z_qJ zw_qJ) 74 z fun b86 w89 S88 => y7 S88 0 (cs_qJ r84 w_r84) fun w91 S90 => ya 10 1 z (y0 nL30 (yj (S90.rf m4) z (ya 1 1 z ?_)))))
 obtain ⟨x92, R2, Hx92, _, rfl, Zx92⟩ := sl_ix ((h_s49.mono (L69.trans L82)).sl) R2
 refine yaa 4 1 Hx92 z (yao Zx92 (S90.rf m5) z (ya 4 2 z (yaq [6] 7 49 51 (.refl ((!x92) && r72)) (fun _ => ya 6 2 z yah) (ya 8 1 z (yaq [9] 10 52 54 (.refl (((!x92) && r72) && r85)) (fun _ => ya 9 2 z yah) (ya 11 1 z (bsk R2 fun j97 R3 R2 => yal (l1 := [12, 13, 14, 15, 16, 17, 18, 19, 20, 21, 22, 23, 24, 25, 26, 27, 28, 29]) (J := JI E I81 [(1, Pt b1 0), (3, Pt b12 0), (4, .func (.func 50) #[] #[(Pt b1 0), (Pt b12 0)]), (5, .bool s48), (6, Sl a_r38 r38 c_r38), (7, Nv i50), (22, Sl w_p0.Grants.a p0.Grants w_p0.Grants.c), (23, Nv p0.Grants.length), (24, Nv i50), (73, .bool j97)] (bC b1 p0 w_p0 :: (Bx b12 [(Sl a6 s49 n5)] 100) :: (C_s49) :: Os)) ?_ ?_)))))))
 refine yak R3 (fun H R3 => ?_) (fun H R3 => ?_)
 refine y6 55 H (yx ((cs_qC p0 w_p0)) (S90.rf m3) z (yg 13 1 [1] z (yj (S90.rf m2) z (yg 15 1 [2] z (yj (S90.rf m2) z (bsk R3 fun r106 Xr101 R3 => WO.c1 (grants_Owns_ok (h_p0.mono le) S90 Xr101) z fun I103 w102 L104 S105 => ya 18 1 z (bsk R3 fun j107 R4 R3 => yal (l1 := [19, 20, 21, 22, 23, 24, 25, 26, 27, 28]) (J := JI E I103 [(1, Pt b1 0), (3, Pt b12 0), (4, .func (.func 50) #[] #[(Pt b1 0), (Pt b12 0)]), (5, .bool s48), (6, Sl a_r38 r38 c_r38), (7, Nv i50), (22, Sl w_p0.Grants.a p0.Grants w_p0.Grants.c), (23, Nv p0.Grants.length), (24, Nv i50), (55, .bool true), (72, .bool j107)] (bC b1 p0 w_p0 :: (Bx b12 [(Sl a6 s49 n5)] 100) :: (C_s49) :: Os)) ?_ ?_)))))))
 refine yak R4 (fun H R4 => ?_) (fun H R4 => ?_)
 refine y6 62 H ?_
 iterate 9 refine yaj ?_
 exact ya 28 1 z (sj R4 ▸ y4 ⟨I103, rfl, lr, S105.d3⟩)
 exact y6 62 H (yx ((cs_qC p0 w_p0)) (S105.rf m3) z (yg 20 2 [1] z (yj (S105.rf m2) z (yg 23 1 [3] z (yj (S105.rf m2) z (yg 25 1 [2] z (yj (S105.rf m2) z (bsk R4 fun r119 Xr114 R4 => WO.c1 (grants_has_ok (h_p0.mono le) (up hp43) S105 Xr114) z fun I116 w115 L117 S118 => ya 28 1 z (sj R4 ▸ y4 ⟨I116, rfl, L117, S118.d3⟩)))))))))
 rintro _ w123 ⟨I109, rfl, L110, S124⟩
 exact ya 29 1 z (sj R3 ▸ y4 ⟨I109, rfl, le, S124⟩)
 refine y6 55 H ?_
 iterate 17 refine yaj ?_
 exact ya 29 1 z (sj R3 ▸ y4 ⟨I81, rfl, lr, S90.d3⟩)
 rintro _ w128 ⟨I99, rfl, L100, S129⟩
 refine yb (bsk R2 fun j130 R3 R2 => yav (J := (fun fr w => ∃ (s141 : Bool) (s142 : List Bool), ∃ I132 C_s142, (s141, s142) = j130 ∧ fr = [(1, Pt b1 0), (3, Pt b12 0), (4, .func (.func 50) #[] #[(Pt b1 0), (Pt b12 0)]), (5, .bool s141), (6, Sl a_r38 r38 c_r38), (22, Sl w_p0.Grants.a p0.Grants w_p0.Grants.c), (23, Nv p0.Grants.length), (24, Nv i50)] ∧ I99.Le I132 ∧ St E w I132 (bC b1 p0 w_p0 :: (Bx b12 [(Sl a6 s142 n5)] 100) :: (C_s142) :: Os) ∧ OwnSl 4 1 RBool I132 C_s142 a6 n5 s142)) ?_ ?_)
 refine yy R3 (fun H R3 => ?_) (fun H R3 => ?_)
 refine yf nL4 (yj (S129.rf m1) z (ya 1 1 z ?_))
 obtain ⟨x134, R3, h0_x134, h1_x134, Xx134, ha_x134, _, _, rfl, Zx134⟩ := sl_at ((h_s49.mono ((L69.trans L82).trans L100)).sl) R3
 refine ya5 4 1 ha_x134 h0_x134 h1_x134 ?_
 refine ya9 S129.front2 (OwnSl.mono h_s49 le) z kr z Xx134 (u' := true) 0 z z kr z z (fun cs hrel => (by obtain rfl := hrel; exact z)) tv ?_
 intro w137 C138 S136 ho139
 refine yae 74 z (show Value.slice a6 s49.length n5 = Value.slice a6 (s49.set ((i50 : Int)).toNat true).length n5 by simp only [List.length_set]) ?_
 have S140 : St E w137 I99 ((C138) :: (bC b1 p0 w_p0) :: (Bx b12 [(.slice a6 (s49.set ((i50 : Int)).toNat true).length n5)] 100) :: Os) := by have hq := S136; simp only [List.length_set] at hq ⊢; exact hq
 exact yb (yag [0] (ya 0 1 z (yp (yt ⟨true, (s49.set ((i50 : Int)).toNat true), I99, C138, sj R3, rfl, lr, S140.front2.front2, ho139⟩))))
 exact W.skip (yt ⟨s48, s49, I99, C_s49, sj R3, rfl, lr, S129, (OwnSl.mono h_s49 le)⟩)
 rintro _ w145 ⟨s141, s142, I132, C_s142, rfl, rfl, L133, S146, h_s142⟩
 exact yk (ye (yag nL2 (yam i50 z (ya 1 1 z (yp (sj R2 ▸ yt ⟨I132, C_s142, rfl, le, S146, h_s142⟩))))))
 rintro _ w147 ⟨I46, C_s49, rfl, L47, S148, h_s49⟩
 exact yf [0] (ya 0 1 z (yb (W.seq (yas fun _ => W.exit (yn (yo (yr (yk (yt ⟨(s48, s49), (sj R1).symm, I46, C_s49, rfl, le, S148, h_s49⟩)))))))))
 refine W.exit (yn (yo ?_))
 obtain rfl := hext18 _ (sj R1).symm
 refine yr (ye (yf nL3 (y8 0 78 (.func (.func 50) #[] #[(Pt b1 0), (Pt b12 0)]) (have S169 := S28.front2; have hp171 := (h_s22).publish S169; bsk G fun r177 Xr172 G => yai (grants_Held_1_ok (h_p0.mono (L20.trans (ybc I19 C_s22))) hp171 m0 m1 S169.publish Xr172) ?_))))
 rintro _ w173 ⟨I174, a_r177, c_r177, C_r177, rfl, L175, S176, h_r177⟩
 have S178 := ybt S169 L175 S176
 have ho179 := ybv h_r177 I19 (fun hq => hq)
 refine cv ?_
 obtain ⟨I180, L181, S183, hp182⟩ := yac ho179 S178
 exact ya 2 1 z (yb (yq (sj G ▸ yw ⟨I180, a_r177, c_r177, rfl, le, S183.d3, hp182⟩)))
noncomputable def grants_Trim (p0 : qC) : Option qC := (grants_Held p0).bind (fun r14 => some { p0 with Grants := r14 })
theorem grants_Trim_ok {p0 : qC} {w_p0 : W_qC} (h_p0 : ok_qC I p0 w_p0) (hS : St E w I Os) {r : qC} (G : grants_Trim p0 = some r) :
    Calls P 55 #[(vC p0 w_p0)] w (fun e w' => ∃ I' w_rw0, e = .returned (vC r w_rw0) ∧ I.Le I' ∧ St E w' I' Os ∧ ok_qC I' r w_rw0) := by
 refine calls_W (fn := Tryz.f55) rfl rfl rfl ?_
 unfold grants_Trim at G
 refine yf nL2 (yz hS (cs_qC p0 w_p0) 33 z fun b1 w4 S3 => yz S3 (cs_qC z_qC zw_qC) 33 z fun b5 w8 S7 => y0 nL4 (yx ((cs_qC p0 w_p0)) (S7.rf m1) z (bsk G fun r14 Xr9 G => yai (grants_Held_ok h_p0 S7 Xr9) ?_)))
 rintro _ w10 ⟨I11, a_r14, c_r14, rfl, L12, S13, h_r14⟩
 refine cv (yg 2 1 [3] z (y7 S13.front1 3 (cs_qC ({ p0 with Grants := r14 }) ({ w_p0 with Grants := ⟨a_r14, c_r14⟩ })) fun w17 S16 => y0 nL2 (yx ((cs_qC ({ p0 with Grants := r14 }) ({ w_p0 with Grants := ⟨a_r14, c_r14⟩ }))) (S16.rf m0) z (y7 S16.front1 0 (cs_qC ({ p0 with Grants := r14 }) ({ w_p0 with Grants := ⟨a_r14, c_r14⟩ })) fun w20 S19 => yb (yq ?_)))))
 have hk23 : ok_qC I11 ({ p0 with Grants := r14 }) ({ w_p0 with Grants := ⟨a_r14, c_r14⟩ }) := ⟨(RSl.mono h_p0.Tables L12), (RSl.mono h_p0.Roles L12), h_r14⟩
 exact sj G ▸ En.c1 _ (S19.rd m0) ⟨I11, ({ w_p0 with Grants := ⟨a_r14, c_r14⟩ }), rfl, L12, S19.d2, hk23⟩
noncomputable def grants_Make (p0 : qC) (p1 : qS) (p2 : By8) (p3 : Int) : Option (qC × Int) := (bif ((decide (p1.Kind < 10)) || (decide (p1.Kind > 15))) then some (z_qC, 2) else (member_Find p0.Roles p2).bind (fun (r25, r26) => (bif (!r26) then some (z_qC, 4) else ((((bif (p1.Kind == 10) then some (p1.Kind == 10) else ((bif (p1.Kind == 11) then some (p1.Kind == 11) else some (p1.Kind == 12))).bind (fun (j63 : Bool) => some j63))).bind (fun (j54 : Bool) => (bif j54 then some (.inl ()) else (bif (p1.Kind == 13) then some (.inl ()) else (bif (p1.Kind == 14) then some (.inr (.inl ())) else some (.inr (.inr ()))))))).bind (fun (t : Unit ⊕ Unit ⊕ Unit) => match t with | (.inl ()) => (member_Is p0.Roles p2 (⟨#[114, 111, 111, 116]⟩ : By8)).bind (fun r124 => (bif (!r124) then some (.inr (36, z_qC, p0)) else none)) | (.inr (.inl ())) => none | (.inr (.inr ())) => (grants_take p0 p1 p2).bind (fun (r88, r89) => some (.inl (r89, z_qC, { p0 with Grants := r88 }))))).bind (fun (t : (Int × qC × qC) ⊕ (Int × qC × qC)) => match t with | (.inl (s92, s93, s94)) => ((bif ((s92 == 0) && (decide (p0.Version ≥ p3))) then some 52 else some s92)).bind (fun (j145 : Int) => (bif (j145 != 0) then some (z_qC, j145) else (grants_Trim ({ s94 with Version := (w64 (p0.Version + 1)) })).bind (fun r166 => some (r166, 0)))) | (.inr (s129, s130, s131)) => some (s130, s129)))))
theorem grants_Make_ok {p0 : qC} {p1 : qS} {p2 : By8} {p3 : Int} {w_p0 : W_qC} {w_p1 : W_qS} (h_p0 : ok_qC I p0 w_p0) (h_p1 : ok_qS I p1 w_p1) (hS : St E w I Os) {r : qC × Int} (G : grants_Make p0 p1 p2 p3 = some r) :
    Calls P 28 #[(vC p0 w_p0), (vS p1 w_p1), (.string p2), (Iv p3)] w (fun e w' => ∃ I' w_rw0, e = .returned (.tuple #[(vC r.1 w_rw0), (Iv r.2)]) ∧ I.Le I' ∧ St E w' I' Os ∧ ok_qC I' r.1 w_rw0) := by
 refine calls_W (fn := Tryz.f28) rfl rfl rfl ?_
 unfold grants_Make at G
 refine yf nL4 (yz hS (cs_qC p0 w_p0) 33 z fun b1 w4 S3 => yz S3 (cs_qS p1 w_p1) 66 z fun b5 w8 S7 => yz S7 (cs_qC z_qC zw_qC) 33 z fun b9 w12 S11 => ya 3 1 z (yb (W.seq (yf nL8 (yg 0 1 [0] z (yj (S11.rf m1) z (ya 2 2 z (ya2 [4, 5, 6] 7 17 21 (.refl ((decide (p1.Kind < 10)) || (decide (p1.Kind > 15)))) (fun _ => yg 4 1 [0] z (yj (S11.rf m1) z (ya 6 2 z yah))) (yb (yy G (fun H G => ?_) (fun H G => ?_)))))))))))
 exact yf nL3 (y8 0 22 (vC z_qC zw_qC) (y7 S11 0 (cs_qC z_qC zw_qC) fun w16 S15 => ya 2 1 z (yb (yq (yh (sj G ▸ ya1 _ (S15.rd m0) ⟨I, zw_qC, rfl, lr, S15.d3, zok_qC⟩))))))
 refine W.skip (ye (W.seq (yf nL10 (yg 0 1 [2] z (yj (S11.rf m2) z (ya 2 1 z ?_))))))
 obtain ⟨⟨r25, r26⟩, Xr20, G⟩ := bsm G
 refine yai (member_Find_ok h_p0.Roles S11 Xr20) ?_
 rintro _ w21 ⟨I22, w_r25, rfl, L23, S24, h_r25⟩
 refine cv (ya 4 3 z (yz S24 (cs_qJ z_qJ zw_qJ) 74 z fun b27 w30 S29 => y7 S29 0 (cs_qJ r25 w_r25) fun w32 S31 => ya 9 1 z (y0 nL2 (ya 0 2 z (yb (yy G (fun H G => ?_) (fun H G => ?_)))))))
 exact yf nL3 (y8 0 32 (vC z_qC zw_qC) (y7 S31.front1 0 (cs_qC z_qC zw_qC) fun w35 S34 => ya 2 1 z (yb (yq (yh (sj G ▸ ya1 _ (S34.rd m0) ⟨I22, zw_qC, rfl, L23, S34.d4, zok_qC⟩))))))
 refine W.skip (ye (yf nL3 (yx ((cs_qC p0 w_p0)) (S31.rf m3) z (yz S31 (cs_qC z_qC zw_qC) 33 z fun b40 w43 S42 => y7 S42 0 (cs_qC p0 w_p0) fun w45 S44 => y0 [0] (ya 0 1 z (yb (W.seq (yf nL2 (yg 0 1 [0] z (yj (S44.rf m3) z (yb (bsk G fun j46 R1 G => yav (J := (fun fr w => ∃ (s92 : Int) (s93 : qC) (s94 : qC), ∃ I48 w_s93 w_s94, (.inl (s92, s93, s94)) = j46 ∧ fr = [(3, Iv p3), (4, Pt b1 0), (8, Pt b9 0), (12, Pt b40 0), (13, Iv s92)] ∧ I22.Le I48 ∧ St E w I48 (bC b1 p0 w_p0 :: (bC b9 s93 w_s93) :: (bC b40 s94 w_s94) :: Os) ∧ ok_qC I48 s93 w_s93 ∧ ok_qC I48 s94 w_s94)) ?_ ?_))))))))))))
 refine yl (W.seq (yl (W.seq (yl (W.seq (bsk R1 fun j50 R2 R1 => yav (J := (fun fr w => ∃ I52, (.inl ()) = j50 ∧ fr = [(2, .string p2), (3, Iv p3), (4, Pt b1 0), (5, Pt b5 0), (8, Pt b9 0), (12, Pt b40 0)] ∧ I22.Le I52 ∧ St E w I52 (bC b1 p0 w_p0 :: (bS b5 p1 w_p1) :: (bC b9 z_qC zw_qC) :: (bC b40 p0 w_p0) :: Os))) ?_ ?_))))))
 refine yl (yl (W.seq (W.seq (W.seq (yf nL2 (ya 0 2 z (yb (bsk R2 fun j54 R3 R2 => yav (J := JI E I22 [(2, .string p2), (3, Iv p3), (4, Pt b1 0), (5, Pt b5 0), (8, Pt b9 0), (12, Pt b40 0), (35, Iv p1.Kind), (36, .bool j54)] (bC b1 p0 w_p0 :: (bS b5 p1 w_p1) :: (bC b9 z_qC zw_qC) :: (bC b40 p0 w_p0) :: Os)) ?_ ?_))))))))
 refine yy R3 (fun H R3 => ?_) (fun H R3 => ?_)
 exact W.skip (sj R3 ▸ yt ⟨I22, rfl, lr, S44.front1.drop.front1.front2.front3⟩)
 refine yf nL2 (ya 0 2 z (yb (bsk R3 fun j63 R4 R3 => yav (J := JI E I22 [(2, .string p2), (3, Iv p3), (4, Pt b1 0), (5, Pt b5 0), (8, Pt b9 0), (12, Pt b40 0), (35, Iv p1.Kind), (36, .bool j63)] (bC b1 p0 w_p0 :: (bS b5 p1 w_p1) :: (bC b9 z_qC zw_qC) :: (bC b40 p0 w_p0) :: Os)) ?_ ?_)))
 refine yy R4 (fun H R4 => ?_) (fun H R4 => ?_)
 exact W.skip (sj R4 ▸ yt ⟨I22, rfl, lr, S44.front1.drop.front1.front2.front3⟩)
 exact yag nL2 (ya 0 2 z (yp (sj R4 ▸ yt ⟨I22, rfl, lr, S44.front1.drop.front1.front2.front3⟩)))
 rintro _ w77 ⟨I65, rfl, L66, S78⟩
 exact sj R3 ▸ yt ⟨I65, rfl, L66, S78⟩
 rintro _ w79 ⟨I56, rfl, L57, S80⟩
 refine ye (yy R2 (fun H R2 => ?_) (fun H R2 => ?_))
 exact W.exit (yn (yn (yr (yk (yt ⟨I56, sj R2, rfl, L57, S80⟩)))))
 refine W.skip (ye (W.seq (yf nL2 (ya 0 2 z (yb (yy R2 (fun H R2 => ?_) (fun H R2 => ?_)))))))
 refine W.exit (yn (yn (ybf z ?_)))
 exact yr (yt ⟨I56, sj R2, rfl, L57, S80⟩)
 refine W.skip (ye (yf nL2 (ya 0 2 z (yb (yy R2 (fun H R2 => ?_) (fun H R2 => ?_))))))
 refine W.exit (yn (ybf z ?_))
 refine ybf z ?_
 refine yo ?_
 obtain rfl := sj R2
 refine yn (yr (ye (yf nL10 (yx ((cs_qC p0 w_p0)) (S80.rf m0) z (yx ((cs_qS p1 w_p1)) (S80.rf m1) z (ya 2 1 z ?_))))))
 cases R1
 refine W.skip (ye (W.exit (ybf z ?_)))
 refine ybf z ?_
 refine yo ?_
 obtain rfl := sj R2
 refine yn (ybf z ?_)
 refine yn (yr (ye (yf nL10 (yx ((cs_qC p0 w_p0)) (S80.rf m0) z (yx ((cs_qS p1 w_p1)) (S80.rf m1) z (ya 2 1 z ?_))))))
 obtain ⟨⟨r107, r108⟩, Xr102, R1⟩ := bsm R1
 refine yai (grants_take_ok (h_p0.mono le) (h_p1.mono le) S80 Xr102) ?_
 rintro _ w103 ⟨I104, a_r107, c_r107, rfl, L105, S106, h_r107⟩
 refine cv (yg 4 4 [3] z (y7 S106.front3 3 (cs_qC ({ p0 with Grants := r107 }) ({ w_p0 with Grants := ⟨a_r107, c_r107⟩ })) fun w111 S110 => ya 9 1 z (yb (W.exit (yr ?_)))))
 have hk112 : ok_qC I104 ({ p0 with Grants := r107 }) ({ w_p0 with Grants := ⟨a_r107, c_r107⟩ }) := ⟨(RSl.mono h_p0.Tables ((L23.trans L57).trans L105)), (RSl.mono h_p0.Roles ((L23.trans L57).trans L105)), h_r107⟩
 exact yt ⟨r108, z_qC, { p0 with Grants := r107 }, I104, zw_qC, ({ w_p0 with Grants := ⟨a_r107, c_r107⟩ }), sj R1, rfl, le, S110.front2.drop.front2.front2, zok_qC, hk112⟩
 rintro _ w117 ⟨I52, rfl, rfl, L53, S118⟩
 refine ye (W.seq (W.seq (yf nL5 (yg 0 1 [2] z (yj (S118.rf m0) z (ya 2 1 z (bsk R1 fun r124 Xr119 R1 => WO.c1 (member_Is_ok (up h_p0.Roles) S118 Xr119) z fun I121 w120 L122 S123 => ya 4 1 z (yb (yy R1 (fun H R1 => ?_) (fun H R1 => ?_))))))))))
 refine yf nL3 (y8 0 49 (vC z_qC zw_qC) (y7 S123.front2 0 (cs_qC z_qC zw_qC) fun w127 S126 => ya 2 1 z (yb (yq (yh (yh (ym (yh (ym (yh (ym (yu ?_))))))))))))
 obtain rfl := sj R1
 exact yh (sj G ▸ ya1 _ (S126.rd m0) ⟨I121, zw_qC, rfl, le, S126.d4, zok_qC⟩)
 refine W.skip (ye (yag nL9 (yx ((cs_qC p0 w_p0)) (S123.rf m0) z (yx ((cs_qS p1 w_p1)) (S123.rf m1) z ?_))))
 cases R1
 rintro _ w141 ⟨s92, s93, s94, I48, w_s93, w_s94, rfl, rfl, L49, S142, h_s93, h_s94⟩
 refine ye (W.seq (yf nL8 (ya 0 3 z (yaq [3, 4, 5, 6] 7 75 80 (.refl ((s92 == 0) && (decide (p0.Version ≥ p3)))) (fun _ => yg 3 1 [0] z (yj (S142.rf m0) z (ya 5 3 z yah))) (yb (bsk G fun j145 R1 G => yav (J := JI E I48 [(4, Pt b1 0), (8, Pt b9 0), (12, Pt b40 0), (13, Iv j145)] (bC b1 p0 w_p0 :: (bC b9 s93 w_s93) :: (bC b40 s94 w_s94) :: Os)) ?_ ?_))))))
 refine yy R1 (fun H R1 => ?_) (fun H R1 => ?_)
 exact yag [0] (ya 0 1 z (yp (sj R1 ▸ yt ⟨I48, rfl, lr, S142⟩)))
 exact W.skip (sj R1 ▸ yt ⟨I48, rfl, lr, S142⟩)
 rintro _ w149 ⟨I147, rfl, L148, S150⟩
 refine ye (W.seq (yf nL2 (ya 0 2 z (yb (yy G (fun H G => ?_) (fun H G => ?_))))))
 exact yf nL4 (y8 0 83 (vC z_qC zw_qC) (ya 1 1 z (y7 S150.front1 0 (cs_qC z_qC zw_qC) fun w153 S152 => ya 3 1 z (yb (yq (yh (sj G ▸ ya1 _ (S152.rd m0) ⟨I147, zw_qC, rfl, le, S152.d3, zok_qC⟩)))))))
 refine W.skip (ye (yf nL5 (yg 0 1 [0] z (yj (S150.rf m0) z (yg 2 2 [0] z (y7 S150.front2 0 (cs_qC ({ s94 with Version := (w64 (p0.Version + 1)) }) w_s94) fun w159 S158 => y0 nL4 (yx ((cs_qC ({ s94 with Version := (w64 (p0.Version + 1)) }) w_s94)) (S158.rf m0) z ?_)))))))
 have hk160 : ok_qC I147 ({ s94 with Version := (w64 (p0.Version + 1)) }) w_s94 := ⟨(RSl.mono h_s94.Tables L148), (RSl.mono h_s94.Roles L148), (RSl.mono h_s94.Grants L148)⟩
 refine bsk G fun r166 Xr161 G => yai (grants_Trim_ok hk160 S158 Xr161) ?_
 rintro _ w162 ⟨I163, w_r166, rfl, L164, S165, h_r166⟩
 exact cv (y7 S165.front2 0 (cs_qC r166 w_r166) fun w169 S168 => ya 3 1 z (yb (yq (sj G ▸ ya1 _ (S168.rd m0) ⟨I163, w_r166, rfl, le, S168.d3, h_r166⟩))))
def law32_has (p0 : List qG) (p1 : qG) : Option Bool := (forN (fun (i8 : Nat) (_s : Unit) => (idx p0 (i8 : Int)).bind (fun x17 => (bif (sEq x17.To p1.To && (sEq x17.By p1.By && (sEq x17.Table p1.Table && ((x17.Priv == p1.Priv) && (x17.Option == p1.Option))))) then some (.inr true) else some (.inl ())))) p0.length 0 ()).bind (fun (t : Unit ⊕ (Bool)) => match t with | .inl _ => some false | .inr s19 => some s19)
theorem law32_has_ok {p0 : List qG} {p1 : qG} {a_p0 : Option Addr} {c_p0 : Nat} (h_p0 : RSl 5 R_qG I a_p0 c_p0 p0) (hS : St E w I Os) {r : Bool} (G : law32_has p0 p1 = some r) :
    Calls P 27 #[(Sl a_p0 p0 c_p0), (vG p1)] w (RT E I Os (.bool r)) := by
 refine calls_W (fn := Tryz.f27) rfl rfl rfl ?_
 unfold law32_has at G
 refine yf nL2 (yz hS (cs_qG p1) 50 z fun b1 w4 S3 => ya 1 1 z (yb (W.seq (yf [0] (ya 0 1 z (yb (yl (bsk G fun t5 hloop9 G => have hlt13 := (h_p0).len_lt; W.wk (yap (m := p0.length) hloop9 (fun (i8 : Nat) (_s : Unit) => JI E I [(0, Sl a_p0 p0 c_p0), (3, Pt b1 0), (5, Nv i8)] (bG b1 p1 :: Os)) ⟨I, rfl, lr, S3⟩ ?_ ?_)))))))))
 rintro i8 _ _ w10 hi14 ⟨I6, rfl, L7, S11⟩ x12 R1 hext5
 refine W.seq (yf nL4 (ya 0 4 z (yb (yar fun _ => W.skip (ye (W.seq (yl (W.seq (have S15 := S11.drew; yba nL6 5 (yv (S15.rd m0) (yad S15.im)) ?_)))))))))
 generalize World.drew _ = w16 at *
 refine ya 0 2 z ?_
 obtain ⟨x17, R1, Hx17, _, rfl, Zx17⟩ := sx I6 h_p0 R1
 refine yaa 50 5 Hx17 z (yau ((cs_qG x17)) Zx17 0 (rd_i S15.im) z (yx ((cs_qG p1)) (rd_c m0 (S15.rd m0)) z (WO.tail z (ybn z kr z z kr 50 z (b := (sEq x17.To p1.To && (sEq x17.By p1.By && (sEq x17.Table p1.Table && ((x17.Priv == p1.Priv) && ((x17.Option == p1.Option) && true)))))) kr (sEq x17.To p1.To && (sEq x17.By p1.By && (sEq x17.Table p1.Table && ((x17.Priv == p1.Priv) && (x17.Option == p1.Option))))) (.inl ⟨rfl, by simp only [Bool.and_true]⟩) ?_))))
 refine yb (yy R1 (fun H R1 => ?_) (fun H R1 => ?_))
 refine yf [0] (ya 0 1 z (yb (yq (ym (yh (yu ?_))))))
 obtain rfl := hext5 _ (sj R1).symm
 exact ym (yh (sj G ▸ yw ⟨I6, rfl, L7, S15.drop⟩))
 exact W.skip (yk (ye (yag nL3 (ya 0 1 z (yam i8 z (ya 2 1 z (yp (yt ⟨(), (sj R1).symm, I6, rfl, L7, S15⟩))))))))
 rintro _ _ w22 ⟨I6, rfl, L7, S23⟩ he
 cases he
 exact W.seq (yf nL4 (ya 0 4 z (yb (yas fun _ => W.exit (yn (yo (yr (ye (yf [0] (ya 0 1 z (yb (yq (sj G ▸ yw ⟨I6, rfl, L7, S23.drop⟩)))))))))))))
def r19_Same (p0 : List qG) (p1 : List qG) : Option Bool := (bif ((p0.length : Int) != (p1.length : Int)) then some false else (forN (fun (i4 : Nat) (_s : Unit) => (idx p0 (i4 : Int)).bind (fun x13 => (idx p1 (i4 : Int)).bind (fun x14 => (bif (!(sEq x13.To x14.To && (sEq x13.By x14.By && (sEq x13.Table x14.Table && ((x13.Priv == x14.Priv) && (x13.Option == x14.Option)))))) then some (.inr false) else some (.inl ()))))) p0.length 0 ()).bind (fun (t : Unit ⊕ (Bool)) => match t with | .inl _ => some true | .inr s16 => some s16))
theorem r19_Same_ok {p0 : List qG} {p1 : List qG} {a_p0 : Option Addr} {c_p0 : Nat} {a_p1 : Option Addr} {c_p1 : Nat} (h_p0 : RSl 5 R_qG I a_p0 c_p0 p0) (h_p1 : RSl 5 R_qG I a_p1 c_p1 p1) (hS : St E w I Os) {r : Bool} (G : r19_Same p0 p1 = some r) :
    Calls P 17 #[(Sl a_p0 p0 c_p0), (Sl a_p1 p1 c_p1)] w (RT E I Os (.bool r)) := by
 refine calls_W (fn := Tryz.f17) rfl rfl rfl ?_
 unfold r19_Same at G
 refine yf [0] (ya 0 1 z (yb (W.seq (yf nL5 (ya 0 5 z (yb (yy G (fun H G => ?_) (fun H G => ?_))))))))
 exact yf [0] (ya 0 1 z (yb (yq (yh (sj G ▸ yw ⟨I, rfl, lr, hS⟩)))))
 refine W.skip (ye (W.seq (yf [0] (ya 0 1 z (yb (yl (bsk G fun t1 hloop5 G => have hlt9 := (h_p0).len_lt; W.wk (yap (m := p0.length) hloop5 (fun (i4 : Nat) (_s : Unit) => JI E I [(0, Sl a_p0 p0 c_p0), (1, Sl a_p1 p1 c_p1), (5, Nv i4)] Os) ⟨I, rfl, lr, hS⟩ ?_ ?_))))))))
 rintro i4 _ _ w6 hi10 ⟨I2, rfl, L3, S7⟩ x8 R1 hext1
 refine W.seq (yf nL4 (ya 0 4 z (yb (yar fun _ => W.skip (ye (W.seq (yl (W.seq (have S11 := S7.drew; yba nL9 8 (yad S11.im) ?_)))))))))
 generalize World.drew _ = w12 at *
 refine ya 0 2 z ?_
 obtain ⟨x13, R1, Hx13, _, rfl, Zx13⟩ := sx I2 h_p0 R1
 refine yaa 50 5 Hx13 z (yau ((cs_qG x13)) Zx13 0 (rd_i S11.im) z (ya 4 2 z ?_))
 obtain ⟨x14, R1, Hx14, _, rfl, Zx14⟩ := sx I2 h_p1 R1
 refine yaa 50 5 Hx14 z (yau ((cs_qG x14)) Zx14 0 (rd_i S11.im) z (WO.tail z (ybn z kr z z kr 50 z (b := (sEq x13.To x14.To && (sEq x13.By x14.By && (sEq x13.Table x14.Table && ((x13.Priv == x14.Priv) && ((x13.Option == x14.Option) && true)))))) kr (!(sEq x13.To x14.To && (sEq x13.By x14.By && (sEq x13.Table x14.Table && ((x13.Priv == x14.Priv) && (x13.Option == x14.Option)))))) (.inr ⟨rfl, by simp only [Bool.and_true]⟩) ?_)))
 refine yb (yy R1 (fun H R1 => ?_) (fun H R1 => ?_))
 refine yf [0] (ya 0 1 z (yb (yq (ym (yh (yu ?_))))))
 obtain rfl := hext1 _ (sj R1).symm
 exact ym (yh (sj G ▸ yw ⟨I2, rfl, L3, S11⟩))
 exact W.skip (yk (ye (yag nL3 (ya 0 1 z (yam i4 z (ya 2 1 z (yp (yt ⟨(), (sj R1).symm, I2, rfl, L3, S11⟩))))))))
 rintro _ _ w17 ⟨I2, rfl, L3, S18⟩ he
 cases he
 exact W.seq (yf nL4 (ya 0 4 z (yb (yas fun _ => W.exit (yn (yo (yr (ye (yf [0] (ya 0 1 z (yb (yq (sj G ▸ yw ⟨I2, rfl, L3, S18⟩)))))))))))))
noncomputable def law32_WhyGone (p0 : List law19_Act) (p1 : law32_Asked) (p2 : Int) : Option Bool := (law19_Few p0).bind (fun r10 => ((bif (!r10) then some true else (law32_few ([p1.Role, p1.Table] : List By8)).bind (fun r29 => some (!r29)))).bind (fun (j11 : Bool) => (bif j11 then (law32_works).bind (fun r39 => some r39) else (law19_Grown p0).bind (fun r46 => (why_Why r46 p1.Role p1.Priv p1.Table).bind (fun (r58, r59) => (bif ((r46.Grants.length : Int) == 0) then (law32_works).bind (fun r65 => some r65) else (tmodO (w64 p2) (r46.Grants.length : Int)).bind (fun (y70 : Int) => (idx r46.Grants y70).bind (fun x71 => (grants_Make r46 ({ z_qS with Kind := 15, Table := x71.Table, Role := x71.To, Priv := x71.Priv }) x71.By 2000).bind (fun (r84, r85) => (bif (r85 != 0) then (r18_At r46.Roles x71.By).bind (fun r97 => ((bif (decide (r97 < 0)) then (law32_works).bind (fun r107 => some r107) else some false)).bind (fun (j98 : Bool) => some j98)) else (why_Why r84 p1.Role p1.Priv p1.Table).bind (fun (r123, r124) => ((bif r124 then (some ((!r59) || (decide ((r123.length : Int) < (r58.length : Int))))).bind (fun (q129 : Bool) => ((bif q129 then some true else (law32_has r123 x71).bind (fun r146 => some r146))).bind (fun (j132 : Bool) => some j132)) else some false)).bind (fun (j125 : Bool) => (bif j125 then some false else ((bif r59 then (law32_has r58 x71).bind (fun r171 => some (!r171)) else some false)).bind (fun (j162 : Bool) => (bif j162 then ((bif r124 then (r19_Same r58 r123).bind (fun r185 => some r185) else some false)).bind (fun (j176 : Bool) => ((bif j176 then (law32_works).bind (fun r197 => some r197) else some false)).bind (fun (j188 : Bool) => some j188)) else (law32_works).bind (fun r205 => some r205))))))))))))))))
theorem law32_WhyGone_ok {p0 : List law19_Act} {p1 : law32_Asked} {p2 : Int} {a_p0 : Option Addr} {c_p0 : Nat} (h_p0 : RSl 22 R_law19_Act I a_p0 c_p0 p0) (hS : St E w I Os) {r : Bool} (G : law32_WhyGone p0 p1 p2 = some r) :
    Calls P 7 #[(Sl a_p0 p0 c_p0), (.agg (cs_law32_Asked p1).toArray), (.int .u8 p2)] w (RT E I Os (.bool r)) := by
 refine calls_W (fn := Tryz.f7) rfl rfl rfl ?_
 unfold law32_WhyGone at G
 refine yf nL2 (yz hS (cs_law32_Asked p1) 25 z fun b1 w4 S3 => ya 1 1 z (yb (W.seq (yf nL12 (ya 0 1 z (bsk G fun r10 Xr5 G => WO.c1 (law19_Few_ok h_p0 S3 Xr5) z fun I7 w6 L8 S9 => ya 2 2 z (bsk G fun j11 R1 G => yal (l1 := [4, 5, 6, 7, 8, 9, 10, 11]) (J := JI E I7 [(0, Sl a_p0 p0 c_p0), (2, .int .u8 p2), (4, Pt b1 0), (26, .bool j11)] ((Bx b1 (cs_law32_Asked p1) 25) :: Os)) ?_ ?_)))))))
 refine yak R1 (fun H R1 => ?_) (fun H R1 => ?_)
 refine y6 18 H ?_
 iterate 7 refine yaj ?_
 exact ya 11 1 z (sj R1 ▸ y4 ⟨I7, rfl, lr, S9⟩)
 refine y6 18 H (yg 4 1 [0] z (yj (S9.rf m0) z (yg 6 1 [1] z (yj (S9.rf m0) z (yab (rel := RStr) (xs := ([p1.Role, p1.Table] : List By8)) S9 z kr z 9 1 [[(.string p1.Role)], [(.string p1.Table)]] kr z ((Elr.cons z (Elr.cons z Elr.nil))) tv ?_)))))
 intro a18 C16 w20 S19 ho17
 have hp23 := (ho17).publish S19
 refine bsk R1 fun r29 Xr24 R1 => yai (law32_few_ok hp23 S19.publish Xr24) ?_
 rintro _ w25 ⟨I26, rfl, L27, S28⟩
 have S30 := St.back S19 L27 S28
 exact cv (ya 10 2 z (sj R1 ▸ y4 ⟨I7, rfl, lr, S30.drop⟩))
 rintro _ w32 ⟨I13, rfl, L14, S33⟩
 refine yb (yy G (fun H G => ?_) (fun H G => ?_))
 exact yf nL2 (bsk G fun r39 Xr34 G => WO.c1 (law32_works_ok  S33 Xr34) z fun I36 w35 L37 S38 => ya 1 1 z (yb (yq (yh (sj G ▸ yw ⟨I36, rfl, le, S38.drop⟩)))))
 refine W.skip (ye (yf nL4 (ya 0 1 z (bsk G fun r46 Xr41 G => yai (law19_Grown_ok (up h_p0) S33 Xr41) ?_))))
 rintro _ w42 ⟨I43, w_r46, rfl, L44, S45, h_r46⟩
 refine cv (yz S45 (cs_qC z_qC zw_qC) 33 z fun b47 w50 S49 => y7 S49 0 (cs_qC r46 w_r46) fun w52 S51 => y0 nL13 (yx ((cs_qC r46 w_r46)) (S51.rf m0) z (yg 1 1 [0] z (yj (S51.rf m1) z (yg 3 1 [2] z (yj (S51.rf m1) z (yg 5 1 [1] z (yj (S51.rf m1) z ?_))))))))
 obtain ⟨⟨r58, r59⟩, Xr53, G⟩ := bsm G
 refine yai (why_Why_ok h_r46 S51 Xr53) ?_
 rintro _ w54 ⟨I55, a_r58, c_r58, rfl, L56, S57, h_r58⟩
 refine cv (ya 8 5 z (yb (W.seq (yf nL4 (yg 0 1 [3] z (yj (S57.rf m0) z (ya 2 2 z (yb (yy G (fun H G => ?_) (fun H G => ?_))))))))))
 exact yf nL2 (bsk G fun r65 Xr60 G => WO.c1 (law32_works_ok  S57 Xr60) z fun I62 w61 L63 S64 => ya 1 1 z (yb (yq (yh (sj G ▸ yw ⟨I62, rfl, le, S64.d2⟩)))))
 refine W.skip (ye (W.seq (have S68 := S57.drew; yba nL12 11 (yv (S68.rd m0) (yad S68.im)) ?_)))
 generalize World.drew _ = w69 at *
 refine yg 0 1 [3] z (yj (rd_c m0 (S68.rd m0)) z (ya 2 1 z (y8 3 49 (Iv (w64 p2)) (yg 4 1 [3] z (yj (rd_c m0 (S68.rd m0)) z (ya 6 1 z (bsk G fun y70 Xy70 G => WO.rem Xy70 ?_)))))))
 obtain ⟨x71, G, Hx71, _, rfl, Zx71⟩ := sx I55 h_r46.Grants G
 refine yaa 50 5 Hx71 z (yau ((cs_qG x71)) Zx71 0 (rd_i S68.im) z (ybj S68 z kr z (.cells (cs_qG z_qG).toArray 50 (0, 0)) (fun b => .pointer (some ⟨b, 0, none⟩)) kr (fun b72 w75 S74 => (yv (S74.rd m1) (yad S74.im))) ?_))
 intro b72 w75 S74
 refine WO.tail z (y7 S74 0 (cs_qG x71) fun w77 S76 => y0 nL17 (yx ((cs_qC r46 w_r46)) (S76.rf m1) z (yg 1 1 [2] z (yj (S76.rf m0) z (yg 3 1 [0] z (yj (S76.rf m0) z (yg 5 1 [3] z (yj (S76.rf m0) z (y8 7 64 (.agg (cs_qS ({ z_qS with Kind := 15, Table := x71.Table, Role := x71.To, Priv := x71.Priv }) zw_qS).toArray) (yg 8 1 [1] z (yj (S76.rf m0) z ?_)))))))))))
 have hk78 : ok_qS I55 ({ z_qS with Kind := 15, Table := x71.Table, Role := x71.To, Priv := x71.Priv }) zw_qS := ⟨SlAt.nil, SlAt.nil, SlAt.nil, SlAt.nil, zok_qS.Where, SlAt.nil, SlAt.nil, SlAt.nil⟩
 obtain ⟨⟨r84, r85⟩, Xr79, G⟩ := bsm G
 refine yai (grants_Make_ok (h_r46.mono L56) hk78 S76 Xr79) ?_
 rintro _ w80 ⟨I81, w_r84, rfl, L82, S83, h_r84⟩
 refine cv (ya 11 3 z (yz S83 (cs_qC z_qC zw_qC) 33 z fun b86 w89 S88 => y7 S88 0 (cs_qC r84 w_r84) fun w91 S90 => ya 16 1 z (yb (W.seq (yf nL2 (ya 0 2 z (yb (yy G (fun H G => ?_) (fun H G => ?_)))))))))
 refine yf nL10 (yg 0 1 [2] z (yj (S90.rf m2) z (yg 2 1 [1] z (yj (S90.rf m1) z (bsk G fun r97 Xr92 G => WO.c1 (r18_At_ok (up h_r46.Roles) S90 Xr92) z fun I94 w93 L95 S96 => ya 5 2 z (bsk G fun j98 R1 G => yal (l1 := [7, 8]) (J := JI E I94 [(80, .bool j98)] Os) ?_ ?_))))))
 refine yak R1 (fun H R1 => ?_) (fun H R1 => ?_)
 exact y6 78 H (bsk R1 fun r107 Xr102 R1 => WO.c1 (law32_works_ok  S96 Xr102) z fun I104 w103 L105 S106 => ya 8 1 z (sj R1 ▸ y4 ⟨I104, rfl, L105, S106.d4⟩))
 refine y6 78 H (yaj ?_)
 exact ya 8 1 z (sj R1 ▸ y4 ⟨I94, rfl, lr, S96.d4⟩)
 rintro _ w116 ⟨I100, rfl, L101, S117⟩
 exact ya 9 1 z (yb (yq (yh (sj G ▸ yw ⟨I100, rfl, le, S117⟩))))
 refine W.skip (ye (yf nL13 (yx ((cs_qC r84 w_r84)) (S90.rf m0) z (yg 1 1 [0] z (yj (S90.rf m3) z (yg 3 1 [2] z (yj (S90.rf m3) z (yg 5 1 [1] z (yj (S90.rf m3) z ?_)))))))))
 obtain ⟨⟨r123, r124⟩, Xr118, G⟩ := bsm G
 refine yai (why_Why_ok h_r84 S90 Xr118) ?_
 rintro _ w119 ⟨I120, a_r123, c_r123, rfl, L121, S122, h_r123⟩
 refine cv (ya 8 5 z (yb (W.seq (yf nL17 (ya 0 2 z (bsk G fun j125 R1 G => yal (l1 := [2, 3, 4, 5, 6, 7, 8, 9, 10, 11, 12, 13, 14, 15, 16]) (J := JI E I120 [(8, Sl a_r58 r58 c_r58), (9, .bool r59), (10, Pt b72 0), (13, Sl a_r123 r123 c_r123), (14, .bool r124), (108, .bool j125)] (bG b72 x71 :: Os)) ?_ ?_))))))
 refine yak R1 (fun H R1 => ?_) (fun H R1 => ?_)
 refine y6 93 H (ya 2 3 z (bsq R1 fun q129 Xq129 R1 => ya2 [5, 6, 7, 8, 9] 10 96 102 Xq129 (fun _ => ya 5 6 z yah) (ya 11 1 z (bsk R1 fun j132 R2 R1 => yal (l1 := [12, 13, 14, 15]) (J := JI E I120 [(8, Sl a_r58 r58 c_r58), (9, .bool r59), (10, Pt b72 0), (13, Sl a_r123 r123 c_r123), (14, .bool r124), (93, .bool true), (107, .bool j132)] (bG b72 x71 :: Os)) ?_ ?_))))
 refine yak R2 (fun H R2 => ?_) (fun H R2 => ?_)
 refine y6 103 H ?_
 iterate 3 refine yaj ?_
 exact ya 15 1 z (sj R2 ▸ y4 ⟨I120, rfl, lr, S122.drop.front1.drop.front1.drop⟩)
 exact y6 103 H (ya 12 1 z (yx ((cs_qG x71)) (S122.rf m1) z (bsk R2 fun r146 Xr141 R2 => WO.c1 (law32_has_ok h_r123 S122 Xr141) z fun I143 w142 L144 S145 => ya 15 1 z (sj R2 ▸ y4 ⟨I143, rfl, L144, S145.drop.front1.drop.front1.drop⟩))))
 rintro _ w152 ⟨I134, rfl, L135, S153⟩
 exact ya 16 1 z (sj R1 ▸ y4 ⟨I134, rfl, L135, S153⟩)
 refine y6 93 H ?_
 iterate 14 refine yaj ?_
 exact ya 16 1 z (sj R1 ▸ y4 ⟨I120, rfl, lr, S122.drop.front1.drop.front1.drop⟩)
 rintro _ w159 ⟨I127, rfl, L128, S160⟩
 refine yb (yy G (fun H G => ?_) (fun H G => ?_))
 exact yf [0] (ya 0 1 z (yb (yq (yh (sj G ▸ yw ⟨I127, rfl, le, S160.drop⟩)))))
 refine W.skip (ye (W.seq (yf nL7 (ya 0 2 z (bsk G fun j162 R1 G => yal (l1 := [2, 3, 4, 5, 6]) (J := JI E I127 [(8, Sl a_r58 r58 c_r58), (13, Sl a_r123 r123 c_r123), (14, .bool r124), (115, .bool j162)] Os) ?_ ?_)))))
 refine yak R1 (fun H R1 => ?_) (fun H R1 => ?_)
 exact y6 110 H (ya 2 1 z (yx ((cs_qG x71)) (S160.rf m0) z (bsk R1 fun r171 Xr166 R1 => WO.c1 (law32_has_ok (up h_r58) S160 Xr166) z fun I168 w167 L169 S170 => ya 5 2 z (sj R1 ▸ y4 ⟨I168, rfl, L169, S170.drop⟩))))
 refine y6 110 H ?_
 iterate 4 refine yaj ?_
 exact ya 6 1 z (sj R1 ▸ y4 ⟨I127, rfl, lr, S160.drop⟩)
 rintro _ w174 ⟨I164, rfl, L165, S175⟩
 refine yb (yy G (fun H G => ?_) (fun H G => ?_))
 refine yf nL10 (ya 0 2 z (bsk G fun j176 R1 G => yal (l1 := [2, 3, 4, 5]) (J := JI E I164 [(121, .bool j176)] Os) ?_ ?_))
 refine yak R1 (fun H R1 => ?_) (fun H R1 => ?_)
 exact y6 117 H (ya 2 2 z (bsk R1 fun r185 Xr180 R1 => WO.c1 (r19_Same_ok (up h_r58) (up h_r123) S175 Xr180) z fun I182 w181 L183 S184 => ya 5 1 z (sj R1 ▸ y4 ⟨I182, rfl, L183, S184⟩)))
 refine y6 117 H ?_
 iterate 3 refine yaj ?_
 exact ya 5 1 z (sj R1 ▸ y4 ⟨I164, rfl, lr, S175⟩)
 rintro _ w186 ⟨I178, rfl, L179, S187⟩
 refine ya 6 1 z (bsk G fun j188 R1 G => yal (l1 := [7, 8]) (J := JI E I178 [(124, .bool j188)] Os) ?_ ?_)
 refine yak R1 (fun H R1 => ?_) (fun H R1 => ?_)
 exact y6 122 H (bsk R1 fun r197 Xr192 R1 => WO.c1 (law32_works_ok  S187 Xr192) z fun I194 w193 L195 S196 => ya 8 1 z (sj R1 ▸ y4 ⟨I194, rfl, L195, S196⟩))
 refine y6 122 H (yaj ?_)
 exact ya 8 1 z (sj R1 ▸ y4 ⟨I178, rfl, lr, S187⟩)
 rintro _ w198 ⟨I190, rfl, L191, S199⟩
 exact ya 9 1 z (yb (yq (yh (sj G ▸ yw ⟨I190, rfl, le, S199⟩))))
 exact W.skip (ye (yf nL2 (bsk G fun r205 Xr200 G => WO.c1 (law32_works_ok  S175 Xr200) z fun I202 w201 L203 S204 => ya 1 1 z (yb (yq (sj G ▸ yw ⟨I202, rfl, le, S204⟩))))))
end Go.Proofs.YtlfphpegelclpaaGreat
