/- What functions of the program come to, each by a plain one. Conditions: none. -/
import Derived.Test.YtlfphpegelclpaaGreatF3
import Derived.Test.YtlfphpegelclpaaGreatProg
set_option maxRecDepth 100000
namespace Go.Proofs.YtlfphpegelclpaaGreat
open Go.Gv
set_option maxHeartbeats 1000000
variable {E w : World} {I : Mem} {Os : List Mem}
noncomputable def member_AllM (p0 : List qJ) (p1 : By8) : M (List By8) := bindM (optM (member_at p0 p1)) (fun (r6 : Int) => (bif (decide (r6 < 0)) then retM ([] : List By8) else bindM (loopM (fun (s : Bool × (List (By8 × Bool))) => match s with | (s18, s19) => (bif s18 then bindM (rangeM (fun (k71 : By8) (x72 : Bool) (s33 : List By8) => (member_Find p0 k71).bind (fun ((r91, r92) : qJ × Bool) => (forE (fun (i103 : Nat) (s102 : List By8) => (idx r91.In (i103 : Int)).bind (fun (x114 : By8) => (some ((mget sEq s19 x114).getD false)).bind (fun (x115 : Bool) => ((bif (!x115) then (member_at p0 x114).bind (fun (r125 : Int) => some (decide (r125 ≥ 0))) else some false)).bind (fun (j116 : Bool) => ((bif j116 then (app 16 s102 ([x114] : List By8)).bind (fun (x140 : List By8) => some x140) else some s102)).bind (fun (j128 : List By8) => some j128))))) r91.In.length 0 s33).bind (fun (s102 : (List By8)) => some (.inl s102)))) s19 ([] : List By8)) (fun (t : (List By8) ⊕ Unit) => Sum.elim (fun (s33 : List By8) => bindM (optM (forE (fun (i53 : Nat) (s52 : List (By8 × Bool)) => (idx s33 (i53 : Int)).bind (fun (x61 : By8) => some (mset sEq s52 x61 true))) s33.length 0 s19)) (fun (s52 : List (By8 × Bool)) => retM (.inl ((decide ((s33.length : Int) > 0)), s52)))) (fun _ _ => False) t) else retM (.inr s19))) (true, (mset sEq ([] : List (By8 × Bool)) p1 true))) (fun (s156 : List (By8 × Bool)) => bindM (optM (keysO s156)) (fun (r163 : List By8) => retM r163))))
noncomputable def member_All (p0 : List qJ) (p1 : By8) : Option (List By8) := ofM (member_AllM p0 p1)
theorem member_All_ok {p0 : List qJ} {p1 : By8} {a_p0 : Option Addr} {c_p0 : Nat} (h_p0 : RSl 2 R_qJ I a_p0 c_p0 p0) (hS : St E w I Os) {r : (List By8)} (G : member_All p0 p1 = some r) :
    Calls P 47 #[(.slice a_p0 p0.length c_p0), (.string p1)] w (fun e w' => ∃ (I' : Mem) (ra0 : Option Addr) (rc0 : Nat), e = .returned (.slice ra0 r.length rc0) ∧ I.Le I' ∧ St E w' I' Os ∧ RSl 1 RStr I' ra0 rc0 r) := by
  refine calls_W (args := [(.slice a_p0 p0.length c_p0), (.string p1)]) (fn := Tryz.f47) rfl rfl rfl ?_
  replace G := ofM_some (m := member_AllM p0 p1) G
  unfold member_AllM at G
  refine W.seq ?_
  refine W.region (l := [0]) kr ?_
  refine yap [(0, 4, (.slice none 0 0))] kr (fun _ => by kernel_rfl) ?_
  refine yq ?_
  refine yc ?_
  refine W.seq ?_
  refine W.seq ?_
  refine W.region (l := [0, 1, 2, 3]) kr ?_
  refine yap [(0, 15, (.slice a_p0 p0.length c_p0)), (1, 16, (.string p1))] kr (fun _ => by kernel_rfl) ?_
  obtain ⟨r6, Xr1, G⟩ := optM_some G
  refine ybg z kr z (f := 63) (args := #[(.slice a_p0 p0.length c_p0), (.string p1)]) kr (member_at_ok h_p0 hS Xr1) ?_
  rintro _ w2 ⟨I3, rfl, L4, S5⟩
  refine ⟨_, rfl, trivial, ?_⟩
  refine yap [(3, 18, (.bool (decide (r6 < 0))))] kr (fun _ => by kernel_rfl) ?_
  refine yq ?_
  refine yc ?_
  refine W.cond (b := (decide (r6 < 0))) z z (fun H => ?_) (fun H => ?_)
  · replace G := condM_t H G
    refine W.seq ?_
    refine W.region (l := [0]) kr ?_
    refine yap [(0, 4, (.slice none 0 0))] kr (fun _ => by kernel_rfl) ?_
    refine yq ?_
    refine yc ?_
    refine yr ?_
    refine yg ?_
    have he : ([] : List By8) = r := G
    subst r
    exact En.ret1 z (.slice none 0 0) z ⟨I3, none, 0, rfl, L4, S5, SlAt.nil⟩
  · replace G := condM_f H G
    refine yk ?_
    refine yc ?_
    refine W.seq ?_
    refine W.region (l := [0, 1, 2, 3, 4]) kr ?_
    refine ybj S5 z kr z (.map #[] 0) (fun b => .map (some b)) kr tv ?_
    intro b7 w10 S9
    refine yap [(1, 20, (.string p1))] kr (fun _ => by kernel_rfl) ?_
    refine WO.update (OwnMap.nil (enc := Value.string) (val := (val1 RBool)) (I := I3) (m := b7)) S9 (t := 125) (kt := 9) (et := 4) kr (keyLaw_str (kt := 9) kr) z kr z (.inr z) z p1 z z (xv := true) z tv ?_
    intro w13 C11 S12 hm14
    refine yap [(3, 21, (.map (some b7))), (4, 5, (.map (some b7)))] kr (fun _ => by kernel_rfl) ?_
    refine yq ?_
    refine yc ?_
    refine W.seq ?_
    refine W.seq ?_
    refine W.region (l := [0]) kr ?_
    refine yap [(0, 6, (.bool true))] kr (fun _ => by kernel_rfl) ?_
    refine yq ?_
    refine yc ?_
    refine yn ?_
    have hloop20 : Gv.loopM _ _ _ := G
    refine W.weaken (fr' := [(0, (.slice a_p0 p0.length c_p0)), (5, (.map (some b7))), (6, (.bool true))]) (W.loopM hloop20 (fun (s : Bool × (List (By8 × Bool))) fr w => match s with | (s18, s19) => ∃ (I16 : Mem), ∃ (C_s19 : Mem), fr = [(0, (.slice a_p0 p0.length c_p0)), (5, (.map (some b7))), (6, (.bool s18))] ∧ I3.Le I16 ∧ St E w I16 ((C_s19) :: Os) ∧ OwnMap Value.string (val1 RBool) I16 C_s19 b7 s19) ⟨I3, C11, rfl, Mem.Le.refl _, S12, hm14⟩ ?_) (Sub.cons z (Sub.cons z (Sub.cons z Sub.nil)))
    rintro ⟨s18, s19⟩ _ w21 ⟨I16, C_s19, rfl, L17, S22, h_s19⟩ Kx23 R1
    refine W.seq ?_
    refine W.seq ?_
    refine W.region (l := [0]) kr ?_
    refine yap [(0, 22, (.bool s18))] kr (fun _ => by kernel_rfl) ?_
    refine yq ?_
    refine yc ?_
    refine W.cond (b := s18) z z (fun H => ?_) (fun H => ?_)
    · replace R1 := condM_t H R1
      refine yk ?_
      refine yc ?_
      refine yn ?_
      refine W.seq ?_
      refine W.region (l := [0]) kr ?_
      refine yap [(0, 7, (.slice none 0 0))] kr (fun _ => by kernel_rfl) ?_
      refine yq ?_
      refine yc ?_
      refine W.seq ?_
      refine W.seq ?_
      refine W.region (l := [0, 1]) kr ?_
      refine yap [(0, 23, (.map (some b7)))] kr (fun _ => by kernel_rfl) ?_
      refine WO.rangeMap h_s19 S22 (t := 125) (kt := 9) (et := 4) kr z kr z z tv ?_
      intro b24 w25 D26 S27 hit28
      refine yq ?_
      refine yc ?_
      refine yn ?_
      have hloop38 : Gv.rangeM _ _ _ _ := R1
      have S40 := S27.no
      have S41 := S40.front1
      have S42 := S41.front2
      refine W.weaken (fr' := [(0, (.slice a_p0 p0.length c_p0)), (5, (.map (some b7))), (7, (.slice none ([] : List By8).length 0)), (24, (.pointer (some ⟨b24, 0, none⟩)))]) (W.rangeM hloop38 (fun (rm34 : List (By8 × Bool)) (s33 : List By8) fr w => ∃ (I31 : Mem), ∃ (a_s33 : Option Addr), ∃ (c_s33 : Nat), ∃ (C_s33 : Mem), ∃ (D35 : Mem), ∃ (lst37 : Option (Value × Value)), fr = [(0, (.slice a_p0 p0.length c_p0)), (5, (.map (some b7))), (7, (.slice a_s33 s33.length c_s33)), (24, (.pointer (some ⟨b24, 0, none⟩)))] ∧ I16.Le I31 ∧ St E w I31 ((C_s19) :: (D35) :: (C_s33) :: Os) ∧ OwnSl 9 1 RStr I31 C_s33 a_s33 c_s33 s33 ∧ IterSt Value.string (val1 RBool) I31 C_s19 b7 s19 D35 b24 rm34 lst37) ⟨I16, none, 0, Mem.no, D26, _, rfl, Mem.Le.refl _, S42, OwnSl.nil, hit28⟩ ?_) (Sub.cons z (Sub.cons z (Sub.cons z (Sub.cons z Sub.nil))))
      rintro rm34 s33 _ w43 ⟨I31, a_s33, c_s33, C_s33, D35, lst37, rfl, L32, S44, h_s33, hit36⟩ hst45 hend46
      refine W.seq ?_
      refine W.region (l := [0, 1]) kr ?_
      have S47 := S44.front1
      refine WO.next hit36 S47 z kr z z tv (fun he48 => ?_) ?_
      · skip
        replace R1 := hend46 he48
        refine yap [(1, 26, (.bool false))] kr (fun _ => by kernel_rfl) ?_
        refine yq ?_
        refine yc ?_
        refine W.seq ?_
        refine W.cond (b := false) z z (fun H => ?_) (fun H => ?_)
        · cases H
        clear H
        refine y8 ?_
        refine yo ?_
        refine yp ?_
        refine yt ?_
        refine yc ?_
        refine W.seq ?_
        refine W.region (l := [0, 1, 2, 3]) kr ?_
        refine yap [(0, 57, (.slice a_s33 s33.length c_s33)), (1, 58, (.int .i64 (s33.length : Int))), (2, 59, (.bool (decide ((s33.length : Int) > 0)))), (3, 6, (.bool (decide ((s33.length : Int) > 0))))] kr (fun _ => by kernel_rfl) ?_
        refine yq ?_
        refine yc ?_
        refine W.seq ?_
        refine W.region (l := [0, 1, 2]) kr ?_
        refine yap [(0, 60, (.slice a_s33 s33.length c_s33)), (1, 61, (.int .i64 (s33.length : Int))), (2, 62, (.int .i64 0))] kr (fun _ => by kernel_rfl) ?_
        refine yq ?_
        refine yc ?_
        refine yn ?_
        obtain ⟨s52, hloop54, R1⟩ := optM_some R1
        have S55 := S47.drop
        have hlt59 := (h_s33.sl).len_lt
        refine W.weaken (fr' := [(0, (.slice a_p0 p0.length c_p0)), (5, (.map (some b7))), (6, (.bool (decide ((s33.length : Int) > 0)))), (60, (.slice a_s33 s33.length c_s33)), (61, (.int .i64 (s33.length : Int))), (62, (.int .i64 ((0 : Nat) : Int)))]) (yau (m := s33.length) hloop54 (fun (i53 : Nat) (s52 : List (By8 × Bool)) fr w => ∃ (I50 : Mem), ∃ (C_s52 : Mem), fr = [(0, (.slice a_p0 p0.length c_p0)), (5, (.map (some b7))), (6, (.bool (decide ((s33.length : Int) > 0)))), (60, (.slice a_s33 s33.length c_s33)), (61, (.int .i64 (s33.length : Int))), (62, (.int .i64 (i53 : Int)))] ∧ I31.Le I50 ∧ St E w I50 ((C_s52) :: (C_s33) :: Os) ∧ OwnMap Value.string (val1 RBool) I50 C_s52 b7 s52) ⟨I31, C_s19, rfl, Mem.Le.refl _, S55, (OwnMap.mono h_s19 L32)⟩ ?roundt49 ?lastt49) (Sub.cons z (Sub.cons z (Sub.cons z (Sub.cons z (Sub.cons z (Sub.cons z Sub.nil))))))
        case roundt49 =>
          rintro i53 s52 _ w56 hi60 ⟨I50, C_s52, rfl, L51, S57, h_s52⟩ x58 R2
          refine W.seq ?_
          refine W.region (l := [0]) kr ?_
          refine yap [(0, 63, (.bool (decide ((i53 : Int) < (s33.length : Int)))))] kr (fun _ => by kernel_rfl) ?_
          refine yq ?_
          refine yc ?_
          refine W.seq ?_
          refine W.cond (b := (decide ((i53 : Int) < (s33.length : Int)))) z z (fun H => ?_) (fun H => ?_)
          rotate_left
          · exact absurd H (by first | (simp; done) | (simp; omega))
          clear H
          refine yk ?_
          refine yc ?_
          refine W.seq ?_
          refine yn ?_
          refine W.seq ?_
          refine W.region (l := [0, 1, 2]) kr ?_
          obtain ⟨x61, Xx61, R2⟩ := bind_some R2
          obtain ⟨h0_x61, h1_x61, Xx61⟩ := idx_some Xx61
          obtain ⟨ha_x61, cs_x61, hn_x61, hr_x61, Zx61⟩ := ((h_s33.mono L51).sl).el _ _ Xx61
          obtain rfl := hr_x61
          refine ybe (e := 9) (sz := 1) z kr kr kr z ha_x61 z h0_x61 h1_x61 ?_
          refine ybh z kr kr z (v := (.string x61)) (fun w' hw' => Zx61.cell0 kr ((rd_f (S57.rd (List.Mem.tail _ (List.Mem.head _)))) w' hw')) ?_
          refine yap [(2, 14, (.string x61))] kr (fun _ => by kernel_rfl) ?_
          refine yq ?_
          refine yc ?_
          refine W.region (l := [0, 1, 2]) kr ?_
          refine yap [(0, 66, (.map (some b7))), (1, 67, (.string x61))] kr (fun _ => by kernel_rfl) ?_
          refine WO.update h_s52 S57 (t := 125) (kt := 9) (et := 4) kr (keyLaw_str (kt := 9) kr) z kr z (.inl z) z x61 z z (xv := true) z tv ?_
          intro w65 C62 S63 hm66
          refine yq ?_
          refine yl ?_
          refine yc ?_
          refine W.region (l := [0, 1]) kr ?_
          refine WO.incr (j := i53) z kr z (by first | omega | (dsimp only at *; omega)) ?_
          refine yap [(1, 62, (.int .i64 ((i53 + 1 : Nat) : Int)))] kr (fun _ => by kernel_rfl) ?_
          refine yq ?_
          have he := Option.some.inj R2
          subst x58
          refine En.weaken (fr' := [(0, (.slice a_p0 p0.length c_p0)), (5, (.map (some b7))), (6, (.bool (decide ((s33.length : Int) > 0)))), (60, (.slice a_s33 s33.length c_s33)), (61, (.int .i64 (s33.length : Int))), (62, (.int .i64 ((i53 + 1 : Nat) : Int)))]) (En.round ⟨I50, C62, rfl, L51, S63, hm66⟩) (Sub.cons z (Sub.cons z (Sub.cons z (Sub.cons z (Sub.cons z (Sub.cons z Sub.nil))))))
        case lastt49 =>
          rintro _ w67 ⟨I50, C_s52, rfl, L51, S68, h_s52⟩
          refine W.seq ?_
          refine W.region (l := [0]) kr ?_
          refine yap [(0, 63, (.bool (decide ((s33.length : Int) < (s33.length : Int)))))] kr (fun _ => by kernel_rfl) ?_
          refine yq ?_
          refine yc ?_
          refine W.seq ?_
          refine W.cond (b := (decide ((s33.length : Int) < (s33.length : Int)))) z z (fun H => ?_) (fun H => ?_)
          · exact absurd H (by first | (simp; done) | (simp; omega))
          clear H
          refine y8 ?_
          refine yo ?_
          refine yp ?_
          refine yt ?_
          refine yl ?_
          have S69 := S68.front1
          have S70 := S69.drop
          refine En.weaken (fr' := [(0, (.slice a_p0 p0.length c_p0)), (5, (.map (some b7))), (6, (.bool (decide ((s33.length : Int) > 0))))]) (En.round ⟨((decide ((s33.length : Int) > 0)), s52), R1, I50, C_s52, rfl, ((L17.trans L32).trans L51), S70, h_s52⟩) (Sub.cons z (Sub.cons z (Sub.cons z Sub.nil)))
      · skip
        intro k71 x72 rm73 v74 w75 D76 hp77 hv78 S79 hit80
        obtain ⟨y81, hy82, hex83⟩ := hst45 k71 x72 rm73 hp77
        have R2 := hy82
        obtain rfl := (List.cons.inj hv78).1
        refine yap [(1, 26, (.bool true))] kr (fun _ => by kernel_rfl) ?_
        refine yq ?_
        refine yc ?_
        refine W.seq ?_
        refine W.cond (b := true) z z (fun H => ?_) (fun H => ?_)
        rotate_left
        · cases H
        clear H
        refine yk ?_
        refine yc ?_
        refine yn ?_
        refine W.seq ?_
        refine W.region (l := [0, 1, 2]) kr ?_
        have S84 := S79.front1
        have S85 := S84.front1
        refine WO.entry hit80 S85 z kr z z trivial ?_
        refine yap [(1, 28, (.string k71)), (2, 8, (.string k71))] kr (fun _ => by kernel_rfl) ?_
        refine yq ?_
        refine yc ?_
        refine W.seq ?_
        refine W.region (l := [0, 1, 2, 3, 4, 5, 6, 7, 8]) kr ?_
        refine yap [(0, 30, (.slice a_p0 p0.length c_p0)), (1, 31, (.string k71))] kr (fun _ => by kernel_rfl) ?_
        obtain ⟨⟨r91, r92⟩, Xr86, R2⟩ := bind_some R2
        refine ybg z kr z (f := 43) (args := #[(.slice a_p0 p0.length c_p0), (.string k71)]) kr (member_Find_ok (RSl.mono h_p0 ((L4.trans L17).trans L32)) S85 Xr86) ?_
        rintro _ w87 ⟨I88, w_r91, rfl, L89, S90, h_r91⟩
        refine ⟨_, rfl, trivial, ?_⟩
        refine yap [(3, 29, (.tuple #[(vJ r91 w_r91), (.bool r92)])), (4, 33, (vJ r91 w_r91)), (5, 34, (.bool r92))] kr (fun _ => by kernel_rfl) ?_
        refine ybj S90 z kr z (.cells (cs_qJ z_qJ zw_qJ).toArray 74 (0, 0)) (fun b => .pointer (some ⟨b, 0, none⟩)) kr tv ?_
        intro b93 w96 S95
        refine ybl S95 z kr z 0 z z kr kr kr ((cs_qJ r91 w_r91).toArray) kr tv ?_
        intro w98 S97
        refine yap [(8, 10, (.bool r92))] kr (fun _ => by kernel_rfl) ?_
        refine yq ?_
        refine yc ?_
        refine W.seq ?_
        refine W.region (l := [0, 1, 2, 3]) kr ?_
        refine yap [(0, 35, (.pointer (some ⟨b93, 1, none⟩)))] kr (fun _ => by kernel_rfl) ?_
        refine ybh z kr kr z (v := (.slice w_r91.In.a r91.In.length w_r91.In.c)) (fun w' hw' => cell_one ((rd_f (S97.rd (List.Mem.head _))) w' hw') kr) ?_
        refine yap [(2, 37, (.int .i64 (r91.In.length : Int))), (3, 38, (.int .i64 0))] kr (fun _ => by kernel_rfl) ?_
        refine yq ?_
        refine yc ?_
        refine yn ?_
        obtain ⟨s102, hloop104, R2⟩ := bind_some R2
        have S105 := S97.drop
        have S106 := S105.front2
        have S107 := S106.front1
        have S108 := S107.front2
        have hlt112 := (h_r91.In).len_lt
        refine W.weaken (fr' := [(0, (.slice a_p0 p0.length c_p0)), (5, (.map (some b7))), (7, (.slice a_s33 s33.length c_s33)), (24, (.pointer (some ⟨b24, 0, none⟩))), (36, (.slice w_r91.In.a r91.In.length w_r91.In.c)), (37, (.int .i64 (r91.In.length : Int))), (38, (.int .i64 ((0 : Nat) : Int)))]) (yau (m := r91.In.length) hloop104 (fun (i103 : Nat) (s102 : List By8) fr w => ∃ (I100 : Mem), ∃ (a_s102 : Option Addr), ∃ (c_s102 : Nat), ∃ (C_s102 : Mem), fr = [(0, (.slice a_p0 p0.length c_p0)), (5, (.map (some b7))), (7, (.slice a_s102 s102.length c_s102)), (24, (.pointer (some ⟨b24, 0, none⟩))), (36, (.slice w_r91.In.a r91.In.length w_r91.In.c)), (37, (.int .i64 (r91.In.length : Int))), (38, (.int .i64 (i103 : Int)))] ∧ I88.Le I100 ∧ St E w I100 ((C_s19) :: (D76) :: (C_s102) :: Os) ∧ OwnSl 9 1 RStr I100 C_s102 a_s102 c_s102 s102) ⟨I88, a_s33, c_s33, C_s33, rfl, Mem.Le.refl _, S108, (OwnSl.mono h_s33 L89)⟩ ?roundt99 ?lastt99) (Sub.cons z (Sub.cons z (Sub.cons z (Sub.cons z (Sub.cons z (Sub.cons z (Sub.cons z Sub.nil)))))))
        case roundt99 =>
          rintro i103 s102 _ w109 hi113 ⟨I100, a_s102, c_s102, C_s102, rfl, L101, S110, h_s102⟩ x111 R3
          refine W.seq ?_
          refine W.region (l := [0]) kr ?_
          refine yap [(0, 39, (.bool (decide ((i103 : Int) < (r91.In.length : Int)))))] kr (fun _ => by kernel_rfl) ?_
          refine yq ?_
          refine yc ?_
          refine W.seq ?_
          refine W.cond (b := (decide ((i103 : Int) < (r91.In.length : Int)))) z z (fun H => ?_) (fun H => ?_)
          rotate_left
          · exact absurd H (by first | (simp; done) | (simp; omega))
          clear H
          refine yk ?_
          refine yc ?_
          refine W.seq ?_
          refine yn ?_
          refine W.seq ?_
          refine W.region (l := [0, 1, 2]) kr ?_
          obtain ⟨x114, Xx114, R3⟩ := bind_some R3
          obtain ⟨h0_x114, h1_x114, Xx114⟩ := idx_some Xx114
          obtain ⟨ha_x114, cs_x114, hn_x114, hr_x114, Zx114⟩ := ((RSl.mono h_r91.In L101)).el _ _ Xx114
          obtain rfl := hr_x114
          refine ybe (e := 9) (sz := 1) z kr kr kr z ha_x114 z h0_x114 h1_x114 ?_
          refine ybh z kr kr z (v := (.string x114)) (fun w' hw' => Zx114.cell0 kr ((rd_f S110.im) w' hw')) ?_
          refine yap [(2, 12, (.string x114))] kr (fun _ => by kernel_rfl) ?_
          refine yq ?_
          refine yc ?_
          refine W.seq ?_
          refine W.region (l := [0, 1, 2, 3, 4, 5, 6, 7, 8, 9]) kr ?_
          refine yap [(0, 42, (.map (some b7))), (1, 43, (.string x114))] kr (fun _ => by kernel_rfl) ?_
          obtain ⟨x115, Xx115, R3⟩ := bind_some R3
          obtain ⟨v_x115, hv_x115, hq_x115⟩ := OwnMap.lookup (OwnMap.mono h_s19 ((L32.trans L89).trans L101)) (t := 125) (kt := 9) (et := 4) kr (keyLaw_str (kt := 9) kr) x114 (zv := (.bool false)) (z0 := false) kr rfl
          rw [Option.some.inj Xx115] at hv_x115
          obtain rfl := (List.cons.inj hv_x115).1
          refine WO.lookup z kr z z hq_x115 ((rd_f (S110.rd (List.Mem.head _)))) (.bool x115) z ?_
          refine yap [(3, 45, (.bool (!x115))), (4, 46, (.bool (!x115)))] kr (fun _ => by kernel_rfl) ?_
          obtain ⟨j116, R4, R3⟩ := bind_some R3
          refine WO.join (l1 := [5, 6, 7, 8, 9]) (l2 := []) (J := (fun fr w => ∃ (I118 : Mem), fr = [(0, (.slice a_p0 p0.length c_p0)), (5, (.map (some b7))), (7, (.slice a_s102 s102.length c_s102)), (12, (.string x114)), (24, (.pointer (some ⟨b24, 0, none⟩))), (36, (.slice w_r91.In.a r91.In.length w_r91.In.c)), (37, (.int .i64 (r91.In.length : Int))), (38, (.int .i64 (i103 : Int))), (51, (.bool j116))] ∧ I100.Le I118 ∧ St E w I118 ((C_s19) :: (D76) :: (C_s102) :: Os))) ?restj116 ?waysj116
          case waysj116 =>
            refine WO.caseb (!x115) (fun H => ?_) (fun H => ?_)
            · replace R4 := cond_t H R4
              refine yaf 46 z (show Value.bool (!x115) = Value.bool true by rw [H]) ?_
              refine yap [(5, 47, (.slice a_p0 p0.length c_p0)), (6, 48, (.string x114))] kr (fun _ => by kernel_rfl) ?_
              obtain ⟨r125, Xr120, R4⟩ := bind_some R4
              refine ybg z kr z (f := 63) (args := #[(.slice a_p0 p0.length c_p0), (.string x114)]) kr (member_at_ok (RSl.mono h_p0 ((((L4.trans L17).trans L32).trans L89).trans L101)) S110 Xr120) ?_
              rintro _ w121 ⟨I122, rfl, L123, S124⟩
              refine ⟨_, rfl, trivial, ?_⟩
              refine yap [(8, 50, (.bool (decide (r125 ≥ 0)))), (9, 51, (.bool (decide (r125 ≥ 0))))] kr (fun _ => by kernel_rfl) ?_
              have he := Option.some.inj R4
              subst j116
              refine WO.weaken (fr' := [(0, (.slice a_p0 p0.length c_p0)), (5, (.map (some b7))), (7, (.slice a_s102 s102.length c_s102)), (12, (.string x114)), (24, (.pointer (some ⟨b24, 0, none⟩))), (36, (.slice w_r91.In.a r91.In.length w_r91.In.c)), (37, (.int .i64 (r91.In.length : Int))), (38, (.int .i64 (i103 : Int))), (51, (.bool (decide (r125 ≥ 0))))]) (WO.meet ⟨I122, rfl, L123, S124⟩) (Sub.cons z (Sub.cons z (Sub.cons z (Sub.cons z (Sub.cons z (Sub.cons z (Sub.cons z (Sub.cons z (Sub.cons z Sub.nil)))))))))
            · replace R4 := cond_f H R4
              refine yaf 46 z (show Value.bool (!x115) = Value.bool false by rw [H]) ?_
              refine ybo z kr z ?_
              refine ybo z kr z ?_
              refine ybo z kr z ?_
              refine ybo z kr z ?_
              refine yap [(9, 51, (.bool false))] kr (fun _ => by kernel_rfl) ?_
              have he := Option.some.inj R4
              subst j116
              refine WO.weaken (fr' := [(0, (.slice a_p0 p0.length c_p0)), (5, (.map (some b7))), (7, (.slice a_s102 s102.length c_s102)), (12, (.string x114)), (24, (.pointer (some ⟨b24, 0, none⟩))), (36, (.slice w_r91.In.a r91.In.length w_r91.In.c)), (37, (.int .i64 (r91.In.length : Int))), (38, (.int .i64 (i103 : Int))), (51, (.bool false))]) (WO.meet ⟨I100, rfl, Mem.Le.refl _, S110⟩) (Sub.cons z (Sub.cons z (Sub.cons z (Sub.cons z (Sub.cons z (Sub.cons z (Sub.cons z (Sub.cons z (Sub.cons z Sub.nil)))))))))
          case restj116 =>
            rintro _ w126 ⟨I118, rfl, L119, S127⟩
            refine yq ?_
            refine yc ?_
            obtain ⟨j128, R4, R3⟩ := bind_some R3
            refine W.join (J := (fun fr w => ∃ (I130 : Mem), ∃ (a_j128 : Option Addr), ∃ (c_j128 : Nat), ∃ (C_j128 : Mem), fr = [(0, (.slice a_p0 p0.length c_p0)), (5, (.map (some b7))), (7, (.slice a_j128 j128.length c_j128)), (24, (.pointer (some ⟨b24, 0, none⟩))), (36, (.slice w_r91.In.a r91.In.length w_r91.In.c)), (37, (.int .i64 (r91.In.length : Int))), (38, (.int .i64 (i103 : Int)))] ∧ I118.Le I130 ∧ St E w I130 ((C_s19) :: (D76) :: (C_j128) :: Os) ∧ OwnSl 9 1 RStr I130 C_j128 a_j128 c_j128 j128)) ?restj128 ?waysj128
            case waysj128 =>
              refine W.cond (b := j116) z z (fun H => ?_) (fun H => ?_)
              · replace R4 := cond_t H R4
                refine W.region (l := [0, 1, 2, 3, 4]) kr ?_
                refine yap [(0, 52, (.slice a_s102 s102.length c_s102)), (1, 53, (.string x114))] kr (fun _ => by kernel_rfl) ?_
                refine yac (rel := RStr) (xs := ([x114] : List By8)) S127 z kr z 9 1 [[(.string x114)]] kr z ((Elr.cons z Elr.nil)) tv ?_
                intro a135 C133 w137 S136 ho134
                have S139 := S136.front3
                obtain ⟨x140, Xx140, R4⟩ := bind_some R4
                obtain ⟨h0_x140, he_x140⟩ := app_some Xx140
                refine ya7 (e' := 9) (b := 16) (zs := #[(.string eB)]) S139 (OwnSl.mono h_s102 L119) z kr z kr kr kr z z z z ho134.sl (S139.rd (List.Mem.tail _ (List.Mem.head _))) h0_x140 he_x140 tv ?_
                intro a141 c142 w143 C144 S145 ho146
                have S147 := S145.front1
                have S148 := S147.drop
                refine yap [(4, 7, (.slice a141 x140.length c142))] kr (fun _ => by kernel_rfl) ?_
                refine yq ?_
                have S149 := S148.front2
                have S150 := S149.front2
                have he := Option.some.inj R4
                subst j128
                refine En.weaken (fr' := [(0, (.slice a_p0 p0.length c_p0)), (5, (.map (some b7))), (7, (.slice a141 x140.length c142)), (24, (.pointer (some ⟨b24, 0, none⟩))), (36, (.slice w_r91.In.a r91.In.length w_r91.In.c)), (37, (.int .i64 (r91.In.length : Int))), (38, (.int .i64 (i103 : Int)))]) (En.round ⟨I118, a141, c142, C144, rfl, Mem.Le.refl _, S150, ho146⟩) (Sub.cons z (Sub.cons z (Sub.cons z (Sub.cons z (Sub.cons z (Sub.cons z (Sub.cons z Sub.nil)))))))
              · replace R4 := cond_f H R4
                refine yk ?_
                have he := Option.some.inj R4
                subst j128
                refine En.weaken (fr' := [(0, (.slice a_p0 p0.length c_p0)), (5, (.map (some b7))), (7, (.slice a_s102 s102.length c_s102)), (24, (.pointer (some ⟨b24, 0, none⟩))), (36, (.slice w_r91.In.a r91.In.length w_r91.In.c)), (37, (.int .i64 (r91.In.length : Int))), (38, (.int .i64 (i103 : Int)))]) (En.round ⟨I118, a_s102, c_s102, C_s102, rfl, Mem.Le.refl _, S127, (OwnSl.mono h_s102 L119)⟩) (Sub.cons z (Sub.cons z (Sub.cons z (Sub.cons z (Sub.cons z (Sub.cons z (Sub.cons z Sub.nil)))))))
            case restj128 =>
              rintro _ w151 ⟨I130, a_j128, c_j128, C_j128, rfl, L131, S152, h_j128⟩
              refine yl ?_
              refine yc ?_
              refine W.region (l := [0, 1]) kr ?_
              refine WO.incr (j := i103) z kr z (by first | omega | (dsimp only at *; omega)) ?_
              refine yap [(1, 38, (.int .i64 ((i103 + 1 : Nat) : Int)))] kr (fun _ => by kernel_rfl) ?_
              refine yq ?_
              have he := Option.some.inj R3
              subst x111
              refine En.weaken (fr' := [(0, (.slice a_p0 p0.length c_p0)), (5, (.map (some b7))), (7, (.slice a_j128 j128.length c_j128)), (24, (.pointer (some ⟨b24, 0, none⟩))), (36, (.slice w_r91.In.a r91.In.length w_r91.In.c)), (37, (.int .i64 (r91.In.length : Int))), (38, (.int .i64 ((i103 + 1 : Nat) : Int)))]) (En.round ⟨I130, a_j128, c_j128, C_j128, rfl, ((L101.trans L119).trans L131), S152, h_j128⟩) (Sub.cons z (Sub.cons z (Sub.cons z (Sub.cons z (Sub.cons z (Sub.cons z (Sub.cons z Sub.nil)))))))
        case lastt99 =>
          rintro _ w153 ⟨I100, a_s102, c_s102, C_s102, rfl, L101, S154, h_s102⟩
          refine W.seq ?_
          refine W.region (l := [0]) kr ?_
          refine yap [(0, 39, (.bool (decide ((r91.In.length : Int) < (r91.In.length : Int)))))] kr (fun _ => by kernel_rfl) ?_
          refine yq ?_
          refine yc ?_
          refine W.seq ?_
          refine W.cond (b := (decide ((r91.In.length : Int) < (r91.In.length : Int)))) z z (fun H => ?_) (fun H => ?_)
          · exact absurd H (by first | (simp; done) | (simp; omega))
          clear H
          refine y8 ?_
          refine yo ?_
          refine yp ?_
          refine yt ?_
          refine yl ?_
          refine En.weaken (fr' := [(0, (.slice a_p0 p0.length c_p0)), (5, (.map (some b7))), (7, (.slice a_s102 s102.length c_s102)), (24, (.pointer (some ⟨b24, 0, none⟩)))]) (En.round ⟨k71, x72, rm73, s102, hp77, hy82.trans (congrArg some (Option.some.inj R2).symm), I100, a_s102, c_s102, C_s102, D76, _, rfl, ((L32.trans L89).trans L101), S154, h_s102, (IterSt.mono hit80 (L89.trans L101))⟩) (Sub.cons z (Sub.cons z (Sub.cons z (Sub.cons z Sub.nil))))
    · replace R1 := condM_f H R1
      refine y8 ?_
      refine yo ?_
      refine yp ?_
      replace G := R1
      refine yt ?_
      refine yc ?_
      refine W.seq ?_
      refine W.region (l := [0, 1, 2, 3]) kr ?_
      refine yap [(0, 69, (.map (some b7)))] kr (fun _ => by kernel_rfl) ?_
      refine ybg z kr z (f := 67) (args := #[(.map (some b7))]) kr (keys67_ok S22) ?_
      rintro _ w176 ⟨b174, rfl, S175⟩
      refine ⟨_, rfl, trivial, ?_⟩
      have S178 := S175.front1
      have S179 := S178.front1
      obtain ⟨r180, hx181, G⟩ := optM_some G
      refine ybg z kr z (f := 66) (args := #[(.func (.func 100) #[] #[(.pointer (some ⟨b174, 0, none⟩))])]) kr (sorted66_67_ok h_s19 S179 hx181) ?_
      rintro _ w188 ⟨I182, a183, c184, rfl, L185, S186, hp187⟩
      refine ⟨_, rfl, trivial, ?_⟩
      refine yap [(3, 4, (.slice a183 r180.length c184))] kr (fun _ => by kernel_rfl) ?_
      refine yq ?_
      refine yc ?_
      refine yr ?_
      have S189 := S186.drop
      have S190 := S189.drop
      have he : r180 = r := G
      subst r
      exact En.ret1 z (.slice a183 r180.length c184) z ⟨I182, a183, c184, rfl, ((L4.trans L17).trans L185), S190, hp187⟩
def slices_Index_string (p0 : List By8) (p1 : By8) : Option Int := (forN (fun (i4 : Nat) (_s : Unit) => (idx p0 (i4 : Int)).bind (fun x11 => (bif (sEq p1 x11) then some (.inr (i4 : Int)) else some (.inl ())))) p0.length 0 ()).bind (fun (t : Unit ⊕ (Int)) => match t with | .inl _ => some (-1) | .inr s13 => some s13)
theorem slices_Index_string_ok {p0 : List By8} {p1 : By8} {a_p0 : Option Addr} {c_p0 : Nat} (h_p0 : RSl 1 RStr I a_p0 c_p0 p0) (hS : St E w I Os) {r : Int} (G : slices_Index_string p0 p1 = some r) :
    Calls P 65 #[(Sl a_p0 p0 c_p0), (.string p1)] w (RT E I Os (Iv r)) := by
 refine calls_W (fn := Tryz.f65) rfl rfl rfl ?_
 unfold slices_Index_string at G
 refine ye [0] (ya 0 1 z (yb (W.seq (ye nL3 (ya 0 3 z (yb (yn (bsk G fun t1 hloop5 G => have hlt9 := (h_p0).len_lt; W.wk (yaq (m := p0.length) hloop5 (fun (i4 : Nat) (_s : Unit) => JI E I [(0, Sl a_p0 p0 c_p0), (1, .string p1), (7, Nv p0.length), (8, Nv i4)] Os) ⟨I, rfl, lr, hS⟩ ?_ ?_)))))))))
 rintro i4 _ _ w6 hi10 ⟨I2, rfl, L3, S7⟩ x8 R1 hext1
 refine ye [0] (ya 0 1 z (yb (W.seq (yas fun _ => yk (yc (W.seq (yn (ye nL2 (ya 0 2 z (y6 nL6 (ya 0 3 z ?_)))))))))))
 obtain ⟨x11, R1, Hx11, _, rfl, Zx11⟩ := sx I2 h_p0 R1
 refine yaa 9 1 Hx11 z (yao Zx11 S7.rm z (ya 5 1 z (yb (y0 R1 (fun H R1 => ?_) (fun H R1 => ?_)))))
 refine ye nL2 (ya 0 2 z (yb (yr (ym (yg (yu ?_))))))
 obtain rfl := hext1 _ (sj R1).symm
 exact ym (yg (sj G ▸ yx ⟨I2, rfl, L3, S7⟩))
 exact yk (yl (yc (yag nL2 (yan i4 z (ya 1 1 z (yq (yv ⟨(), (sj R1).symm, I2, rfl, L3, S7⟩)))))))
 rintro _ _ w14 ⟨I2, rfl, L3, S15⟩ he
 cases he
 exact ye [0] (ya 0 1 z (yb (W.seq (yat fun _ => y8 (yo (yp (yt (yc (ye [0] (ya 0 1 z (yb (yr (sj G ▸ yx ⟨I2, rfl, L3, S15⟩)))))))))))))
def slices_Contains_string (p0 : List By8) (p1 : By8) : Option Bool := (slices_Index_string p0 p1).bind (fun r6 => some (decide (r6 ≥ 0)))
theorem slices_Contains_string_ok {p0 : List By8} {p1 : By8} {a_p0 : Option Addr} {c_p0 : Nat} (h_p0 : RSl 1 RStr I a_p0 c_p0 p0) (hS : St E w I Os) {r : Bool} (G : slices_Contains_string p0 p1 = some r) :
    Calls P 44 #[(Sl a_p0 p0 c_p0), (.string p1)] w (RT E I Os (.bool r)) := by
 refine calls_W (fn := Tryz.f44) rfl rfl rfl ?_
 unfold slices_Contains_string at G
 exact ye [0] (ya 0 1 z (y6 nL5 (ya 0 2 z (bsk G fun r6 Xr1 G => WO.c1 (slices_Index_string_ok h_p0 hS Xr1) z fun I3 w2 L4 S5 => ya 3 2 z (yb (yr (sj G ▸ yx ⟨I3, rfl, L4, S5⟩)))))))
noncomputable def member_Is (p0 : List qJ) (p1 : By8) (p2 : By8) : Option Bool := (member_All p0 p1).bind (fun r6 => (slices_Contains_string r6 p2).bind (fun r12 => some r12))
theorem member_Is_ok {p0 : List qJ} {p1 : By8} {p2 : By8} {a_p0 : Option Addr} {c_p0 : Nat} (h_p0 : RSl 2 R_qJ I a_p0 c_p0 p0) (hS : St E w I Os) {r : Bool} (G : member_Is p0 p1 p2 = some r) :
    Calls P 24 #[(Sl a_p0 p0 c_p0), (.string p1), (.string p2)] w (RT E I Os (.bool r)) := by
 refine calls_W (fn := Tryz.f24) rfl rfl rfl ?_
 unfold member_Is at G
 refine ye [0] (ya 0 1 z (y6 nL6 (ya 0 2 z (bsk G fun r6 Xr1 G => yaj (member_All_ok h_p0 hS Xr1) ?_))))
 rintro _ w2 ⟨I3, a_r6, c_r6, rfl, L4, S5, h_r6⟩
 exact cv (ya 3 1 z (bsk G fun r12 Xr7 G => WO.c1 (slices_Contains_string_ok h_r6 S5 Xr7) z fun I9 w8 L10 S11 => ya 5 1 z (yb (yr (sj G ▸ yx ⟨I9, rfl, le, S11⟩)))))
noncomputable def grants_Owns (p0 : qC) (p1 : By8) (p2 : By8) : Option Bool := (catalog_Find p0 p2).bind (fun (r10, r11) => ((bif r11 then (member_Is p0.Roles p1 r10.Owner).bind (fun r27 => some r27) else some false)).bind (fun (j18 : Bool) => some j18))
theorem grants_Owns_ok {p0 : qC} {p1 : By8} {p2 : By8} {w_p0 : W_qC} (h_p0 : ok_qC I p0 w_p0) (hS : St E w I Os) {r : Bool} (G : grants_Owns p0 p1 p2 = some r) :
    Calls P 48 #[(vC p0 w_p0), (.string p1), (.string p2)] w (RT E I Os (.bool r)) := by
 refine calls_W (fn := Tryz.f48) rfl rfl rfl ?_
 unfold grants_Owns at G
 refine ye nL2 (y4 hS (cs_qC p0 w_p0) 33 z fun b1 w4 S3 => ya 1 1 z (y6 nL9 (y3 ((cs_qC p0 w_p0)) (S3.rf m0) z (ya 1 1 z ?_))))
 obtain ⟨⟨r10, r11⟩, Xr5, G⟩ := bsm G
 refine yaj (catalog_Find_ok h_p0 S3 Xr5) ?_
 rintro _ w6 ⟨I7, w_r10, rfl, L8, S9, h_r10⟩
 refine cv (ya 3 3 z (y4 S9 (cs_qT z_qT zw_qT) 104 z fun b12 w15 S14 => y7 S14 0 (cs_qT r10 w_r10) fun w17 S16 => ya 8 1 z (y6 nL10 (ya 0 2 z (bsk G fun j18 R1 G => yam (l1 := [2, 3, 4, 5, 6, 7, 8]) (J := JI E I7 [(23, .bool j18)] Os) ?_ ?_)))))
 refine yal R1 (fun H R1 => ?_) (fun H R1 => ?_)
 exact yz 16 H (yf 2 1 [2] z (yi (S16.rf m1) z (yf 4 2 [1] z (yi (S16.rf m0) z (bsk R1 fun r27 Xr22 R1 => WO.c1 (member_Is_ok (RSl.mono h_p0.Roles L8) S16 Xr22) z fun I24 w23 L25 S26 => ya 8 1 z (sj R1 ▸ yy ⟨I24, rfl, L25, S26.d2⟩))))))
 refine yz 16 H ?_
 iterate 6 refine yak ?_
 exact ya 8 1 z (sj R1 ▸ yy ⟨I7, rfl, lr, S16.d2⟩)
 rintro _ w32 ⟨I20, rfl, L21, S33⟩
 exact ya 9 1 z (yb (yr (sj G ▸ yx ⟨I20, rfl, le, S33⟩)))
noncomputable def why_asked_owns (p0 : why_asked) (p1 : By8) : Option Bool := (grants_Owns p0.c p1 p0.table_).bind (fun r10 => some r10)
theorem why_asked_owns_ok {p0 : why_asked} {p1 : By8} {w_p0 : W_why_asked} (h_p0 : ok_why_asked I p0 w_p0) (hS : St E w I Os) {r : Bool} (G : why_asked_owns p0 p1 = some r) :
    Calls P 35 #[(.agg (cs_why_asked p0 w_p0).toArray), (.string p1)] w (RT E I Os (.bool r)) := by
 refine calls_W (fn := Tryz.f35) rfl rfl rfl ?_
 unfold why_asked_owns at G
 exact ye nL2 (y4 hS (cs_why_asked p0 w_p0) 79 z fun b1 w4 S3 => ya 1 1 z (y6 nL7 (yf 0 1 [0] z (y3 ((cs_qC p0.c w_p0.c)) (S3.rf m0) z (yf 2 2 [5] z (yi (S3.rf m0) z (bsk G fun r10 Xr5 G => WO.c1 (grants_Owns_ok h_p0.c S3 Xr5) z fun I7 w6 L8 S9 => ya 6 1 z (yb (yr (sj G ▸ yx ⟨I7, rfl, L8, S9.drop⟩))))))))))
def why_asked_fits (p0 : why_asked) (p1 : qG) (p2 : Bool) : Option Bool := (member_Find p0.c.Roles p1.To).bind (fun (r14, r15) => (some (((r15 && (p1.Priv == p0.priv)) && (sEq p1.Table p0.table_)) && (p1.Option || (!p2)))).bind (fun (q28 : Bool) => some q28))
theorem why_asked_fits_ok {p0 : why_asked} {p1 : qG} {p2 : Bool} {w_p0 : W_why_asked} (h_p0 : ok_why_asked I p0 w_p0) (hS : St E w I Os) {r : Bool} (G : why_asked_fits p0 p1 p2 = some r) :
    Calls P 34 #[(.agg (cs_why_asked p0 w_p0).toArray), (vG p1), (.bool p2)] w (RT E I Os (.bool r)) := by
 refine calls_W (fn := Tryz.f34) rfl rfl rfl ?_
 unfold why_asked_fits at G
 refine ye nL3 (y4 hS (cs_why_asked p0 w_p0) 79 z fun b1 w4 S3 => y4 S3 (cs_qG p1) 50 z fun b5 w8 S7 => ya 2 1 z (y6 nL12 (yf 0 2 [0, 2] z (yi (S7.rf m1) z (yf 3 1 [0] z (yi (S7.rf m0) z ?_))))))
 obtain ⟨⟨r14, r15⟩, Xr9, G⟩ := bsm G
 refine yaj (member_Find_ok h_p0.c.Roles S7 Xr9) ?_
 rintro _ w10 ⟨I11, w_r14, rfl, L12, S13, h_r14⟩
 exact cv (ya 6 3 z (y4 S13 (cs_qJ z_qJ zw_qJ) 74 z fun b16 w19 S18 => y7 S18 0 (cs_qJ r14 w_r14) fun w21 S20 => ya 11 1 z (y6 nL24 (ya 0 2 z (yar [2, 3, 4, 5, 6] 7 19 25 (.refl (r15 && (p1.Priv == p0.priv))) (fun _ => yf 2 1 [3] z (yi (S20.rf m1) z (yf 4 1 [4] z (yi (S20.rf m2) z (ya 6 2 z yai))))) (ya 8 1 z (yar [9, 10, 11, 12, 13] 14 26 32 (.refl ((r15 && (p1.Priv == p0.priv)) && (sEq p1.Table p0.table_))) (fun _ => yf 9 1 [2] z (yi (S20.rf m1) z (yf 11 1 [5] z (yi (S20.rf m2) z (ya 13 2 z yai))))) (ya 15 1 z (bsq G fun q28 Xq28 G => yar [16, 17, 18, 19, 20, 21] 22 33 40 Xq28 (fun _ => yf 16 1 [4] z (yi (S20.rf m1) z (ya 18 1 z (ya1 [19, 20] 21 36 39 (.refl (p1.Option || (!p2))) (fun _ => ya 19 3 z yai) (ya 22 1 z yai))))) (ya 23 1 z (yb (yr (sj G ▸ yx ⟨I11, rfl, L12, S20.d3⟩)))))))))))))
noncomputable def why_asked_step (p0 : why_asked) (p1 : List (Int × Int)) (p2 : By8) (p3 : Bool) : Option (Int × Int) := (forE (fun (i10 : Nat) (s : Int × Int) => match s with | (s8, s9) => (idx p0.c.Grants (i10 : Int)).bind (fun x17 => (some ((mget iEq p1 (i10 : Int)).getD 0)).bind (fun (x24 : Int) => ((bif (mhas iEq p1 (i10 : Int)) then (why_asked_fits p0 x17 p3).bind (fun r34 => some r34) else some false)).bind (fun (j25 : Bool) => ((bif j25 then (member_Is p0.c.Roles p2 x17.To).bind (fun r48 => some r48) else some false)).bind (fun (j39 : Bool) => ((bif (j39 && ((decide (s8 < 0)) || (decide (x24 < s9)))) then some ((i10 : Int), x24) else some (s8, s9))).bind (fun ((s65, s66) : Int × Int) => some (s65, s66))))))) p0.c.Grants.length 0 ((-1), 0)).bind (fun (s8, s9) => some (s8, s9))
theorem why_asked_step_ok {p0 : why_asked} {p1 : List (Int × Int)} {p2 : By8} {p3 : Bool} {w_p0 : W_why_asked} {m_p1 : Nat} {C_p1 : Mem} (h_p0 : ok_why_asked I p0 w_p0) (h_p1 : OwnMap (Value.int .i64) (val1 (RInt .i64)) I C_p1 m_p1 p1) (hm_p1 : (C_p1) ∈ Os) (hS : St E w I Os) {r : Int × Int} (G : why_asked_step p0 p1 p2 p3 = some r) :
    Calls P 39 #[(.agg (cs_why_asked p0 w_p0).toArray), (.map (some m_p1)), (.string p2), (.bool p3)] w (RT E I Os (.tuple #[(Iv r.1), (Iv r.2)])) := by
 refine calls_W (fn := Tryz.f39) rfl rfl rfl ?_
 unfold why_asked_step at G
 refine ye nL3 (y4 hS (cs_why_asked p0 w_p0) 79 z fun b1 w4 S3 => ya 1 2 z (y6 nL2 (ya 0 2 z (yb (W.seq (ye nL5 (yf 0 2 [0, 3] z (yi (S3.rf m0) z (ya 3 2 z (yb (yn ?_)))))))))))
 obtain ⟨⟨s8, s9⟩, hloop11, G⟩ := bsm G
 have hlt15 := (h_p0.c.Grants).len_lt
 refine W.wk (yau (m := p0.c.Grants.length) hloop11 (fun (i10 : Nat) (s : Int × Int) fr w => match s with | (s8, s9) => ∃ I6, fr = [(1, .map (some m_p1)), (2, .string p2), (3, .bool p3), (4, Pt b1 0), (10, Iv s8), (11, Iv s9), (18, Sl w_p0.c.Grants.a p0.c.Grants w_p0.c.Grants.c), (19, Nv p0.c.Grants.length), (20, Nv i10)] ∧ I.Le I6 ∧ St E w I6 ((Bx b1 (cs_why_asked p0 w_p0) 79) :: Os)) ⟨I, rfl, lr, S3⟩ ?_ ?_)
 rintro i10 ⟨s8, s9⟩ _ w12 hi16 ⟨I6, rfl, L7, S13⟩ x14 R1
 refine ye [0] (ya 0 1 z (yb (W.seq (yas fun _ => yk (yc (W.seq (yn (ye nL6 (ya 0 1 z ?_)))))))))
 obtain ⟨x17, R1, Hx17, _, rfl, Zx17⟩ := sx I6 h_p0.c.Grants R1
 refine yaa 50 5 Hx17 z (yav ((cs_qG x17)) Zx17 0 S13.rm z (y4 S13 (cs_qG z_qG) 50 z fun b18 w21 S20 => ya 4 1 z (y7 S20 0 (cs_qG x17) fun w23 S22 => y6 nL8 (yab 0 26 (.map (some m_p1)) (ya 1 1 z ?_)))))
 obtain ⟨x24, Xx24, R1⟩ := bsm R1
 obtain ⟨v_x24, hv_x24, hq_x24⟩ := OwnMap.lookup (OwnMap.mono h_p1 L7) (t := 83) (kt := 3) (et := 3) kr (keyLaw_int (kt := 3) kr) (i10 : Int) (zv := (Iv 0)) (z0 := 0) kr rfl
 rw [sj Xx24] at hv_x24
 obtain rfl := (List.cons.inj hv_x24).1
 refine WO.lookup z kr z z hq_x24 ((rd_f (S22.rd (List.Mem.tail _ (List.Mem.tail _ hm_p1))))) (.tuple #[(Iv x24), (.bool (mhas iEq p1 (i10 : Int)))]) z ?_
 refine ya 3 5 z (y6 nL25 (ya 0 2 z (bsk R1 fun j25 R2 R1 => yam (l1 := [2, 3, 4, 5, 6]) (J := JI E I6 [(1, .map (some m_p1)), (2, .string p2), (3, .bool p3), (4, Pt b1 0), (10, Iv s8), (11, Iv s9), (12, Nv i10), (13, Pt b18 0), (14, Iv x24), (18, Sl w_p0.c.Grants.a p0.c.Grants w_p0.c.Grants.c), (19, Nv p0.c.Grants.length), (20, Nv i10), (37, .bool j25)] ((Bx b1 (cs_why_asked p0 w_p0) 79) :: (bG b18 x17) :: Os)) ?_ ?_)))
 refine yal R2 (fun H R2 => ?_) (fun H R2 => ?_)
 exact yz 32 H (y3 ((cs_why_asked p0 w_p0)) (S22.rf m1) z (y3 ((cs_qG x17)) (S22.rf m0) z (ya 4 1 z (bsk R2 fun r34 Xr29 R2 => WO.c1 (why_asked_fits_ok (h_p0.mono L7) S22 Xr29) z fun I31 w30 L32 S33 => ya 6 1 z (sj R2 ▸ yy ⟨I31, rfl, L32, S33.front1⟩)))))
 refine yz 32 H ?_
 iterate 4 refine yak ?_
 exact ya 6 1 z (sj R2 ▸ yy ⟨I6, rfl, lr, S22.front1⟩)
 rintro _ w37 ⟨I27, rfl, L28, S38⟩
 refine ya 7 1 z (bsk R1 fun j39 R2 R1 => yam (l1 := [8, 9, 10, 11, 12, 13, 14, 15]) (J := JI E I27 [(1, .map (some m_p1)), (2, .string p2), (3, .bool p3), (4, Pt b1 0), (10, Iv s8), (11, Iv s9), (12, Nv i10), (14, Iv x24), (18, Sl w_p0.c.Grants.a p0.c.Grants w_p0.c.Grants.c), (19, Nv p0.c.Grants.length), (20, Nv i10), (46, .bool j39)] ((Bx b1 (cs_why_asked p0 w_p0) 79) :: Os)) ?_ ?_)
 refine yal R2 (fun H R2 => ?_) (fun H R2 => ?_)
 exact yz 38 H (yf 8 2 [0, 2] z (yi (S38.rf m0) z (yf 11 2 [0] z (yi (S38.rf m1) z (bsk R2 fun r48 Xr43 R2 => WO.c1 (member_Is_ok (up h_p0.c.Roles) S38 Xr43) z fun I45 w44 L46 S47 => ya 15 1 z (sj R2 ▸ yy ⟨I45, rfl, L46, S47.front1.drop⟩))))))
 refine yz 38 H ?_
 iterate 7 refine yak ?_
 exact ya 15 1 z (sj R2 ▸ yy ⟨I27, rfl, lr, S38.front1.drop⟩)
 rintro _ w53 ⟨I41, rfl, L42, S54⟩
 refine ya 16 1 z (yar [17, 18, 19, 20, 21, 22, 23] 24 47 55 (.refl (j39 && ((decide (s8 < 0)) || (decide (x24 < s9))))) (fun _ => ya 17 3 z (ya1 [20, 21, 22] 23 50 54 (.refl ((decide (s8 < 0)) || (decide (x24 < s9)))) (fun _ => ya 20 4 z yai) (ya 24 1 z yai))) (yb (bsk R1 fun j61 R2 R1 => yaz (J := (fun fr w => ∃ (s65 : Int) (s66 : Int), ∃ I63, (s65, s66) = j61 ∧ fr = [(1, .map (some m_p1)), (2, .string p2), (3, .bool p3), (4, Pt b1 0), (10, Iv s65), (11, Iv s66), (18, Sl w_p0.c.Grants.a p0.c.Grants w_p0.c.Grants.c), (19, Nv p0.c.Grants.length), (20, Nv i10)] ∧ I41.Le I63 ∧ St E w I63 ((Bx b1 (cs_why_asked p0 w_p0) 79) :: Os))) ?_ ?_)))
 refine y0 R2 (fun H R2 => ?_) (fun H R2 => ?_)
 exact yag nL4 (ya 0 4 z (yq (yv ⟨(i10 : Int), x24, I41, sj R2, rfl, lr, S54⟩)))
 exact yk (yv ⟨s8, s9, I41, sj R2, rfl, lr, S54⟩)
 rintro _ w67 ⟨s65, s66, I63, rfl, rfl, L64, S68⟩
 exact yl (yc (yag nL2 (yan i10 z (ya 1 1 z (yq (sj R1 ▸ yv ⟨I63, rfl, le, S68⟩))))))
 rintro _ w69 ⟨I6, rfl, L7, S70⟩
 exact ye [0] (ya 0 1 z (yb (W.seq (yat fun _ => y8 (yo (yp (yt (yc (ye nL4 (ya 0 4 z (yb (yr (sj G ▸ ya0 ⟨I6, rfl, L7, S70.drop⟩)))))))))))))
noncomputable def why_asked_dists (p0 : why_asked) : Option (List (Int × Int)) := (loopO (fun (s : Bool × (List (Int × Int))) => match s with | (s12, s13) => (bif s12 then (forE (fun (i24 : Nat) (s : Bool × (List (Int × Int))) => match s with | (s22, s23) => ((idx p0.c.Grants (i24 : Int)).bind (fun x35 => (why_asked_fits p0 x35 false).bind (fun r47 => (bif (!r47) then some (s22, s23) else (why_asked_owns p0 x35.By).bind (fun r56 => ((bif (!r56) then (why_asked_step p0 s23 x35.By true).bind (fun (r66, r67) => (bif (decide (r66 < 0)) then some (.inl ()) else some (.inr r67))) else some (.inr 0))).bind (fun (t : Unit ⊕ Int) => match t with | (.inl ()) => some (s22, s23) | (.inr s71) => (some ((mget iEq s23 (i24 : Int)).getD 0)).bind (fun (x76 : Int) => (some ((!(mhas iEq s23 (i24 : Int))) || (decide ((w64 (s71 + 1)) < x76)))).bind (fun (q77 : Bool) => ((bif q77 then some (true, (mset iEq s23 (i24 : Int) (w64 (s71 + 1)))) else some (s22, s23))).bind (fun ((s89, s90) : Bool × (List (Int × Int))) => some (s89, s90)))))))))).bind (fun ((s48, s49) : Bool × (List (Int × Int))) => some (s48, s49))) p0.c.Grants.length 0 (false, s13)).bind (fun (s22, s23) => some (.inl (s22, s23))) else some (.inr s13))) (true, ([] : List (Int × Int)))).bind (fun (s99 : List (Int × Int)) => some s99)
theorem why_asked_dists_ok {p0 : why_asked} {w_p0 : W_why_asked} (h_p0 : ok_why_asked I p0 w_p0) (hS : St E w I Os) {r : (List (Int × Int))} (G : why_asked_dists p0 = some r) :
    Calls P 38 #[(.agg (cs_why_asked p0 w_p0).toArray)] w (fun e w' => ∃ (I' : Mem) (rm0 : Nat) (rC0 : Mem), e = .returned (.map (some rm0)) ∧ I.Le I' ∧ St E w' I' (rC0 :: Os) ∧ OwnMap (Value.int .i64) (val1 (RInt .i64)) I' rC0 rm0 r) := by
 refine calls_W (fn := Tryz.f38) rfl rfl rfl ?_
 unfold why_asked_dists at G
 refine ye nL2 (y4 hS (cs_why_asked p0 w_p0) 79 z fun b1 w4 S3 => yab 1 2 (.map none) (y6 nL2 (ybj S3 z kr z (.map #[] 0) (fun b => .map (some b)) kr tv ?_)))
 intro b5 w8 S7
 refine yab 1 3 (.map (some b5)) (yb (W.seq (ye [0] (ya 0 1 z (yb (yn (bsk G fun t9 hloop14 G => W.wk (ya6 hloop14 (fun (s : Bool × (List (Int × Int))) fr w => match s with | (s12, s13) => ∃ I10 C_s13, fr = [(1, Pt b1 0), (3, .map (some b5)), (4, .bool s12)] ∧ I.Le I10 ∧ St E w I10 ((Bx b1 (cs_why_asked p0 w_p0) 79) :: (C_s13) :: Os) ∧ OwnMap (Value.int .i64) (val1 (RInt .i64)) I10 C_s13 b5 s13) ⟨I, Gv.one b5 (.map #[] 0), rfl, lr, S7.front1, (OwnMap.nil (enc := (Value.int .i64)) (val := (val1 (RInt .i64))) (I := I) (m := b5))⟩ ?_))))))))
 rintro ⟨s12, s13⟩ _ w16 ⟨I10, C_s13, rfl, L11, S17, h_s13⟩ x18 R1 hext9
 refine W.seq (ye [0] (ya 0 1 z (yb (y0 R1 (fun H R1 => ?_) (fun H R1 => ?_)))))
 refine yk (yc (yn (ye [0] (ya 0 1 z (y6 nL5 (yf 0 2 [0, 3] z (yi (S17.rf m0) z (ya 3 2 z (yb (yn ?_))))))))))
 obtain ⟨⟨s22, s23⟩, hloop25, R1⟩ := bsm R1
 have hlt29 := ((RSl.mono h_p0.c.Grants L11)).len_lt
 refine W.wk (yau (m := p0.c.Grants.length) hloop25 (fun (i24 : Nat) (s : Bool × (List (Int × Int))) fr w => match s with | (s22, s23) => ∃ I20 C_s23, fr = [(1, Pt b1 0), (3, .map (some b5)), (4, .bool s22), (16, Sl w_p0.c.Grants.a p0.c.Grants w_p0.c.Grants.c), (17, Nv p0.c.Grants.length), (18, Nv i24)] ∧ I10.Le I20 ∧ St E w I20 ((Bx b1 (cs_why_asked p0 w_p0) 79) :: (C_s23) :: Os) ∧ OwnMap (Value.int .i64) (val1 (RInt .i64)) I20 C_s23 b5 s23) ⟨I10, C_s13, rfl, lr, S17, h_s13⟩ ?_ ?_)
 rintro i24 ⟨s22, s23⟩ _ w26 hi30 ⟨I20, C_s23, rfl, L21, S27, h_s23⟩ x28 R2
 refine ye [0] (ya 0 1 z (yb (W.seq (yas fun _ => yk (yc (W.seq (bsk R2 fun j31 R3 R2 => yaz (J := (fun fr w => ∃ (s48 : Bool) (s49 : List (Int × Int)), ∃ I33 C_s49, (s48, s49) = j31 ∧ fr = [(1, Pt b1 0), (3, .map (some b5)), (4, .bool s48), (16, Sl w_p0.c.Grants.a p0.c.Grants w_p0.c.Grants.c), (17, Nv p0.c.Grants.length), (18, Nv i24)] ∧ I20.Le I33 ∧ St E w I33 ((Bx b1 (cs_why_asked p0 w_p0) 79) :: (C_s49) :: Os) ∧ OwnMap (Value.int .i64) (val1 (RInt .i64)) I33 C_s49 b5 s49)) ?_ ?_)))))))
 refine yn (ye nL6 (ya 0 1 z ?_))
 obtain ⟨x35, R3, Hx35, _, rfl, Zx35⟩ := sx I20 h_p0.c.Grants R3
 refine yaa 50 5 Hx35 z (yav ((cs_qG x35)) Zx35 0 S27.rm z (y4 S27 (cs_qG z_qG) 50 z fun b36 w39 S38 => ya 4 1 z (y7 S38 0 (cs_qG x35) fun w41 S40 => y6 [0] (ya 0 1 z (yb (W.seq (ye nL4 (y3 ((cs_why_asked p0 w_p0)) (S40.rf m1) z (y3 ((cs_qG x35)) (S40.rf m0) z (bsk R3 fun r47 Xr42 R3 => WO.c1 (why_asked_fits_ok (h_p0.mono le) S40 Xr42) z fun I44 w43 L45 S46 => ya 3 1 z (yb (y0 R3 (fun H R3 => ?_) (fun H R3 => ?_)))))))))))))
 exact y8 (yo (yt (yv ⟨s22, s23, I44, C_s23, sj R3, rfl, L45, S46.drop, (OwnMap.mono h_s23 L45)⟩)))
 refine yk (yc (W.seq (ye nL5 (y3 ((cs_why_asked p0 w_p0)) (S46.rf m1) z (yf 1 1 [1] z (yi (S46.rf m0) z (bsk R3 fun r56 Xr51 R3 => WO.c1 (why_asked_owns_ok (h_p0.mono le) S46 Xr51) z fun I53 w52 L54 S55 => ya 4 1 z (yb (bsk R3 fun j57 R4 R3 => yaz (J := (fun fr w => ∃ (s71 : Int), ∃ I59, (.inr s71) = j57 ∧ fr = [(1, Pt b1 0), (3, .map (some b5)), (4, .bool s22), (5, Nv i24), (7, Iv s71), (16, Sl w_p0.c.Grants.a p0.c.Grants w_p0.c.Grants.c), (17, Nv p0.c.Grants.length), (18, Nv i24)] ∧ I53.Le I59 ∧ St E w I59 ((Bx b1 (cs_why_asked p0 w_p0) 79) :: (C_s23) :: Os))) ?_ ?_)))))))))
 refine y0 R4 (fun H R4 => ?_) (fun H R4 => ?_)
 refine ye nL10 (y3 ((cs_why_asked p0 w_p0)) (S55.rf m1) z (yab 1 34 (.map (some b5)) (yf 2 1 [1] z (yi (S55.rf m0) z ?_))))
 obtain ⟨⟨r66, r67⟩, Xr61, R4⟩ := bsm R4
 refine WO.c1 (why_asked_step_ok (h_p0.mono le) (OwnMap.mono h_s23 le) m2 S55 Xr61) z fun I63 w62 L64 S65 => ya 5 5 z (yb (W.seq (ye nL2 (ya 0 2 z (yb (y0 R4 (fun H R4 => ?_) (fun H R4 => ?_)))))))
 refine y8 (yo (yp ?_))
 obtain rfl := sj R4
 exact yo (yt (yv ⟨s22, s23, I63, C_s23, sj R3, rfl, le, S65.drop, (OwnMap.mono h_s23 le)⟩))
 exact yk (yc (yag nL2 (ya 0 2 z (yq (yv ⟨r67, I63, sj R4, rfl, L64, S65.drop⟩)))))
 exact yk (yv ⟨0, I53, sj R4, rfl, lr, S55.drop⟩)
 rintro _ w74 ⟨s71, I59, rfl, rfl, L60, S75⟩
 refine yc (ye nL8 (yab 0 44 (.map (some b5)) (ya 1 1 z ?_)))
 obtain ⟨x76, Xx76, R3⟩ := bsm R3
 obtain ⟨v_x76, hv_x76, hq_x76⟩ := OwnMap.lookup (OwnMap.mono h_s23 ((L45.trans L54).trans L60)) (t := 83) (kt := 3) (et := 3) kr (keyLaw_int (kt := 3) kr) (i24 : Int) (zv := (Iv 0)) (z0 := 0) kr rfl
 rw [sj Xx76] at hv_x76
 obtain rfl := (List.cons.inj hv_x76).1
 refine WO.lookup z kr z z hq_x76 ((S75.rf m1)) (.tuple #[(Iv x76), (.bool (mhas iEq s23 (i24 : Int)))]) z ?_
 refine ya 3 5 z (y6 nL8 (ya 0 3 z (bsq R3 fun q77 Xq77 R3 => ya1 [3, 4, 5, 6] 7 51 56 Xq77 (fun _ => ya 3 5 z yai) (yb (bsk R3 fun j80 R4 R3 => yaz (J := (fun fr w => ∃ (s89 : Bool) (s90 : List (Int × Int)), ∃ I82 C_s90, (s89, s90) = j80 ∧ fr = [(1, Pt b1 0), (3, .map (some b5)), (4, .bool s89), (16, Sl w_p0.c.Grants.a p0.c.Grants w_p0.c.Grants.c), (17, Nv p0.c.Grants.length), (18, Nv i24)] ∧ I59.Le I82 ∧ St E w I82 ((Bx b1 (cs_why_asked p0 w_p0) 79) :: (C_s90) :: Os) ∧ OwnMap (Value.int .i64) (val1 (RInt .i64)) I82 C_s90 b5 s90)) ?_ ?_)))))
 refine y0 R4 (fun H R4 => ?_) (fun H R4 => ?_)
 refine ye nL5 (yab 0 57 (.map (some b5)) (ya 1 3 z (WO.update (OwnMap.mono h_s23 le) S75.front1 (t := 83) (kt := 3) (et := 3) kr (keyLaw_int (kt := 3) kr) z kr z (.inl z) z (i24 : Int) z z (xv := (w64 (s71 + 1))) z tv ?_)))
 intro w87 C85 S86 hm88
 exact yb (yag [0] (ya 0 1 z (yq (yv ⟨true, (mset iEq s23 (i24 : Int) (w64 (s71 + 1))), I59, C85, sj R4, rfl, lr, S86.front1, hm88⟩))))
 exact yk (yv ⟨s22, s23, I59, C_s23, sj R4, rfl, lr, S75, (OwnMap.mono h_s23 le)⟩)
 rintro _ w92 ⟨s89, s90, I82, C_s90, rfl, rfl, L83, S93, h_s90⟩
 exact yl (yv ⟨s89, s90, I82, C_s90, sj R3, rfl, le, S93, h_s90⟩)
 rintro _ w94 ⟨s48, s49, I33, C_s49, rfl, rfl, L34, S95, h_s49⟩
 exact yc (yag nL2 (yan i24 z (ya 1 1 z (yq (sj R2 ▸ yv ⟨I33, C_s49, rfl, le, S95, h_s49⟩)))))
 rintro _ w96 ⟨I20, C_s23, rfl, L21, S97, h_s23⟩
 exact ye [0] (ya 0 1 z (yb (W.seq (yat fun _ => y8 (yo (yp (yt (yl (yv ⟨(s22, s23), (sj R1).symm, I20, C_s23, rfl, le, S97, h_s23⟩)))))))))
 refine y8 (yo (yp ?_))
 obtain rfl := hext9 _ (sj R1).symm
 exact yt (yc (ye nL2 (WO.vs 0 [(62, .map (some b5)), (2, .map (some b5))] (yb (yr (sj G ▸ yx ⟨I10, b5, C_s13, rfl, L11, S17.drop, h_s13⟩))))))
noncomputable def why_Why (p0 : qC) (p1 : By8) (p2 : Int) (p3 : By8) : Option ((List qG) × Bool) := (why_asked_owns (⟨p0, p2, p3⟩ : why_asked) p1).bind (fun r17 => (bif r17 then some (([] : List qG), true) else (why_asked_dists (⟨p0, p2, p3⟩ : why_asked)).bind (fun r26 => (loopO (fun (s : By8 × (List qG) × Bool) => match s with | (s30, s31, s32) => (why_asked_owns (⟨p0, p2, p3⟩ : why_asked) s30).bind (fun r48 => (bif (!r48) then (why_asked_step (⟨p0, p2, p3⟩ : why_asked) r26 s30 s32).bind (fun (r55, r56) => (bif (decide (r55 < 0)) then some (.inr (.inl (([] : List qG), false))) else (idx p0.Grants r55).bind (fun x67 => (app 64 s31 ([x67] : List qG)).bind (fun x76 => (idx p0.Grants r55).bind (fun x85 => some (.inl (x85.By, x76, true))))))) else some (.inr (.inr s31))))) (p1, ([] : List qG), false)).bind (fun (t : ((List qG) × Bool) ⊕ (List qG)) => match t with | (.inl (s58, s59)) => some (s58, s59) | (.inr s90) => some (s90, true)))))
theorem why_Why_ok {p0 : qC} {p1 : By8} {p2 : Int} {p3 : By8} {w_p0 : W_qC} (h_p0 : ok_qC I p0 w_p0) (hS : St E w I Os) {r : (List qG) × Bool} (G : why_Why p0 p1 p2 p3 = some r) :
    Calls P 15 #[(vC p0 w_p0), (.string p1), (Iv p2), (.string p3)] w (fun e w' => ∃ (I' : Mem) (ra0 : Option Addr) (rc0 : Nat), e = .returned (.tuple #[(Sl ra0 r.1 rc0), (.bool r.2)]) ∧ I.Le I' ∧ St E w' I' Os ∧ RSl 5 R_qG I' ra0 rc0 r.1) := by
 refine calls_W (fn := Tryz.f15) rfl rfl rfl ?_
 unfold why_Why at G
 refine ye nL3 (y4 hS (cs_qC p0 w_p0) 33 z fun b1 w4 S3 => yab 1 8 (.slice none 0 0) (ya 2 1 z (y6 nL6 (y3 ((cs_qC p0 w_p0)) (S3.rf m0) z (ya 1 2 z (yab 3 19 (.agg (cs_why_asked (⟨p0, p2, p3⟩ : why_asked) (⟨w_p0⟩ : W_why_asked)).toArray) (y4 S3 (cs_why_asked z_why_asked zw_why_asked) 79 z fun b5 w8 S7 => y7 S7 0 (cs_why_asked (⟨p0, p2, p3⟩ : why_asked) (⟨w_p0⟩ : W_why_asked)) fun w10 S9 => yb (W.seq (ye nL3 (y3 ((cs_why_asked (⟨p0, p2, p3⟩ : why_asked) (⟨w_p0⟩ : W_why_asked))) (S9.rf m0) z (ya 1 1 z ?_)))))))))))
 have hk11 : ok_why_asked I (⟨p0, p2, p3⟩ : why_asked) (⟨w_p0⟩ : W_why_asked) := ⟨h_p0⟩
 refine bsk G fun r17 Xr12 G => WO.c1 (why_asked_owns_ok hk11 S9 Xr12) z fun I14 w13 L15 S16 => yb (y0 G (fun H G => ?_) (fun H G => ?_))
 exact ye nL2 (yab 0 8 (.slice none 0 0) (ya 1 1 z (yb (yr (yg (sj G ▸ ya0 ⟨I14, none, 0, rfl, L15, S16.d2, SlAt.nil⟩))))))
 refine yk (yc (ye nL3 (y3 ((cs_why_asked (⟨p0, p2, p3⟩ : why_asked) (⟨w_p0⟩ : W_why_asked))) (S16.rf m0) z ?_)))
 have hk20 : ok_why_asked I14 (⟨p0, p2, p3⟩ : why_asked) (⟨w_p0⟩ : W_why_asked) := ⟨(h_p0.mono L15)⟩
 refine bsk G fun r26 Xr21 G => yaj (why_asked_dists_ok hk20 S16 Xr21) ?_
 rintro _ w22 ⟨I23, m_r26, C_r26, rfl, L24, S25, h_r26⟩
 refine cv (yab 2 11 (.map (some m_r26)) (y6 [0] (yab 0 12 (.slice none 0 0) (yb (W.seq (ye [0] (ya 0 1 z (yb (yn (bsk G fun t27 hloop33 G => W.wk (ya6 hloop33 (fun (s : By8 × (List qG) × Bool) fr w => match s with | (s30, s31, s32) => ∃ I28 a_s31 c_s31 C_s31, fr = [(1, .string s30), (4, Pt b1 0), (10, Pt b5 0), (11, .map (some m_r26)), (12, Sl a_s31 s31 c_s31), (13, .bool s32)] ∧ I23.Le I28 ∧ St E w I28 (bC b1 p0 w_p0 :: (Bx b5 (cs_why_asked (⟨p0, p2, p3⟩ : why_asked) (⟨w_p0⟩ : W_why_asked)) 79) :: (C_r26) :: (C_s31) :: Os) ∧ OwnSl 50 5 R_qG I28 C_s31 a_s31 c_s31 s31) ⟨I23, none, 0, Mem.no, rfl, lr, S25.no.front1.front2.front3, OwnSl.nil⟩ ?_)))))))))))
 rintro ⟨s30, s31, s32⟩ _ w39 ⟨I28, a_s31, c_s31, C_s31, rfl, L29, S40, h_s31⟩ x41 R1 hext27
 refine W.seq (ye nL4 (y3 ((cs_why_asked (⟨p0, p2, p3⟩ : why_asked) (⟨w_p0⟩ : W_why_asked))) (S40.rf m1) z (ya 1 1 z ?_)))
 have hk42 : ok_why_asked I28 (⟨p0, p2, p3⟩ : why_asked) (⟨w_p0⟩ : W_why_asked) := ⟨(h_p0.mono ((L15.trans L24).trans L29))⟩
 refine bsk R1 fun r48 Xr43 R1 => WO.c1 (why_asked_owns_ok hk42 S40 Xr43) z fun I45 w44 L46 S47 => ya 3 1 z (yb (y0 R1 (fun H R1 => ?_) (fun H R1 => ?_)))
 refine yk (yc (W.seq (yn (ye nL10 (y3 ((cs_why_asked (⟨p0, p2, p3⟩ : why_asked) (⟨w_p0⟩ : W_why_asked))) (S47.rf m1) z (yab 1 31 (.map (some m_r26)) (ya 2 2 z ?_)))))))
 have hk49 : ok_why_asked I45 (⟨p0, p2, p3⟩ : why_asked) (⟨w_p0⟩ : W_why_asked) := ⟨(h_p0.mono (((L15.trans L24).trans L29).trans L46))⟩
 obtain ⟨⟨r55, r56⟩, Xr50, R1⟩ := bsm R1
 refine WO.c1 (why_asked_step_ok hk49 (OwnMap.mono h_r26 le) m2 S47 Xr50) z fun I52 w51 L53 S54 => ya 5 5 z (yb (W.seq (ye nL2 (ya 0 2 z (yb (y0 R1 (fun H R1 => ?_) (fun H R1 => ?_)))))))
 refine ye nL2 (yab 0 8 (.slice none 0 0) (ya 1 1 z (yb (yr (yg (ym (yg (yu ?_))))))))
 obtain rfl := hext27 _ (sj R1).symm
 exact ym (yg (sj G ▸ ya0 ⟨I52, none, 0, rfl, le, S54.d4, SlAt.nil⟩))
 refine yk (yc (ye nL9 (yf 0 2 [3] z (yi (S54.rf m0) z (ya 3 1 z ?_)))))
 obtain ⟨x67, R1, Hx67, _, rfl, Zx67⟩ := sx I52 h_p0.Grants R1
 refine yaa 50 5 Hx67 z (yav ((cs_qG x67)) Zx67 0 S54.rm z (yac (rel := R_qG) (xs := ([x67] : List qG)) S54 z kr z 50 5 [(cs_qG x67)] kr z ((Elr.cons z Elr.nil)) tv ?_))
 intro a71 C69 w73 S72 ho70
 have S75 := S72.front4
 refine apk R1 fun x76 h0_x76 he_x76 R1 => yay 50 64 (cs_qG z_qG) S75 (OwnSl.mono h_s31 le) ho70.sl (S75.rd m1) h0_x76 he_x76 z fun a77 c78 w79 C80 S81 ho82 => have S84 := S81.front1.drop; ya 8 1 z (yb (yag nL7 (yf 0 1 [3] z (yi (S84.rf m1) z (ya 2 1 z ?_)))))
 obtain ⟨x85, R1, Hx85, _, rfl, Zx85⟩ := sx I52 h_p0.Grants R1
 exact yaa 50 5 Hx85 z (yf 4 1 [1] z (yaw Zx85 1 S84.rm z (ya 6 1 z (yq (yl (yc (yag [0] (ya 0 1 z (yq (yv ⟨(x85.By, x76, true), (sj R1).symm, I52, a77, c78, C80, rfl, le, S84.front3.front3.front3, ho82⟩))))))))))
 refine y8 (yo (yp ?_))
 obtain rfl := hext27 _ (sj R1).symm
 refine yt (yc (ye nL3 (ya 0 1 z ?_)))
 obtain ⟨I100, L101, S103, hp102⟩ := yad (h_s31.mono L46) S47.front3
 exact ya 1 2 z (yb (yr (sj G ▸ ya0 ⟨I100, a_s31, c_s31, rfl, le, S103.d3, hp102⟩)))
noncomputable def why_far (p0 : List qJ) (p1 : By8) : Option (List (By8 × Int)) := (member_Find p0 p1).bind (fun (r10, r11) => (bif (!r11) then some ([] : List (By8 × Int)) else (loopO (fun (s : Bool × (List (By8 × Int))) => match s with | (s27, s28) => (bif s27 then (forE (fun (i40 : Nat) (s : Bool × (List (By8 × Int))) => match s with | (s38, s39) => (idx p0 (i40 : Int)).bind (fun x47 => (member_Find p0 x47.Name).bind (fun (r59, r60) => (forE (fun (i73 : Nat) (s : Bool × (List (By8 × Int))) => match s with | (s71, s72) => (idx r59.In (i73 : Int)).bind (fun x82 => (some ((mget sEq s72 x82).getD 0)).bind (fun (x83 : Int) => (some ((mget sEq s72 x47.Name).getD 0)).bind (fun (x84 : Int) => (some ((mhas sEq s72 x82) && ((!(mhas sEq s72 x47.Name)) || (decide ((w64 (x83 + 1)) < x84))))).bind (fun (q87 : Bool) => ((bif q87 then some (true, (mset sEq s72 x47.Name (w64 (x83 + 1)))) else some (s71, s72))).bind (fun ((s100, s101) : Bool × (List (By8 × Int))) => some (s100, s101))))))) r59.In.length 0 (s38, s39)).bind (fun (s71, s72) => some (s71, s72))))) p0.length 0 (false, s28)).bind (fun (s38, s39) => some (.inl (s38, s39))) else some (.inr s28))) (true, (mset sEq ([] : List (By8 × Int)) p1 0))).bind (fun (s111 : List (By8 × Int)) => some s111)))
theorem why_far_ok {p0 : List qJ} {p1 : By8} {a_p0 : Option Addr} {c_p0 : Nat} (h_p0 : RSl 2 R_qJ I a_p0 c_p0 p0) (hS : St E w I Os) {r : (List (By8 × Int))} (G : why_far p0 p1 = some r) :
    Calls P 41 #[(Sl a_p0 p0 c_p0), (.string p1)] w (fun e w' => ∃ (I' : Mem) (rm0 : Nat) (rC0 : Mem), e = .returned (.map (some rm0)) ∧ I.Le I' ∧ St E w' I' (rC0 :: Os) ∧ OwnMap Value.string (val1 (RInt .i64)) I' rC0 rm0 r) := by
 refine calls_W (fn := Tryz.f41) rfl rfl rfl ?_
 unfold why_far at G
 refine ye [0] (yab 0 4 (.map none) (y6 nL2 (ybj hS z kr z (.map #[] 0) (fun b => .map (some b)) kr tv ?_)))
 intro b1 w4 S3
 refine yab 1 5 (.map (some b1)) (yb (W.seq (ye nL9 (ya 0 2 z ?_))))
 obtain ⟨⟨r10, r11⟩, Xr5, G⟩ := bsm G
 refine yaj (member_Find_ok h_p0 S3 Xr5) ?_
 rintro _ w6 ⟨I7, w_r10, rfl, L8, S9, h_r10⟩
 refine cv (ya 3 3 z (y4 S9 (cs_qJ z_qJ zw_qJ) 74 z fun b12 w15 S14 => y7 S14 0 (cs_qJ r10 w_r10) fun w17 S16 => ya 8 1 z (y6 nL2 (ya 0 2 z (yb (y0 G (fun H G => ?_) (fun H G => ?_)))))))
 exact ye nL2 (WO.vs 0 [(28, .map (some b1)), (4, .map (some b1))] (yb (yr (yg (sj G ▸ yx ⟨I7, b1, Gv.one b1 (.map #[] 0), rfl, L8, S16.drop, (OwnMap.mono (OwnMap.nil (enc := Value.string) (val := (val1 (RInt .i64))) (I := I) (m := b1)) L8)⟩)))))
 refine yk (yc (ye nL3 (yab 0 29 (.map (some b1)) (ya 1 1 z (WO.update (OwnMap.mono (OwnMap.nil (enc := Value.string) (val := (val1 (RInt .i64))) (I := I) (m := b1)) L8) S16.front1 (t := 88) (kt := 9) (et := 3) kr (keyLaw_str (kt := 9) kr) z kr z (.inl z) z p1 z z (xv := 0) z tv ?_)))))
 intro w22 C20 S21 hm23
 refine yb (W.seq (ye [0] (ya 0 1 z (yb (yn (bsk G fun t24 hloop29 G => W.wk (ya6 hloop29 (fun (s : Bool × (List (By8 × Int))) fr w => match s with | (s27, s28) => ∃ I25 C_s28, fr = [(0, Sl a_p0 p0 c_p0), (5, .map (some b1)), (8, .bool s27)] ∧ I7.Le I25 ∧ St E w I25 ((C_s28) :: Os) ∧ OwnMap Value.string (val1 (RInt .i64)) I25 C_s28 b1 s28) ⟨I7, C20, rfl, lr, S21.front1.drop, hm23⟩ ?_)))))))
 rintro ⟨s27, s28⟩ _ w32 ⟨I25, C_s28, rfl, L26, S33, h_s28⟩ x34 R1 hext24
 refine W.seq (ye [0] (ya 0 1 z (yb (y0 R1 (fun H R1 => ?_) (fun H R1 => ?_)))))
 refine yk (yc (yn (ye [0] (ya 0 1 z (y6 nL3 (ya 0 3 z (yb (yn ?_))))))))
 obtain ⟨⟨s38, s39⟩, hloop41, R1⟩ := bsm R1
 have hlt45 := ((RSl.mono h_p0 (L8.trans L26))).len_lt
 refine W.wk (yau (m := p0.length) hloop41 (fun (i40 : Nat) (s : Bool × (List (By8 × Int))) fr w => match s with | (s38, s39) => ∃ I36 C_s39, fr = [(0, Sl a_p0 p0 c_p0), (5, .map (some b1)), (8, .bool s38), (32, Sl a_p0 p0 c_p0), (33, Nv p0.length), (34, Nv i40)] ∧ I25.Le I36 ∧ St E w I36 ((C_s39) :: Os) ∧ OwnMap Value.string (val1 (RInt .i64)) I36 C_s39 b1 s39) ⟨I25, C_s28, rfl, lr, S33, h_s28⟩ ?_ ?_)
 rintro i40 ⟨s38, s39⟩ _ w42 hi46 ⟨I36, C_s39, rfl, L37, S43, h_s39⟩ x44 R2
 refine ye [0] (ya 0 1 z (yb (W.seq (yas fun _ => yk (yc (W.seq (yn (ye nL4 ?_))))))))
 obtain ⟨x47, R2, Hx47, _, ⟨w_x47, rfl, h_x47⟩, Zx47⟩ := sx I36 h_p0 R2
 refine yaa 74 2 Hx47 z (yav ((cs_qJ x47 w_x47)) Zx47 0 S43.rm z (y4 S43 (cs_qJ z_qJ zw_qJ) 74 z fun b48 w51 S50 => y7 S50 0 (cs_qJ x47 w_x47) fun w53 S52 => y6 nL10 (yf 0 2 [0] z (yi (S52.rf m0) z ?_))))
 obtain ⟨⟨r59, r60⟩, Xr54, R2⟩ := bsm R2
 refine yaj (member_Find_ok (up h_p0) S52 Xr54) ?_
 rintro _ w55 ⟨I56, w_r59, rfl, L57, S58, h_r59⟩
 refine cv (ya 4 3 z (y4 S58 (cs_qJ z_qJ zw_qJ) 74 z fun b61 w65 S63 => y7 S63 0 (cs_qJ r59 w_r59) fun w67 S66 => ya 9 1 z (y6 nL4 (yf 0 1 [1] z (yi (S66.rf m0) z (ya 2 2 z (yb (yn ?_))))))))
 obtain ⟨⟨s71, s72⟩, hloop74, R2⟩ := bsm R2
 have hlt80 := (h_r59.In).len_lt
 refine W.wk (yau (m := r59.In.length) hloop74 (fun (i73 : Nat) (s : Bool × (List (By8 × Int))) fr w => match s with | (s71, s72) => ∃ I69 C_s72, fr = [(0, Sl a_p0 p0 c_p0), (5, .map (some b1)), (8, .bool s71), (10, Pt b48 0), (32, Sl a_p0 p0 c_p0), (33, Nv p0.length), (34, Nv i40), (46, Sl w_r59.In.a r59.In w_r59.In.c), (47, Nv r59.In.length), (48, Nv i73)] ∧ I56.Le I69 ∧ St E w I69 ((C_s72) :: (bJ b48 x47 w_x47) :: Os) ∧ OwnMap Value.string (val1 (RInt .i64)) I69 C_s72 b1 s72) ⟨I56, C_s39, rfl, lr, S66.drop.front1, (OwnMap.mono h_s39 L57)⟩ ?_ ?_)
 rintro i73 ⟨s71, s72⟩ _ w77 hi81 ⟨I69, C_s72, rfl, L70, S78, h_s72⟩ x79 R3
 refine ye [0] (ya 0 1 z (yb (W.seq (yas fun _ => yk (yc (W.seq (yn (ye nL3 ?_))))))))
 obtain ⟨x82, R3, Hx82, _, rfl, Zx82⟩ := sx I69 h_r59.In R3
 refine yaa 9 1 Hx82 z (yao Zx82 S78.rm z (ya 2 1 z (y6 nL8 (yab 0 53 (.map (some b1)) (ya 1 1 z ?_)))))
 obtain ⟨x83, Xx83, R3⟩ := bsm R3
 obtain ⟨v_x83, hv_x83, hq_x83⟩ := OwnMap.lookup h_s72 (t := 88) (kt := 9) (et := 3) kr (keyLaw_str (kt := 9) kr) x82 (zv := (Iv 0)) (z0 := 0) kr rfl
 rw [sj Xx83] at hv_x83
 obtain rfl := (List.cons.inj hv_x83).1
 refine WO.lookup z kr z z hq_x83 ((S78.rf m0)) (.tuple #[(Iv x83), (.bool (mhas sEq s72 x82))]) z ?_
 refine ya 3 5 z (y6 nL9 (yab 0 59 (.map (some b1)) (yf 1 1 [0] z (yi (S78.rf m1) z ?_))))
 obtain ⟨x84, Xx84, R3⟩ := bsm R3
 obtain ⟨v_x84, hv_x84, hq_x84⟩ := OwnMap.lookup h_s72 (t := 88) (kt := 9) (et := 3) kr (keyLaw_str (kt := 9) kr) x47.Name (zv := (Iv 0)) (z0 := 0) kr rfl
 rw [sj Xx84] at hv_x84
 obtain rfl := (List.cons.inj hv_x84).1
 refine WO.lookup z kr z z hq_x84 ((S78.rf m0)) (.tuple #[(Iv x84), (.bool (mhas sEq s72 x47.Name))]) z ?_
 refine ya 4 5 z (y6 nL11 (ya 0 2 z (bsq R3 fun q87 Xq87 R3 => yar [2, 3, 4, 5, 6, 7, 8, 9] 10 66 75 Xq87 (fun _ => ya 2 3 z (ya1 [5, 6, 7, 8] 9 69 74 (.refl ((!(mhas sEq s72 x47.Name)) || (decide ((w64 (x83 + 1)) < x84)))) (fun _ => ya 5 5 z yai) (ya 10 1 z yai))) (yb (bsk R3 fun j92 R4 R3 => yaz (J := (fun fr w => ∃ (s100 : Bool) (s101 : List (By8 × Int)), ∃ I94 C_s101, (s100, s101) = j92 ∧ fr = [(0, Sl a_p0 p0 c_p0), (5, .map (some b1)), (8, .bool s100), (10, Pt b48 0), (32, Sl a_p0 p0 c_p0), (33, Nv p0.length), (34, Nv i40), (46, Sl w_r59.In.a r59.In w_r59.In.c), (47, Nv r59.In.length), (48, Nv i73)] ∧ I69.Le I94 ∧ St E w I94 ((C_s101) :: (bJ b48 x47 w_x47) :: Os) ∧ OwnMap Value.string (val1 (RInt .i64)) I94 C_s101 b1 s101)) ?_ ?_)))))
 refine y0 R4 (fun H R4 => ?_) (fun H R4 => ?_)
 refine ye nL6 (yab 0 76 (.map (some b1)) (yf 1 1 [0] z (yi (S78.rf m1) z (ya 3 2 z (WO.update h_s72 S78 (t := 88) (kt := 9) (et := 3) kr (keyLaw_str (kt := 9) kr) z kr z (.inl z) z x47.Name z z (xv := (w64 (x83 + 1))) z tv ?_)))))
 intro w98 C96 S97 hm99
 exact yb (yag [0] (ya 0 1 z (yq (yv ⟨true, (mset sEq s72 x47.Name (w64 (x83 + 1))), I69, C96, sj R4, rfl, lr, S97, hm99⟩))))
 exact yk (yv ⟨s71, s72, I69, C_s72, sj R4, rfl, lr, S78, h_s72⟩)
 rintro _ w102 ⟨s100, s101, I94, C_s101, rfl, rfl, L95, S103, h_s101⟩
 exact yl (yc (yag nL2 (yan i73 z (ya 1 1 z (yq (sj R3 ▸ yv ⟨I94, C_s101, rfl, le, S103, h_s101⟩))))))
 rintro _ w104 ⟨I69, C_s72, rfl, L70, S105, h_s72⟩
 exact ye [0] (ya 0 1 z (yb (W.seq (yat fun _ => y8 (yo (yp (yt (yl (yc (yag nL2 (yan i40 z (ya 1 1 z (yq (sj R2 ▸ yv ⟨I69, C_s72, rfl, le, S105.front1.drop, h_s72⟩))))))))))))))
 rintro _ w108 ⟨I36, C_s39, rfl, L37, S109, h_s39⟩
 exact ye [0] (ya 0 1 z (yb (W.seq (yat fun _ => y8 (yo (yp (yt (yl (yv ⟨(s38, s39), (sj R1).symm, I36, C_s39, rfl, le, S109, h_s39⟩)))))))))
 refine y8 (yo (yp ?_))
 obtain rfl := hext24 _ (sj R1).symm
 exact yt (yc (ye nL2 (WO.vs 0 [(83, .map (some b1)), (4, .map (some b1))] (yb (yr (sj G ▸ yx ⟨I25, b1, C_s28, rfl, le, S33, h_s28⟩))))))
def wayNext (l : List qJ) (dist : List (By8 × Int)) (nm : By8) : Option By8 := (member_Find l nm).bind (fun (r : qJ × Bool) => (forE (fun (i : Nat) (v : By8 × Bool) => match v with | (nx, fd) => (idx r.1.In (i : Int)).bind (fun x => (some ((mhas sEq dist x && ((mget sEq dist x).getD 0 == w64 ((mget sEq dist nm).getD 0 - 1))) && (!fd || sLt x nx))).bind (fun (q : Bool) => (bif q then some (x, true) else some (nx, fd)).bind (fun (v' : By8 × Bool) => some v')))) r.1.In.length 0 (eB, false)).bind (fun (v : By8 × Bool) => some v.1))
def wayStep {σ : Type} (l : List qJ) (dist : List (By8 × Int)) (y : σ → By8 → Option σ) (u : By8 × σ) : Option ((By8 × σ) ⊕ σ) :=
  match u with
  | (nm, s) => (y s nm).bind (fun s' => (bif decide ((mget sEq dist nm).getD 0 > 0) then (wayNext l dist nm).bind (fun nx => some (.inl (nx, s'))) else some (.inr s')))
set_option maxHeartbeats 2000000 in
theorem way1_ok {σ : Type} {R : Mem → σ → List Mem → Prop} {y : σ → By8 → Option σ} {E w : World} {I : Mem} {Os Ms : List Mem} {l : Nat} {p0 : List qJ} {dist : List (By8 × Int)} {name : By8} {s : σ} {a_p0 : Option Addr} {c_p0 m k1 k2 k3 : Nat} {Cm : Mem}
    (mono : ∀ {I J : Mem} {s : σ} {Ms : List Mem}, R I s Ms → I.Le J → R J s Ms) (h_p0 : RSl 2 R_qJ I a_p0 c_p0 p0) (h_m : OwnMap Value.string (val1 (RInt .i64)) I Cm m dist)
    (h_y : ∀ {F Ms : List Mem} {I' : Mem} {w : World} {n : By8} {s : σ}, I.Le I' → R I' s Ms → St E w I' (F ++ (Ms ++ Os)) → ∀ {r : σ}, y s n = some r → YieldAt Fence.wide 0 P l #[.string n] w (fun e w' => e = .returned (.bool true) ∧ ∃ I'' Ms', I'.Le I'' ∧ R I'' r Ms' ∧ St E w' I'' (F ++ (Ms' ++ Os))))
    (hs : R I s Ms) (hS : St E w I (Bx k1 [.string name] 9 :: Bx k2 [.map (some m)] 88 :: Bx k3 [Sl a_p0 p0 c_p0] 31 :: Cm :: (Ms ++ Os))) {r : σ} (G : loopO (wayStep p0 dist y) (name, s) = some r) :
    Calls P 62 #[.func (.yield l) #[] #[], Pt k1 0, Pt k2 0, Pt k3 0] w (fun e w' => (∃ v, e = .returned v) ∧ ∃ I' Ms', I.Le I' ∧ R I' r Ms' ∧ St E w' I' (Ms' ++ Os)) := by
 refine calls_W (fn := Tryz.f62) rfl rfl rfl ?_
 refine yn (W.wk (ya6 G (fun (u : By8 × σ) fr w => match u with | (nm, s) => ∃ I1 Ms1, fr = [(0, .func (.yield l) #[] #[]), (1, Pt k1 0), (2, Pt k2 0), (3, Pt k3 0)] ∧ I.Le I1 ∧ R I1 s Ms1 ∧ St E w I1 (Bx k1 [.string nm] 9 :: Bx k2 [.map (some m)] 88 :: Bx k3 [Sl a_p0 p0 c_p0] 31 :: Cm :: (Ms1 ++ Os))) ⟨I, Ms, rfl, lr, hs, hS⟩ ?_))
 rintro ⟨nm, s⟩ _ w1 ⟨I1, Ms1, rfl, L1, hs1, S1⟩ x R1 hext
 unfold wayStep at R1
 obtain ⟨s', hy, R1⟩ := bsm R1
 refine W.seq (W.seq (W.regionY (nL2 ++ [2, 3, 4, 5, 6, 7, 8]) (WY.of nL2 (ya 0 1 z (yi (S1.rf m0) z (WY.go (WY.yield (h_y (F := [Bx k1 [.string nm] 9, Bx k2 [.map (some m)] 88, Bx k3 [Sl a_p0 p0 c_p0] 31, Cm]) L1 hs1 S1 hy) ?_)))))))
 rintro _ w2 ⟨rfl, I2, Ms2, L2, hs2, S2⟩
 have S2 : St E w2 I2 (Bx k1 [.string nm] 9 :: Bx k2 [.map (some m)] 88 :: Bx k3 [Sl a_p0 p0 c_p0] 31 :: Cm :: (Ms2 ++ Os)) := S2
 refine ⟨_, rfl, WY.end' _ ?_⟩
 obtain ⟨v1, hv1, hq1⟩ := OwnMap.lookup (h_m.mono (L1.trans L2)) (t := 88) (kt := 9) (et := 3) kr (keyLaw_str (kt := 9) kr) nm (zv := (Iv 0)) (z0 := 0) kr rfl
 obtain ⟨x19, hx19⟩ : ∃ x : Int, (mget sEq dist nm).getD 0 = x := ⟨_, rfl⟩
 rw [hx19] at hv1 R1
 obtain rfl := (List.cons.inj hv1).1
 refine ya 3 1 z (yi (S2.rf m1) z (yi (S2.rf m0) z (WO.lookup z kr z z hq1 (S2.rf m3) (Iv x19) z (ya 7 2 z (yb (y0 R1 (fun H R1 => ?_) (fun H R1 => ?_)))))))
 refine yk (yc (yn ?_))
 obtain ⟨nx1, hn, R1⟩ := bsm R1
 unfold wayNext at hn
 obtain ⟨⟨r10, r11⟩, Xr, hn⟩ := bsm hn
 obtain ⟨⟨nx2, fd2⟩, hloop, hn⟩ := bsm hn
 refine ye nL9 (yi (S2.rf m2) z (yi (S2.rf m0) z (yaj (member_Find_ok (up h_p0) S2 Xr) ?_)))
 rintro _ w6 ⟨I7, w_r10, rfl, L8, S9, h_r10⟩
 refine cv (ya 3 3 z (y4 S9 (cs_qJ z_qJ zw_qJ) 74 z fun b12 w15 S14 => y7 S14 0 (cs_qJ r10 w_r10) fun w17 S16 => ya 8 1 z (y6 nL2 (ya 0 2 z (yb (W.seq (ye nL4 (yf 0 1 [1] z (yi (S16.rf m0) z (ya 2 2 z (yb (yn ?_))))))))))))
 have hlt := (h_r10.In).len_lt
 refine W.wk (yau (m := r10.In.length) hloop (fun (i : Nat) (v : By8 × Bool) fr w => match v with | (nx, fd) => ∃ I8, fr = [(0, .func (.yield l) #[] #[]), (1, Pt k1 0), (2, Pt k2 0), (3, Pt k3 0), (7, .string nx), (8, .bool fd), (29, Sl w_r10.In.a r10.In w_r10.In.c), (30, Nv r10.In.length), (31, Nv i)] ∧ I7.Le I8 ∧ St E w I8 (Bx k1 [.string nm] 9 :: Bx k2 [.map (some m)] 88 :: Bx k3 [Sl a_p0 p0 c_p0] 31 :: Cm :: (Ms2 ++ Os))) ⟨I7, rfl, lr, S16.drop⟩ ?_ ?_)
 rintro i ⟨nx, fd⟩ _ w20 hi ⟨I8, rfl, L9, S20⟩ x20 R2
 refine ye [0] (ya 0 1 z (yb (W.seq (yas fun _ => yk (yc (W.seq (yn (ye nL3 ?_))))))))
 obtain ⟨x, R2, Hx, _, rfl, Zx⟩ := sx I8 h_r10.In R2
 refine yaa 9 1 Hx z (yao Zx S20.rm z (ya 2 1 z (y6 nL8 (yi (S20.rf m1) z (ya 1 1 z ?_)))))
 obtain ⟨v2, hv2, hq2⟩ := OwnMap.lookup (h_m.mono ((L1.trans L2).trans (L8.trans L9))) (t := 88) (kt := 9) (et := 3) kr (keyLaw_str (kt := 9) kr) x (zv := (Iv 0)) (z0 := 0) kr rfl
 obtain ⟨x38, hx38⟩ : ∃ y : Int, (mget sEq dist x).getD 0 = y := ⟨_, rfl⟩
 rw [hx38] at hv2 R2
 obtain rfl := (List.cons.inj hv2).1
 obtain ⟨v3, hv3, hq3⟩ := OwnMap.lookup (h_m.mono ((L1.trans L2).trans (L8.trans L9))) (t := 88) (kt := 9) (et := 3) kr (keyLaw_str (kt := 9) kr) nm (zv := (Iv 0)) (z0 := 0) kr rfl
 rw [hx19] at hv3 R2
 obtain rfl := (List.cons.inj hv3).1
 refine WO.lookup z kr z z hq2 (S20.rf m3) (.tuple #[(Iv x38), (.bool (mhas sEq dist x))]) z ?_
 obtain ⟨q1, hq1'⟩ : ∃ q, (mhas sEq dist x && (x38 == w64 (x19 - 1))) = q := ⟨_, rfl⟩
 rw [hq1'] at R2
 refine ya 3 5 z (y6 nL18 (ya 0 2 z (bsq R2 fun q Xq R2 => yar [2, 3, 4, 5, 6, 7] 8 42 49 hq1' (fun _ => ya 2 1 z (yi (S20.rf m1) z (yi (S20.rf m0) z (WO.lookup z kr z z hq3 (S20.rf m3) (Iv x19) z (ya 6 3 z yai)))))
  (ya 9 1 rfl (yar [10, 11, 12, 13, 14, 15, 16] 17 50 58 Xq (fun _ => ya 10 3 rfl (ya1 [13, 14, 15] 16 53 57 (.refl (!fd || sLt x nx)) (fun _ => ya 13 2 rfl (yab 15 56 (.bool (sLt x nx)) (ya 16 1 rfl yai))) (ya 17 1 rfl yai))) (yb ?_))))))
 obtain ⟨⟨nx', fd'⟩, R3, R2⟩ := bsm R2
 refine yaz (J := (fun fr w => fr = [(0, .func (.yield l) #[] #[]), (1, Pt k1 0), (2, Pt k2 0), (3, Pt k3 0), (7, .string nx'), (8, .bool fd'), (29, Sl w_r10.In.a r10.In w_r10.In.c), (30, Nv r10.In.length), (31, Nv i)] ∧ St E w I8 (Bx k1 [.string nm] 9 :: Bx k2 [.map (some m)] 88 :: Bx k3 [Sl a_p0 p0 c_p0] 31 :: Cm :: (Ms2 ++ Os)))) ?_ ?_
 refine y0 R3 (fun H R3 => ?_) (fun H R3 => ?_)
 cases sj R3
 exact yag nL3 (ya 0 3 z (yq (yv ⟨rfl, S20⟩)))
 cases sj R3
 exact yk (yv ⟨rfl, S20⟩)
 rintro _ w22 ⟨rfl, S22⟩
 exact yl (yc (yag nL2 (yan i z (ya 1 1 z (yq (sj R2 ▸ yv ⟨I8, rfl, L9, S22⟩))))))
 rintro _ w20 ⟨I8, rfl, L9, S20⟩
 refine ye [0] (ya 0 1 z (yb (W.seq (yat fun _ => y8 (yo (yp (yt (yc (yag nL2 (ya 0 1 z (y7 S20 0 [.string nx2] fun w23 S23 => yq ?_)))))))))))
 obtain rfl := sj hn
 exact yl (yv ⟨(nx2, s'), (sj R1).symm, I8, Ms2, rfl, le, mono hs2 le, S23⟩)
 refine y8 (yo (yp (yt (En.end0 z ?_))))
 obtain rfl := hext _ (sj R1).symm
 exact ⟨⟨_, rfl⟩, I2, Ms2, le, hs2, S2.d4⟩
theorem perm_in {A B Os : List Mem} {x : Mem} : (A ++ (B ++ (x :: Os))).Perm (x :: (B ++ (A ++ Os))) := by
  rw [← List.append_assoc, ← List.append_assoc]
  exact List.perm_middle.trans (List.Perm.cons _ (List.perm_append_comm.append_right Os))
theorem way_ok {p0 : List qJ} {a_p0 : Option Addr} {c_p0 m : Nat} {name : By8} (hS : St E w I Os) :
    Calls P 42 #[Sl a_p0 p0 c_p0, .map (some m), .string name] w (fun e w' => ∃ k1 k2 k3, e = .returned (.func (.func 62) #[] #[Pt k1 0, Pt k2 0, Pt k3 0]) ∧ St E w' I (Bx k1 [.string name] 9 :: Bx k2 [.map (some m)] 88 :: Bx k3 [Sl a_p0 p0 c_p0] 31 :: Os)) := by
 refine calls_W (fn := Tryz.f42) rfl rfl rfl ?_
 refine ye nL4 (y4 hS [Sl a_p0 p0 c_p0] 31 z fun k3 w3 S3 => y4 S3 [.map (some m)] 88 z fun k2 w2 S2 => y4 S2 [.string name] 9 z fun k1 w1 S1 => yab 3 6 .nilFunc (y6 nL2 (yab 0 7 (.func (.func 62) #[] #[Pt k1 0, Pt k2 0, Pt k3 0]) (yab 1 6 (.func (.func 62) #[] #[Pt k1 0, Pt k2 0, Pt k3 0]) (yb (yr (yx ⟨k1, k2, k3, rfl, S1⟩)))))))
def ROw (kb : Nat) (I : Mem) (s : List By8) (Ms : List Mem) : Prop := ∃ a c C, Ms = [Bx kb [.slice a s.length c] 41, C] ∧ OwnSl 9 1 RStr I C a c s
theorem ROw.mono {kb : Nat} {I J : Mem} {s : List By8} {Ms : List Mem} (h : ROw kb I s Ms) (hl : I.Le J) : ROw kb J s Ms := by
  obtain ⟨a, c, C, e, ho⟩ := h
  exact ⟨a, c, C, e, ho.mono hl⟩
noncomputable def why_Path (p0 : List qJ) (p1 p2 : By8) : Option (List By8) := (why_far p0 p2).bind (fun dist => bif !(mhas sEq dist p1) then some [] else loopO (wayStep p0 dist (fun (s : List By8) (n : By8) => app 16 s [n])) (p1, []))
set_option maxHeartbeats 2000000 in
theorem why_Path_ok {p0 : List qJ} {p1 p2 : By8} {a_p0 : Option Addr} {c_p0 : Nat} (h_p0 : RSl 2 R_qJ I a_p0 c_p0 p0) (hS : St E w I Os) {r : List By8} (G : why_Path p0 p1 p2 = some r) :
    Calls P 19 #[Sl a_p0 p0 c_p0, .string p1, .string p2] w (fun e w' => ∃ (I' : Mem) (ra0 : Option Addr) (rc0 : Nat), e = .returned (Sl ra0 r rc0) ∧ I.Le I' ∧ St E w' I' Os ∧ RSl 1 RStr I' ra0 rc0 r) := by
 refine calls_WM (fn := Tryz.f19) rfl rfl rfl ?_
 unfold why_Path at G
 refine bsk G fun dist hx G => ye [0] (yab 0 6 (.slice none 0 0) (y6 nL4 (ya 0 2 z (yaj (why_far_ok h_p0 hS hx) ?_))))
 rintro _ w2 ⟨I2, m, Cm, rfl, L2, S2, h_m⟩
 refine cv (yab 3 7 (.map (some m)) (yb (W.seq (ye nL8 (yab 0 16 (.map (some m)) (ya 1 1 z ?_))))))
 obtain ⟨v1, hv1, hq1⟩ := OwnMap.lookup h_m (t := 88) (kt := 9) (et := 3) kr (keyLaw_str (kt := 9) kr) p1 (zv := (Iv 0)) (z0 := 0) kr rfl
 obtain ⟨x1, hx1⟩ : ∃ x : Int, (mget sEq dist p1).getD 0 = x := ⟨_, rfl⟩
 rw [hx1] at hv1
 obtain rfl := (List.cons.inj hv1).1
 refine WO.lookup z kr z z hq1 (S2.rf m0) (.tuple #[(Iv x1), (.bool (mhas sEq dist p1))]) z (ya 3 5 z (y6 nL2 (ya 0 2 z (yb (y0 G (fun H G => ?_) (fun H G => ?_))))))
 exact sj G ▸ ye [0] (yab 0 6 (.slice none 0 0) (yb (yr (yg (markRet0 ⟨I2, none, 0, rfl, L2, S2.drop, SlAt.nil⟩)))))
 refine yk (yc (ye [0] (y4 S2 [.slice none 0 0] 41 z fun b10 w5 S5 => yb (W.seq (ye nL4 (ya 0 1 z (yab 1 24 (.map (some m)) (ya 2 1 z (yaj (way_ok (p0 := p0) (a_p0 := a_p0) (c_p0 := c_p0) (m := m) (name := p1) S5) ?_)))))))))
 rintro _ w6 ⟨k1, k2, k3, rfl, S6⟩
 refine cv (yb (yn ?_))
 refine W.wk (fr' := [(10, Pt b10 0), (26, .func (.func 62) #[] #[Pt k1 0, Pt k2 0, Pt k3 0])]) (W.rangeF (gf := 62) (lb := [Pt k1 0, Pt k2 0, Pt k3 0]) (Φ := fun I3 Os3 => ∃ a c C, Os3 = Bx b10 [.slice a r.length c] 41 :: C :: Os ∧ OwnSl 9 1 RStr I3 C a c r ∧ I2.Le I3) S6.no (fun _ _ => by kernel_rfl) ?_ ?_)
 intro l D rec w1 hst hpe hag hp has hbo S1
 have S1' : St E w1 I2 (Bx k1 [.string p1] 9 :: Bx k2 [.map (some m)] 88 :: Bx k3 [Sl a_p0 p0 c_p0] 31 :: Cm :: ([Bx b10 [.slice none 0 0] 41, Mem.no] ++ (Gv.one l (.loop rec) :: Gv.one D (.deferred (some [])) :: Os))) := S1.front2.front6.front7.front7.front7.front7
 refine (way1_ok (R := ROw b10) ROw.mono (RSl.mono h_p0 L2) h_m ?_ ⟨none, 0, Mem.no, rfl, OwnSl.nil⟩ S1' G).mono ?_
 intro F Ms I' w' n s hl' hs' hSy r' hy
 obtain ⟨a, c, C, rfl, ho⟩ := hs'
 have hSr := hSy.perm perm_in
 refine ((roundW (fr1 := [(10, Pt b10 0), (11, .string n)]) (Φ := fun I3 Os3 => ∃ Ms', Os3 = Ms' ++ (F ++ (Gv.one D (.deferred (some [])) :: Os)) ∧ I'.Le I3 ∧ ROw b10 I3 r' Ms') hSr hst hpe hag hp (by decide) ?_ ?_)).mono ?_
 rw [has]
 exact WI.region [0] (ya 0 1 z (WO.weaken (yq fun a ha => ⟨rfl, rfl, ha⟩) (Sub.cons z (Sub.cons z Sub.nil))))
 intro w2' S2'
 have S3' : St E w2' I' (Gv.one l (.loop { rec with state := .busy }) :: Bx b10 [.slice a s.length c] 41 :: C :: (F ++ (Gv.one D (.deferred (some [])) :: Os))) := S2'
 refine (show ∀ {c : Code} {Q fr w}, rec.body = c → WI l P Tryz.f19.ntmps c Q fr w → WI l P Tryz.f19.ntmps rec.body Q fr w from fun e h => by rw [e]; exact h) hbo (WI.block (WI.region nL5 (yi (S3'.rf m1) z (ya 1 1 z (yac (rel := RStr) (xs := ([n] : List By8)) S3' rfl kr z 9 1 [[(.string n)]] kr z ((Elr.cons z Elr.nil)) tv ?_)))))
 intro a6 C6 w6' S6' ho6
 have S7 := S6'.front3
 refine yay 9 16 [(.string eB)] S7 ho ho6.sl (S7.rd m1) (app_some hy).1 (app_some hy).2 z fun a9 c9 w9 C9 S9 ho9 => ?_
 refine y7 S9.front3 0 [.slice a9 r'.length c9] fun w11 S11 => ?_
 exact yq (yl (fun b hb => ⟨rfl, I', _, ⟨[Bx b10 [.slice a9 r'.length c9] 41, C9], rfl, lr, a9, c9, C9, rfl, ho9⟩, S11.front3.front3.drop⟩))
 rintro e w4 ⟨he, I3, Os3, ⟨Ms', rfl, L3, hR⟩, S4⟩
 exact ⟨he, I3, Ms', L3, hR, S4.perm perm_in.symm⟩
 rintro e w' ⟨hv, I', Ms', hl', ⟨a, c, C, rfl, ho⟩, hS'⟩
 have S2' : St E w' I' (Bx b10 [.slice a r.length c] 41 :: C :: Gv.one l (.loop rec) :: Gv.one D (.deferred (some [])) :: Os) := hS'
 exact ⟨hv, I', _, ⟨a, c, C, rfl, ho, hl'⟩, S2'.front3.front3⟩
 rintro D a w3 I3 Os3 hd hag ⟨a', c', C', rfl, ho, L3⟩ S3
 show (Code.seq (.region _ _ false) .ret).wp P _ a w3
 refine region_ret nL2 (Q' := fun e b w' => e = .normal ∧ Ag Tryz.f19.ntmps [(6, Sl a' r c')] b ∧ w' = w3) (yi (S3.rf m1) z (ya 1 1 z (WO.weaken (yq fun b hb => ⟨rfl, hb, rfl⟩) (Sub.cons z Sub.nil)))) ?_ kr a hd hag
 rintro b w' ⟨_, hb, rfl⟩ b' hd' ht'
 have hb' : Ag Tryz.f19.ntmps [(6, Sl a' r c')] { b' with defers := [] } := ⟨rfl, by show b'.tmps.size = _; rw [ht']; exact hb.size, fun i v hi => by show b'.tmps.getD i undef = v; rw [ht']; exact hb.slots i v hi⟩
 refine markRet hd' hb' S3 (fun w4 S4 => ?_)
 obtain ⟨I5, L5, S5', hp5⟩ := yad ho S4.drop
 exact ⟨I5, a', c', rfl, (L2.trans L3).trans L5, S5', hp5⟩
noncomputable def why_Check (p0 : qC) (p1 : By8) (p2 : Int) (p3 : By8) (p4 : List qG) : Option Bool := (forN (fun (i15 : Nat) (s14 : By8) => (idx p4 (i15 : Int)).bind (fun x23 => (why_asked_fits (⟨p0, p2, p3⟩ : why_asked) x23 (decide ((i15 : Int) > 0))).bind (fun r36 => ((bif (!r36) then some true else (member_Is p0.Roles s14 x23.To).bind (fun r48 => some (!r48)))).bind (fun (j37 : Bool) => (bif j37 then some (.inr false) else some (.inl x23.By)))))) p4.length 0 p1).bind (fun (t : By8 ⊕ (Bool)) => match t with | .inl s14 => (why_asked_owns (⟨p0, p2, p3⟩ : why_asked) s14).bind (fun r70 => some r70) | .inr s54 => some s54)
theorem why_Check_ok {p0 : qC} {p1 : By8} {p2 : Int} {p3 : By8} {p4 : List qG} {w_p0 : W_qC} {a_p4 : Option Addr} {c_p4 : Nat} (h_p0 : ok_qC I p0 w_p0) (h_p4 : RSl 5 R_qG I a_p4 c_p4 p4) (hS : St E w I Os) {r : Bool} (G : why_Check p0 p1 p2 p3 p4 = some r) :
    Calls P 13 #[(vC p0 w_p0), (.string p1), (Iv p2), (.string p3), (Sl a_p4 p4 c_p4)] w (RT E I Os (.bool r)) := by
 refine calls_W (fn := Tryz.f13) rfl rfl rfl ?_
 unfold why_Check at G
 refine ye nL2 (y4 hS (cs_qC p0 w_p0) 33 z fun b1 w4 S3 => ya 1 1 z (y6 nL6 (y3 ((cs_qC p0 w_p0)) (S3.rf m0) z (ya 1 2 z (yab 3 17 (.agg (cs_why_asked (⟨p0, p2, p3⟩ : why_asked) (⟨w_p0⟩ : W_why_asked)).toArray) (y4 S3 (cs_why_asked z_why_asked zw_why_asked) 79 z fun b5 w8 S7 => y7 S7 0 (cs_why_asked (⟨p0, p2, p3⟩ : why_asked) (⟨w_p0⟩ : W_why_asked)) fun w10 S9 => yb (W.seq (ye nL3 (ya 0 3 z (yb (yn (bsk G fun t11 hloop16 G => have hlt21 := (h_p4).len_lt; W.wk (yaq (m := p4.length) hloop16 (fun (i15 : Nat) (s14 : By8) => JI E I [(1, .string s14), (5, Pt b1 0), (11, Pt b5 0), (18, Sl a_p4 p4 c_p4), (19, Nv p4.length), (20, Nv i15)] (bC b1 p0 w_p0 :: (Bx b5 (cs_why_asked (⟨p0, p2, p3⟩ : why_asked) (⟨w_p0⟩ : W_why_asked)) 79) :: Os)) ⟨I, rfl, lr, S9.front1⟩ ?_ ?_)))))))))))))
 rintro i15 s14 _ w18 hi22 ⟨I12, rfl, L13, S19⟩ x20 R1 hext11
 refine ye [0] (ya 0 1 z (yb (W.seq (yas fun _ => yk (yc (W.seq (yn (ye nL6 (ya 0 1 z ?_)))))))))
 obtain ⟨x23, R1, Hx23, _, rfl, Zx23⟩ := sx I12 h_p4 R1
 refine yaa 50 5 Hx23 z (yav ((cs_qG x23)) Zx23 0 S19.rm z (y4 S19 (cs_qG z_qG) 50 z fun b24 w27 S26 => ya 4 1 z (y7 S26 0 (cs_qG x23) fun w29 S28 => yb (W.seq (ye nL15 (y3 ((cs_why_asked (⟨p0, p2, p3⟩ : why_asked) (⟨w_p0⟩ : W_why_asked))) (S28.rf m2) z (y3 ((cs_qG x23)) (S28.rf m0) z (ya 2 2 z ?_))))))))
 have hk30 : ok_why_asked I12 (⟨p0, p2, p3⟩ : why_asked) (⟨w_p0⟩ : W_why_asked) := ⟨(h_p0.mono L13)⟩
 refine bsk R1 fun r36 Xr31 R1 => WO.c1 (why_asked_fits_ok hk30 S28 Xr31) z fun I33 w32 L34 S35 => ya 5 2 z (bsk R1 fun j37 R2 R1 => yam (l1 := [7, 8, 9, 10, 11, 12, 13, 14]) (J := JI E I33 [(5, Pt b1 0), (11, Pt b5 0), (13, Pt b24 0), (18, Sl a_p4 p4 c_p4), (19, Nv p4.length), (20, Nv i15), (39, .bool j37)] (bC b1 p0 w_p0 :: (Bx b5 (cs_why_asked (⟨p0, p2, p3⟩ : why_asked) (⟨w_p0⟩ : W_why_asked)) 79) :: (bG b24 x23) :: Os)) ?_ ?_)
 refine yal R2 (fun H R2 => ?_) (fun H R2 => ?_)
 refine yz 31 H ?_
 iterate 7 refine yak ?_
 exact ya 14 1 z (sj R2 ▸ yy ⟨I33, rfl, lr, S35.front2.front2⟩)
 exact yz 31 H (yf 7 1 [2] z (yi (S35.rf m1) z (yf 9 2 [0] z (yi (S35.rf m0) z (bsk R2 fun r48 Xr43 R2 => WO.c1 (member_Is_ok (up h_p0.Roles) S35 Xr43) z fun I45 w44 L46 S47 => ya 13 2 z (sj R2 ▸ yy ⟨I45, rfl, L46, S47.front2.front2⟩))))))
 rintro _ w51 ⟨I39, rfl, L40, S52⟩
 refine yb (y0 R1 (fun H R1 => ?_) (fun H R1 => ?_))
 refine ye [0] (ya 0 1 z (yb (yr (yg (ym (yg (yu ?_)))))))
 obtain rfl := hext11 _ (sj R1).symm
 exact ym (yg (sj G ▸ yx ⟨I39, rfl, le, S52.d3⟩))
 exact yk (yc (yag nL3 (yf 0 1 [1] z (yi (S52.rf m2) z (ya 2 1 z (yq (yl (yc (yag nL2 (yan i15 z (ya 1 1 z (yq (yv ⟨x23.By, (sj R1).symm, I39, rfl, le, S52.front2.drop⟩)))))))))))))
 rintro s14 _ w62 ⟨I12, rfl, L13, S63⟩ he
 cases he
 refine ye [0] (ya 0 1 z (yb (W.seq (yat fun _ => y8 (yo (yp (yt (yc (ye nL4 (y3 ((cs_why_asked (⟨p0, p2, p3⟩ : why_asked) (⟨w_p0⟩ : W_why_asked))) (S63.rf m1) z (ya 1 1 z ?_)))))))))))
 have hk64 : ok_why_asked I12 (⟨p0, p2, p3⟩ : why_asked) (⟨w_p0⟩ : W_why_asked) := ⟨(h_p0.mono L13)⟩
 exact bsk G fun r70 Xr65 G => WO.c1 (why_asked_owns_ok hk64 S63 Xr65) z fun I67 w66 L68 S69 => ya 3 1 z (yb (yr (sj G ▸ yx ⟨I67, rfl, le, S69.d2⟩)))
def law32_works_1 (p0 : By8) (p1 : By8) : Option law19_Act := some (⟨{ z_qS with Kind := 14, Table := (⟨#[116]⟩ : By8), Role := p1, Priv := 1, Option := true }, p0⟩ : law19_Act)
theorem law32_works_1_ok {p0 : By8} {p1 : By8} (hS : St E w I Os) {r : law19_Act} (G : law32_works_1 p0 p1 = some r) :
    Calls P 31 #[(.string p0), (.string p1)] w (fun e w' => ∃ I' w_rw0, e = .returned (.agg (cs_law19_Act r w_rw0).toArray) ∧ I.Le I' ∧ St E w' I' Os ∧ ok_law19_Act I' r w_rw0) := by
 refine calls_W (fn := Tryz.f31) rfl rfl rfl ?_
 unfold law32_works_1 at G
 refine ye [0] (y4 hS (cs_law19_Act z_law19_Act zw_law19_Act) 71 z fun b1 w4 S3 => y6 nL5 (ya 0 1 z (yab 1 6 (.agg (cs_qS ({ z_qS with Kind := 14, Table := (⟨#[116]⟩ : By8), Role := p1, Priv := 1, Option := true }) zw_qS).toArray) (ya 2 1 z (yab 3 8 (.agg (cs_law19_Act (⟨{ z_qS with Kind := 14, Table := (⟨#[116]⟩ : By8), Role := p1, Priv := 1, Option := true }, p0⟩ : law19_Act) (⟨zw_qS⟩ : W_law19_Act)).toArray) (y7 S3 0 (cs_law19_Act (⟨{ z_qS with Kind := 14, Table := (⟨#[116]⟩ : By8), Role := p1, Priv := 1, Option := true }, p0⟩ : law19_Act) (⟨zw_qS⟩ : W_law19_Act)) fun w6 S5 => yb (yr ?_)))))))
 have hk8 : ok_law19_Act I (⟨{ z_qS with Kind := 14, Table := (⟨#[116]⟩ : By8), Role := p1, Priv := 1, Option := true }, p0⟩ : law19_Act) (⟨zw_qS⟩ : W_law19_Act) := ⟨⟨SlAt.nil, SlAt.nil, SlAt.nil, SlAt.nil, zok_qS.Where, SlAt.nil, SlAt.nil, SlAt.nil⟩⟩
 exact sj G ▸ En.c1 _ (S5.rd m0) ⟨I, (⟨zw_qS⟩ : W_law19_Act), rfl, lr, S5.drop, hk8⟩
noncomputable def law32_works  : Option Bool := (law32_works_1 (⟨#[97, 110, 110]⟩ : By8) (⟨#[98, 111, 98]⟩ : By8)).bind (fun r6 => (law32_works_1 (⟨#[98, 111, 98]⟩ : By8) (⟨#[99, 121]⟩ : By8)).bind (fun r12 => (law19_Grown ([r6, r12] : List law19_Act)).bind (fun r29 => (why_Why r29 (⟨#[99, 121]⟩ : By8) 1 (⟨#[116]⟩ : By8)).bind (fun (r41, r42) => (why_Path ([(⟨(⟨#[97]⟩ : By8), ([(⟨#[98]⟩ : By8)] : List By8)⟩ : qJ), { z_qJ with Name := (⟨#[98]⟩ : By8) }] : List qJ) (⟨#[97]⟩ : By8) (⟨#[98]⟩ : By8)).bind (fun r72 => ((bif (r42 && ((r41.length : Int) == 2)) then (idx r41 0).bind (fun x79 => some (sEq x79.By (⟨#[98, 111, 98]⟩ : By8))) else some false)).bind (fun (j75 : Bool) => ((bif j75 then (idx r41 1).bind (fun x86 => some (sEq x86.By (⟨#[97, 110, 110]⟩ : By8))) else some false)).bind (fun (j82 : Bool) => ((bif j82 then (why_Check r29 (⟨#[99, 121]⟩ : By8) 1 (⟨#[116]⟩ : By8) r41).bind (fun r98 => some r98) else some false)).bind (fun (j89 : Bool) => some (j89 && ((r72.length : Int) == 2))))))))))
theorem law32_works_ok (hS : St E w I Os) {r : Bool} (G : law32_works = some r) :
    Calls P 11 #[] w (RT E I Os (.bool r)) := by
 refine calls_W (fn := Tryz.f11) rfl rfl rfl ?_
 unfold law32_works at G
 refine ye [0] (ya 0 1 z (y6 [0] (yab 0 1 (.func (.func 31) #[] #[]) (y6 nL8 (yab 0 6 (.func (.func 31) #[] #[]) (bsk G fun r6 Xr1 G => yaj (law32_works_1_ok  hS Xr1) ?_))))))
 rintro _ w2 ⟨I3, w_r6, rfl, L4, S5, h_r6⟩
 refine cv (yab 2 8 (.func (.func 31) #[] #[]) (bsk G fun r12 Xr7 G => yaj (law32_works_1_ok  S5 Xr7) ?_))
 rintro _ w8 ⟨I9, w_r12, rfl, L10, S11, h_r12⟩
 refine cv (yac (rel := R_law19_Act) (xs := ([r6, r12] : List law19_Act)) S11 z kr z 71 22 [(cs_law19_Act r6 w_r6), (cs_law19_Act r12 w_r12)] kr z ((Elr.cons ⟨w_r6, rfl, (h_r6.mono L10)⟩ (Elr.cons ⟨w_r12, rfl, h_r12⟩ Elr.nil))) tv ?_)
 intro a16 C14 w18 S17 ho15
 obtain ⟨I20, L21, S23, hp22⟩ := yad ho15 S17
 refine bsk G fun r29 Xr24 G => yaj (law19_Grown_ok hp22 S23 Xr24) ?_
 rintro _ w25 ⟨I26, w_r29, rfl, L27, S28, h_r29⟩
 refine cv (y4 S28 (cs_qC z_qC zw_qC) 33 z fun b30 w33 S32 => y7 S32 0 (cs_qC r29 w_r29) fun w35 S34 => y6 nL7 (y3 ((cs_qC r29 w_r29)) (S34.rf m0) z ?_))
 obtain ⟨⟨r41, r42⟩, Xr36, G⟩ := bsm G
 refine yaj (why_Why_ok h_r29 S34 Xr36) ?_
 rintro _ w37 ⟨I38, a_r41, c_r41, rfl, L39, S40, h_r41⟩
 refine cv (ya 2 5 z (y6 nL6 (yac (rel := RStr) (xs := ([(⟨#[98]⟩ : By8)] : List By8)) S40 z kr z 9 1 [[(.string (⟨#[98]⟩ : By8))]] kr z ((Elr.cons z Elr.nil)) tv ?_)))
 intro a46 C44 w48 S47 ho45
 obtain ⟨I50, L51, S53, hp52⟩ := yad ho45 S47
 refine WO.vs 1 [(18, .agg #[(.string (⟨#[97]⟩ : By8)), (.slice a46 1 1)]), (19, .agg (cs_qJ ({ z_qJ with Name := (⟨#[98]⟩ : By8) }) zw_qJ).toArray)] ?_
 have hk61 : ok_qJ I50 (⟨(⟨#[97]⟩ : By8), ([(⟨#[98]⟩ : By8)] : List By8)⟩ : qJ) (⟨⟨a46, 1⟩⟩ : W_qJ) := ⟨hp52⟩
 have hk62 : ok_qJ I50 ({ z_qJ with Name := (⟨#[98]⟩ : By8) }) zw_qJ := ⟨SlAt.nil⟩
 refine yac (rel := R_qJ) (xs := ([(⟨(⟨#[97]⟩ : By8), ([(⟨#[98]⟩ : By8)] : List By8)⟩ : qJ), { z_qJ with Name := (⟨#[98]⟩ : By8) }] : List qJ)) S53 z kr z 74 2 [[(.string (⟨#[97]⟩ : By8)), (.slice a46 1 1)], (cs_qJ ({ z_qJ with Name := (⟨#[98]⟩ : By8) }) zw_qJ)] kr z ((Elr.cons ⟨(⟨⟨a46, 1⟩⟩ : W_qJ), rfl, hk61⟩ (Elr.cons ⟨zw_qJ, rfl, hk62⟩ Elr.nil))) tv ?_
 intro a57 C55 w59 S58 ho56
 obtain ⟨I63, L64, S66, hp65⟩ := yad ho56 S58
 refine bsk G fun r72 Xr67 G => yaj (why_Path_ok hp65 S66 Xr67) ?_
 rintro _ w68 ⟨I69, a_r72, c_r72, rfl, L70, S71, h_r72⟩
 refine cv (ya 5 1 z (y6 nL31 (ya 0 2 z (yar [2, 3, 4] 5 23 27 (.refl (r42 && ((r41.length : Int) == 2))) (fun _ => ya 2 4 z yai) (ya 6 1 z (bsk G fun j75 R1 G => yam (l1 := [7, 8, 9, 10, 11, 12]) (J := JI E I69 [(2, Pt b30 0), (3, Sl a_r41 r41 c_r41), (5, Sl a_r72 r72 c_r72), (34, .bool j75)] (bC b30 r29 w_r29 :: Os)) ?_ ?_))))))
 refine yal R1 (fun H R1 => ?_) (fun H R1 => ?_)
 refine yz 28 H (ya 7 1 z ?_)
 obtain ⟨x79, R1, Hx79, _, rfl, Zx79⟩ := sx I69 h_r41 R1
 exact yaa 50 5 Hx79 z (yf 9 1 [1] z (yaw Zx79 1 S71.rm z (ya 11 2 z (sj R1 ▸ yy ⟨I69, rfl, lr, S71⟩))))
 refine yz 28 H ?_
 iterate 5 refine yak ?_
 exact ya 12 1 z (sj R1 ▸ yy ⟨I69, rfl, lr, S71⟩)
 rintro _ w80 ⟨I77, rfl, L78, S81⟩
 refine ya 13 1 z (bsk G fun j82 R1 G => yam (l1 := [14, 15, 16, 17, 18, 19]) (J := JI E I77 [(2, Pt b30 0), (3, Sl a_r41 r41 c_r41), (5, Sl a_r72 r72 c_r72), (41, .bool j82)] (bC b30 r29 w_r29 :: Os)) ?_ ?_)
 refine yal R1 (fun H R1 => ?_) (fun H R1 => ?_)
 refine yz 35 H (ya 14 1 z ?_)
 obtain ⟨x86, R1, Hx86, _, rfl, Zx86⟩ := sx I77 h_r41 R1
 exact yaa 50 5 Hx86 z (yf 16 1 [1] z (yaw Zx86 1 S81.rm z (ya 18 2 z (sj R1 ▸ yy ⟨I77, rfl, lr, S81⟩))))
 refine yz 35 H ?_
 iterate 5 refine yak ?_
 exact ya 19 1 z (sj R1 ▸ yy ⟨I77, rfl, lr, S81⟩)
 rintro _ w87 ⟨I84, rfl, L85, S88⟩
 refine ya 20 1 z (bsk G fun j89 R1 G => yam (l1 := [21, 22, 23, 24]) (J := JI E I84 [(5, Sl a_r72 r72 c_r72), (46, .bool j89)] Os) ?_ ?_)
 refine yal R1 (fun H R1 => ?_) (fun H R1 => ?_)
 exact yz 42 H (y3 ((cs_qC r29 w_r29)) (S88.rf m0) z (ya 22 1 z (bsk R1 fun r98 Xr93 R1 => WO.c1 (why_Check_ok (h_r29.mono le) (up h_r41) S88 Xr93) z fun I95 w94 L96 S97 => ya 24 1 z (sj R1 ▸ yy ⟨I95, rfl, L96, S97.drop⟩))))
 refine yz 42 H ?_
 iterate 3 refine yak ?_
 exact ya 24 1 z (sj R1 ▸ yy ⟨I84, rfl, lr, S88.drop⟩)
 rintro _ w101 ⟨I91, rfl, L92, S102⟩
 exact ya 25 1 z (yar [26, 27, 28] 29 47 51 (.refl (j89 && ((r72.length : Int) == 2))) (fun _ => ya 26 4 z yai) (ya 30 1 z (yb (yr (sj G ▸ yx ⟨I91, rfl, le, S102⟩)))))
def slices_IndexFunc_qG (p0 : List qG) (p1 : qG → Option Bool) : Option Int := (forN (fun (i4 : Nat) (_s : Unit) => (idx p0 (i4 : Int)).bind (fun x11 => (p1 x11).bind (fun (r17 : Bool) => (bif r17 then some (.inr (i4 : Int)) else some (.inl ()))))) p0.length 0 ()).bind (fun (t : Unit ⊕ (Int)) => match t with | .inl _ => some (-1) | .inr s19 => some s19)
theorem slices_IndexFunc_qG_ok {p0 : List qG} {p1 : qG → Option Bool} {a_p0 : Option Addr} {c_p0 : Nat} {g_p1 : FuncId} {k_p1 : List Value} (h_p0 : RSl 5 R_qG I a_p0 c_p0 p0) (h_p1 : ∀ {F : List Mem} {I' : Mem} {w : World} {u0 : qG}, I.Le I' → St E w I' (F ++ Os) → ∀ {r : Bool}, p1 u0 = some r → Calls P g_p1 (([(vG u0)] : List Value) ++ k_p1).toArray w (fun e w' => ∃ (I'' : Mem), e = .returned (.bool r) ∧ I'.Le I'' ∧ St E w' I'' (F ++ Os))) (hcall_p1 : Callable P g_p1) (hS : St E w I Os) {r : Int} (G : slices_IndexFunc_qG p0 p1 = some r) :
    Calls P 101 #[(Sl a_p0 p0 c_p0), (.func (.func g_p1) #[] k_p1.toArray)] w (RT E I Os (Iv r)) := by
 refine calls_W (fn := Tryz.f101) rfl rfl rfl ?_
 unfold slices_IndexFunc_qG at G
 refine ye [0] (ya 0 1 z (yb (W.seq (ye nL3 (ya 0 3 z (yb (yn (bsk G fun t1 hloop5 G => have hlt9 := (h_p0).len_lt; W.wk (yaq (m := p0.length) hloop5 (fun (i4 : Nat) (_s : Unit) => JI E I [(0, Sl a_p0 p0 c_p0), (1, .func (.func g_p1) #[] k_p1.toArray), (7, Nv p0.length), (8, Nv i4)] Os) ⟨I, rfl, lr, hS⟩ ?_ ?_)))))))))
 rintro i4 _ _ w6 hi10 ⟨I2, rfl, L3, S7⟩ x8 R1 hext1
 refine ye [0] (ya 0 1 z (yb (W.seq (yas fun _ => yk (yc (W.seq (yn (ye nL2 (ya 0 2 z (y6 nL6 (yab 0 11 (.func (.func g_p1) #[] k_p1.toArray) (ya 1 2 z ?_))))))))))))
 obtain ⟨x11, R1, Hx11, _, rfl, Zx11⟩ := sx I2 h_p0 R1
 refine yaa 50 5 Hx11 z (yav ((cs_qG x11)) Zx11 0 S7.rm z (bsk R1 fun r17 Xr12 R1 => WO.callv z kr z (g := g_p1) (kk := k_p1) (args := [(vG x11)]) z kr hcall_p1 (h_p1 (F := []) L3 S7  Xr12) ?_))
 rintro _ w13 ⟨I14, rfl, L15, S16⟩
 refine cv (yb (y0 R1 (fun H R1 => ?_) (fun H R1 => ?_)))
 refine ye nL2 (ya 0 2 z (yb (yr (ym (yg (yu ?_))))))
 obtain rfl := hext1 _ (sj R1).symm
 exact ym (yg (sj G ▸ yx ⟨I14, rfl, le, S16⟩))
 exact yk (yl (yc (yag nL2 (yan i4 z (ya 1 1 z (yq (yv ⟨(), (sj R1).symm, I14, rfl, le, S16⟩)))))))
 rintro _ _ w20 ⟨I2, rfl, L3, S21⟩ he
 cases he
 exact ye [0] (ya 0 1 z (yb (W.seq (yat fun _ => y8 (yo (yp (yt (yc (ye [0] (ya 0 1 z (yb (yr (sj G ▸ yx ⟨I2, rfl, L3, S21⟩)))))))))))))
def slices_ContainsFunc_qG (p0 : List qG) (p1 : qG → Option Bool) : Option Bool := (slices_IndexFunc_qG p0 p1).bind (fun r6 => some (decide (r6 ≥ 0)))
theorem slices_ContainsFunc_qG_ok {p0 : List qG} {p1 : qG → Option Bool} {a_p0 : Option Addr} {c_p0 : Nat} {g_p1 : FuncId} {k_p1 : List Value} (h_p0 : RSl 5 R_qG I a_p0 c_p0 p0) (h_p1 : ∀ {F : List Mem} {I' : Mem} {w : World} {u0 : qG}, I.Le I' → St E w I' (F ++ Os) → ∀ {r : Bool}, p1 u0 = some r → Calls P g_p1 (([(vG u0)] : List Value) ++ k_p1).toArray w (fun e w' => ∃ (I'' : Mem), e = .returned (.bool r) ∧ I'.Le I'' ∧ St E w' I'' (F ++ Os))) (hcall_p1 : Callable P g_p1) (hS : St E w I Os) {r : Bool} (G : slices_ContainsFunc_qG p0 p1 = some r) :
    Calls P 68 #[(Sl a_p0 p0 c_p0), (.func (.func g_p1) #[] k_p1.toArray)] w (RT E I Os (.bool r)) := by
 refine calls_W (fn := Tryz.f68) rfl rfl rfl ?_
 unfold slices_ContainsFunc_qG at G
 exact ye [0] (ya 0 1 z (y6 nL5 (ya 0 1 z (yab 1 6 (.func (.func g_p1) #[] k_p1.toArray) (bsk G fun r6 Xr1 G => WO.c1 (slices_IndexFunc_qG_ok h_p0 (fun {F Ic wc} {_} hlc hSc  {rc} hrc => h_p1 hlc hSc  hrc) hcall_p1 hS Xr1) z fun I3 w2 L4 S5 => ya 3 2 z (yb (yr (sj G ▸ yx ⟨I3, rfl, L4, S5⟩))))))))
noncomputable def grants_has_1 (p0 : qG) (q1 : Int) (q2 : By8) (q3 : Bool) (q4 : qC) (q5 : By8) : Option Bool := (some (((p0.Priv == q1) && (sEq p0.Table q2)) && (p0.Option || (!q3)))).bind (fun (q9 : Bool) => ((bif q9 then (member_Is q4.Roles q5 p0.To).bind (fun r23 => some r23) else some false)).bind (fun (j14 : Bool) => some j14))
theorem grants_has_1_ok {p0 : qG} {q1 : Int} {q2 : By8} {q3 : Bool} {q4 : qC} {q5 : By8} {kb1 : Nat} {kb2 : Nat} {kb3 : Nat} {kb4 : Nat} {w_q4 : W_qC} {kb5 : Nat} (h_q4 : ok_qC I q4 w_q4) (hm1 : (Bx kb1 [(Iv q1)] 3) ∈ Os) (hm2 : (Bx kb2 [(.string q2)] 9) ∈ Os) (hm3 : (Bx kb3 [(.bool q3)] 4) ∈ Os) (hm4 : (bC kb4 q4 w_q4) ∈ Os) (hm5 : (Bx kb5 [(.string q5)] 9) ∈ Os) (hS : St E w I Os) {r : Bool} (G : grants_has_1 p0 q1 q2 q3 q4 q5 = some r) :
    Calls P 69 #[(vG p0), (Pt kb1 0), (Pt kb2 0), (Pt kb3 0), (Pt kb4 0), (Pt kb5 0)] w (RT E I Os (.bool r)) := by
 refine calls_W (fn := Tryz.f69) rfl rfl rfl ?_
 unfold grants_has_1 at G
 refine ye nL2 (y4 hS (cs_qG p0) 50 z fun b1 w4 S3 => ya 1 1 z (y6 nL27 (yf 0 1 [3] z (yi (S3.rf m0) z (yi (rd_f (S3.rd (List.Mem.tail _ hm1))) z (ya 3 2 z (yar [5, 6, 7, 8] 9 12 17 (.refl ((p0.Priv == q1) && (sEq p0.Table q2))) (fun _ => yf 5 1 [2] z (yi (S3.rf m0) z (yi (rd_f (S3.rd (List.Mem.tail _ hm2))) z (ya 8 2 z yai)))) (ya 10 1 z (bsq G fun q9 Xq9 G => yar [11, 12, 13, 14, 15, 16] 17 18 25 Xq9 (fun _ => yf 11 1 [4] z (yi (S3.rf m0) z (ya 13 1 z (ya1 [14, 15] 16 21 24 (.refl (p0.Option || (!q3))) (fun _ => yi (rd_f (S3.rd (List.Mem.tail _ hm3))) z (ya 15 2 z yai)) (ya 17 1 z yai))))) (ya 18 1 z (bsk G fun j14 R1 G => yam (l1 := [19, 20, 21, 22, 23, 24, 25]) (J := JI E I [(33, .bool j14)] Os) ?_ ?_)))))))))))
 refine yal R1 (fun H R1 => ?_) (fun H R1 => ?_)
 exact yz 26 H (yf 19 1 [2] z (yi (rd_f (S3.rd (List.Mem.tail _ hm4))) z (yi (rd_f (S3.rd (List.Mem.tail _ hm5))) z (yf 22 1 [0] z (yi (S3.rf m0) z (bsk R1 fun r23 Xr18 R1 => WO.c1 (member_Is_ok h_q4.Roles S3 Xr18) z fun I20 w19 L21 S22 => ya 25 1 z (sj R1 ▸ yy ⟨I20, rfl, L21, S22.drop⟩)))))))
 refine yz 26 H ?_
 iterate 6 refine yak ?_
 exact ya 25 1 z (sj R1 ▸ yy ⟨I, rfl, lr, S3.drop⟩)
 rintro _ w26 ⟨I16, rfl, L17, S27⟩
 exact ya 26 1 z (yb (yr (sj G ▸ yx ⟨I16, rfl, L17, S27⟩)))
noncomputable def grants_has (p0 : qC) (p1 : List qG) (p2 : By8) (p3 : Int) (p4 : By8) (p5 : Bool) : Option Bool := (slices_ContainsFunc_qG p1 (fun (u0 : qG) => grants_has_1 u0 p3 p4 p5 p0 p2)).bind (fun r26 => some r26)
theorem grants_has_ok {p0 : qC} {p1 : List qG} {p2 : By8} {p3 : Int} {p4 : By8} {p5 : Bool} {w_p0 : W_qC} {a_p1 : Option Addr} {c_p1 : Nat} (h_p0 : ok_qC I p0 w_p0) (h_p1 : RSl 5 R_qG I a_p1 c_p1 p1) (hS : St E w I Os) {r : Bool} (G : grants_has p0 p1 p2 p3 p4 p5 = some r) :
    Calls P 49 #[(vC p0 w_p0), (Sl a_p1 p1 c_p1), (.string p2), (Iv p3), (.string p4), (.bool p5)] w (RT E I Os (.bool r)) := by
 refine calls_W (fn := Tryz.f49) rfl rfl rfl ?_
 unfold grants_has at G
 exact ye nL6 (y4 hS (cs_qC p0 w_p0) 33 z fun b1 w4 S3 => y4 S3 [(.string p2)] 9 z fun b5 w8 S7 => y4 S7 [(Iv p3)] 3 z fun b9 w12 S11 => y4 S11 [(.string p4)] 9 z fun b13 w16 S15 => y4 S15 [(.bool p5)] 4 z fun b17 w20 S19 => ya 5 1 z (y6 nL4 (ya 0 1 z (yab 1 14 (.func (.func 69) #[] #[(Pt b9 0), (Pt b13 0), (Pt b17 0), (Pt b1 0), (Pt b5 0)]) (bsk G fun r26 Xr21 G => WO.c1 (slices_ContainsFunc_qG_ok h_p1 (fun {F Ic wc} {_} hlc hSc  {rc} hrc => grants_has_1_ok (h_p0.mono hlc) (List.mem_append_right _ m2) (List.mem_append_right _ m1) (List.mem_append_right _ m0) (List.mem_append_right _ m4) (List.mem_append_right _ m3) hSc hrc) (fun _ _ => by kernel_rfl) S19 Xr21) z fun I23 w22 L24 S25 => ya 3 1 z (yb (yr (sj G ▸ yx ⟨I23, rfl, L24, S25.d5⟩))))))))
def grants_Held_1 (q0 : qC) (q1 : List Bool) : Option (List qG) := (forE (fun (i5 : Nat) (s4 : List qG) => (idx q0.Grants (i5 : Int)).bind (fun x14 => (idx q1 (i5 : Int)).bind (fun x21 => ((bif x21 then (app 64 s4 ([x14] : List qG)).bind (fun x34 => some x34) else some s4)).bind (fun (j22 : List qG) => some j22)))) q0.Grants.length 0 ([] : List qG)).bind (fun s4 => some s4)
theorem grants_Held_1_ok {q0 : qC} {q1 : List Bool} {kb0 : Nat} {w_q0 : W_qC} {kb1 : Nat} {a_q1 : Option Addr} {c_q1 : Nat} (h_q0 : ok_qC I q0 w_q0) (h_q1 : RSl 1 RBool I a_q1 c_q1 q1) (hm0 : (bC kb0 q0 w_q0) ∈ Os) (hm1 : (Bx kb1 [(Sl a_q1 q1 c_q1)] 100) ∈ Os) (hS : St E w I Os) {r : (List qG)} (G : grants_Held_1 q0 q1 = some r) :
    Calls P 50 #[(Pt kb0 0), (Pt kb1 0)] w (fun e w' => ∃ (I' : Mem) (ra0 : Option Addr) (rc0 : Nat) (rC0 : Mem), e = .returned (Sl ra0 r rc0) ∧ I.Le I' ∧ St E w' I' (rC0 :: Os) ∧ OwnSl 50 5 R_qG I' rC0 ra0 rc0 r) := by
 refine calls_W (fn := Tryz.f50) rfl rfl rfl ?_
 unfold grants_Held_1 at G
 refine ye [0] (yab 0 2 (.slice none 0 0) (y6 [0] (yab 0 3 (.slice none 0 0) (yb (W.seq (ye nL4 (yf 0 1 [3] z (yi (rd_f (hS.rd hm0)) z (ya 2 2 z (yb (yn (bsk G fun s4 hloop6 G => have hlt12 := (h_q0.Grants).len_lt; W.wk (yau (m := q0.Grants.length) hloop6 (fun (i5 : Nat) (s4 : List qG) fr w => ∃ I2 a_s4 c_s4 C_s4, fr = [(1, Pt kb1 0), (3, Sl a_s4 s4 c_s4), (7, Sl w_q0.Grants.a q0.Grants w_q0.Grants.c), (8, Nv q0.Grants.length), (9, Nv i5)] ∧ I.Le I2 ∧ St E w I2 ((C_s4) :: Os) ∧ OwnSl 50 5 R_qG I2 C_s4 a_s4 c_s4 s4) ⟨I, none, 0, Mem.no, rfl, lr, hS.no, OwnSl.nil⟩ ?_ ?_)))))))))))))
 rintro i5 s4 _ w9 hi13 ⟨I2, a_s4, c_s4, C_s4, rfl, L3, S10, h_s4⟩ x11 R1
 refine ye [0] (ya 0 1 z (yb (W.seq (yas fun _ => yk (yc (W.seq (yn (ye nL6 (ya 0 1 z ?_)))))))))
 obtain ⟨x14, R1, Hx14, _, rfl, Zx14⟩ := sx I2 h_q0.Grants R1
 refine yaa 50 5 Hx14 z (yav ((cs_qG x14)) Zx14 0 S10.rm z (y4 S10 (cs_qG z_qG) 50 z fun b15 w18 S17 => ya 4 1 z (y7 S17 0 (cs_qG x14) fun w20 S19 => y6 nL4 (yi (rd_f (S19.rd (List.Mem.tail _ (List.Mem.tail _ hm1)))) z (ya 1 1 z ?_)))))
 obtain ⟨x21, R1, Hx21, _, rfl, Zx21⟩ := sx I2 h_q1 R1
 refine yaa 4 1 Hx21 z (yao Zx21 S19.rm z (yb (bsk R1 fun j22 R2 R1 => yaz (J := (fun fr w => ∃ I24 a_j22 c_j22 C_j22, fr = [(1, Pt kb1 0), (3, Sl a_j22 j22 c_j22), (7, Sl w_q0.Grants.a q0.Grants w_q0.Grants.c), (8, Nv q0.Grants.length), (9, Nv i5)] ∧ I2.Le I24 ∧ St E w I24 ((C_j22) :: Os) ∧ OwnSl 50 5 R_qG I24 C_j22 a_j22 c_j22 j22)) ?_ ?_)))
 refine y0 R2 (fun H R2 => ?_) (fun H R2 => ?_)
 refine yag nL5 (ya 0 1 z (y3 ((cs_qG x14)) (S19.rf m0) z (yac (rel := R_qG) (xs := ([x14] : List qG)) S19 z kr z 50 5 [(cs_qG x14)] kr z ((Elr.cons z Elr.nil)) tv ?_)))
 intro a29 C27 w31 S30 ho28
 have S33 := S30.front2
 exact apk R2 fun x34 h0_x34 he_x34 R2 => yay 50 64 (cs_qG z_qG) S33 h_s4 ho28.sl (S33.rd m1) h0_x34 he_x34 z fun a35 c36 w37 C38 S39 ho40 => ya 4 1 z (yq (sj R2 ▸ yv ⟨I2, a35, c36, C38, rfl, lr, S39.front1.drop.front1.drop, ho40⟩))
 exact yk (sj R2 ▸ yv ⟨I2, a_s4, c_s4, C_s4, rfl, lr, S19.drop, h_s4⟩)
 rintro _ w46 ⟨I24, a_j22, c_j22, C_j22, rfl, L25, S47, h_j22⟩
 exact yl (yc (yag nL2 (yan i5 z (ya 1 1 z (yq (sj R1 ▸ yv ⟨I24, a_j22, c_j22, C_j22, rfl, le, S47, h_j22⟩))))))
 rintro _ w48 ⟨I2, a_s4, c_s4, C_s4, rfl, L3, S49, h_s4⟩
 exact ye [0] (ya 0 1 z (yb (W.seq (yat fun _ => y8 (yo (yp (yt (yc (ye nL2 (ya 0 2 z (yb (yr (sj G ▸ yx ⟨I2, a_s4, c_s4, C_s4, rfl, L3, S49, h_s4⟩)))))))))))))
noncomputable def grants_Held (p0 : qC) : Option (List qG) := (mk 1 (p0.Grants.length : Int)).bind (fun n5 => (loopO (fun (s : Bool × (List Bool)) => match s with | (s21, s22) => (bif s21 then (grants_Held_1 p0 s22).bind (fun r38 => (forE (fun (i50 : Nat) (s : Bool × (List Bool)) => match s with | (s48, s49) => (idx p0.Grants (i50 : Int)).bind (fun x59 => (catalog_Find p0 x59.Table).bind (fun (r71, r72) => (member_Find p0.Roles x59.To).bind (fun (r84, r85) => (idx s49 (i50 : Int)).bind (fun x92 => ((bif (((!x92) && r72) && r85) then (grants_Owns p0 x59.By x59.Table).bind (fun r106 => ((bif r106 then some true else (grants_has p0 r38 x59.By x59.Priv x59.Table true).bind (fun r119 => some r119))).bind (fun (j107 : Bool) => some j107)) else some false)).bind (fun (j97 : Bool) => ((bif j97 then (idx s49 (i50 : Int)).bind (fun x134 => some (true, (s49.set ((i50 : Int)).toNat true))) else some (s48, s49))).bind (fun ((s141, s142) : Bool × (List Bool)) => some (s141, s142)))))))) p0.Grants.length 0 (false, s22)).bind (fun (s48, s49) => some (.inl (s48, s49)))) else some (.inr s22))) (true, (List.replicate n5 false))).bind (fun (s150 : List Bool) => (grants_Held_1 p0 s150).bind (fun r159 => some r159)))
theorem grants_Held_ok {p0 : qC} {w_p0 : W_qC} (h_p0 : ok_qC I p0 w_p0) (hS : St E w I Os) {r : (List qG)} (G : grants_Held p0 = some r) :
    Calls P 26 #[(vC p0 w_p0)] w (fun e w' => ∃ (I' : Mem) (ra0 : Option Addr) (rc0 : Nat), e = .returned (Sl ra0 r rc0) ∧ I.Le I' ∧ St E w' I' Os ∧ RSl 5 R_qG I' ra0 rc0 r) := by
 refine calls_W (fn := Tryz.f26) rfl rfl rfl ?_
 unfold grants_Held at G
 refine ye nL2 (y4 hS (cs_qC p0 w_p0) 33 z fun b1 w4 S3 => yab 1 2 (.slice none 0 0) (y6 nL6 (yf 0 1 [3] z (yi (S3.rf m0) z (ya 2 1 z ?_)))))
 obtain ⟨n5, Xn5, G⟩ := bsm G
 obtain ⟨h0_n5, he_n5⟩ := mk_some Xn5
 refine WO.make (rel := RBool) S3 z kr z kr (T := 4) (sz := 1) (b := 1) (zs := #[(.bool false)]) kr z z n5 (congrArg (Value.int .i64) he_n5) (congrArg (Value.int .i64) he_n5) h0_n5 z (z0 := false) z tv ?_
 intro a6 w10 C7 S9 ho8
 refine yaf 16 z (show Value.slice a6 n5 n5 = Value.slice a6 (List.replicate n5 false).length n5 by simp only [List.length_replicate]) ?_
 refine y4 S9 [(.slice none 0 0)] 100 z fun b12 w15 S14 => y7 S14 0 [(.slice a6 (List.replicate n5 false).length n5)] fun w17 S16 => y6 nL2 (WO.vs 0 [(17, .func (.func 50) #[] #[(Pt b1 0), (Pt b12 0)]), (4, .func (.func 50) #[] #[(Pt b1 0), (Pt b12 0)])] (yb (W.seq (ye [0] (ya 0 1 z (yb (yn (bsk G fun t18 hloop23 G => W.wk (ya6 hloop23 (fun (s : Bool × (List Bool)) fr w => match s with | (s21, s22) => ∃ I19 C_s22, fr = [(1, Pt b1 0), (3, Pt b12 0), (4, .func (.func 50) #[] #[(Pt b1 0), (Pt b12 0)]), (5, .bool s21)] ∧ I.Le I19 ∧ St E w I19 (bC b1 p0 w_p0 :: (Bx b12 [(Sl a6 s22 n5)] 100) :: (C_s22) :: Os) ∧ OwnSl 4 1 RBool I19 C_s22 a6 n5 s22) ⟨I, C7, rfl, lr, S16.front1.front1.front2, ho8⟩ ?_)))))))))
 rintro ⟨s21, s22⟩ _ w27 ⟨I19, C_s22, rfl, L20, S28, h_s22⟩ x29 R1 hext18
 refine W.seq (ye [0] (ya 0 1 z (yb (y0 R1 (fun H R1 => ?_) (fun H R1 => ?_)))))
 refine yk (yc (yn (ye [0] (ya 0 1 z (y6 nL3 (yab 0 19 (.func (.func 50) #[] #[(Pt b1 0), (Pt b12 0)]) (have S30 := S28.front2; have hp32 := (h_s22).publish S30; bsk R1 fun r38 Xr33 R1 => yaj (grants_Held_1_ok (h_p0.mono (L20.trans (ybb I19 C_s22))) hp32 m0 m1 S30.publish Xr33) ?_)))))))
 rintro _ w34 ⟨I35, a_r38, c_r38, C_r38, rfl, L36, S37, h_r38⟩
 have S39 := ybs S30 L36 S37
 have ho40 := ybu h_r38 I19 (fun hq => hq)
 refine cv ?_
 obtain ⟨I41, L42, S44, hp43⟩ := yad ho40 S39
 refine ya 2 1 z (y6 nL4 (yf 0 1 [3] z (yi (S44.rf m1) z (ya 2 2 z (yb (yn ?_))))))
 obtain ⟨⟨s48, s49⟩, hloop51, R1⟩ := bsm R1
 have hlt57 := ((RSl.mono h_p0.Grants (L20.trans L42))).len_lt
 refine W.wk (yau (m := p0.Grants.length) hloop51 (fun (i50 : Nat) (s : Bool × (List Bool)) fr w => match s with | (s48, s49) => ∃ I46 C_s49, fr = [(1, Pt b1 0), (3, Pt b12 0), (4, .func (.func 50) #[] #[(Pt b1 0), (Pt b12 0)]), (5, .bool s48), (6, Sl a_r38 r38 c_r38), (22, Sl w_p0.Grants.a p0.Grants w_p0.Grants.c), (23, Nv p0.Grants.length), (24, Nv i50)] ∧ I41.Le I46 ∧ St E w I46 (bC b1 p0 w_p0 :: (Bx b12 [(Sl a6 s49 n5)] 100) :: (C_s49) :: Os) ∧ OwnSl 4 1 RBool I46 C_s49 a6 n5 s49) ⟨I41, C_s22, rfl, lr, S44.front2.front2, (OwnSl.mono h_s22 L42)⟩ ?_ ?_)
 rintro i50 ⟨s48, s49⟩ _ w54 hi58 ⟨I46, C_s49, rfl, L47, S55, h_s49⟩ x56 R2
 refine ye [0] (ya 0 1 z (yb (W.seq (yas fun _ => yk (yc (W.seq (yn (ye nL6 (ya 0 1 z ?_)))))))))
 obtain ⟨x59, R2, Hx59, _, rfl, Zx59⟩ := sx I46 h_p0.Grants R2
 refine yaa 50 5 Hx59 z (yav ((cs_qG x59)) Zx59 0 S55.rm z (y4 S55 (cs_qG z_qG) 50 z fun b60 w63 S62 => ya 4 1 z (y7 S62 0 (cs_qG x59) fun w65 S64 => y6 nL10 (y3 ((cs_qC p0 w_p0)) (S64.rf m1) z (yf 1 1 [2] z (yi (S64.rf m0) z ?_))))))
 obtain ⟨⟨r71, r72⟩, Xr66, R2⟩ := bsm R2
 refine yaj (catalog_Find_ok (h_p0.mono le) S64 Xr66) ?_
 rintro _ w67 ⟨I68, w_r71, rfl, L69, S70, h_r71⟩
 refine cv (ya 4 3 z (y4 S70 (cs_qT z_qT zw_qT) 104 z fun b73 w76 S75 => y7 S75 0 (cs_qT r71 w_r71) fun w78 S77 => ya 9 1 z (y6 nL11 (yf 0 1 [2] z (yi (S77.rf m2) z (yf 2 1 [0] z (yi (S77.rf m1) z ?_)))))))
 obtain ⟨⟨r84, r85⟩, Xr79, R2⟩ := bsm R2
 refine yaj (member_Find_ok (up h_p0.Roles) S77 Xr79) ?_
 rintro _ w80 ⟨I81, w_r84, rfl, L82, S83, h_r84⟩
 refine cv (ya 5 3 z (y4 S83 (cs_qJ z_qJ zw_qJ) 74 z fun b86 w89 S88 => y7 S88 0 (cs_qJ r84 w_r84) fun w91 S90 => ya 10 1 z (y6 nL30 (yi (S90.rf m4) z (ya 1 1 z ?_)))))
 obtain ⟨x92, R2, Hx92, _, rfl, Zx92⟩ := sl_ix ((h_s49.mono (L69.trans L82)).sl) R2
 refine yaa 4 1 Hx92 z (yao Zx92 (S90.rf m5) z (ya 4 2 z (yar [6] 7 49 51 (.refl ((!x92) && r72)) (fun _ => ya 6 2 z yai) (ya 8 1 z (yar [9] 10 52 54 (.refl (((!x92) && r72) && r85)) (fun _ => ya 9 2 z yai) (ya 11 1 z (bsk R2 fun j97 R3 R2 => yam (l1 := [12, 13, 14, 15, 16, 17, 18, 19, 20, 21, 22, 23, 24, 25, 26, 27, 28, 29]) (J := JI E I81 [(1, Pt b1 0), (3, Pt b12 0), (4, .func (.func 50) #[] #[(Pt b1 0), (Pt b12 0)]), (5, .bool s48), (6, Sl a_r38 r38 c_r38), (7, Nv i50), (22, Sl w_p0.Grants.a p0.Grants w_p0.Grants.c), (23, Nv p0.Grants.length), (24, Nv i50), (73, .bool j97)] (bC b1 p0 w_p0 :: (Bx b12 [(Sl a6 s49 n5)] 100) :: (C_s49) :: Os)) ?_ ?_)))))))
 refine yal R3 (fun H R3 => ?_) (fun H R3 => ?_)
 refine yz 55 H (y3 ((cs_qC p0 w_p0)) (S90.rf m3) z (yf 13 1 [1] z (yi (S90.rf m2) z (yf 15 1 [2] z (yi (S90.rf m2) z (bsk R3 fun r106 Xr101 R3 => WO.c1 (grants_Owns_ok (h_p0.mono le) S90 Xr101) z fun I103 w102 L104 S105 => ya 18 1 z (bsk R3 fun j107 R4 R3 => yam (l1 := [19, 20, 21, 22, 23, 24, 25, 26, 27, 28]) (J := JI E I103 [(1, Pt b1 0), (3, Pt b12 0), (4, .func (.func 50) #[] #[(Pt b1 0), (Pt b12 0)]), (5, .bool s48), (6, Sl a_r38 r38 c_r38), (7, Nv i50), (22, Sl w_p0.Grants.a p0.Grants w_p0.Grants.c), (23, Nv p0.Grants.length), (24, Nv i50), (55, .bool true), (72, .bool j107)] (bC b1 p0 w_p0 :: (Bx b12 [(Sl a6 s49 n5)] 100) :: (C_s49) :: Os)) ?_ ?_)))))))
 refine yal R4 (fun H R4 => ?_) (fun H R4 => ?_)
 refine yz 62 H ?_
 iterate 9 refine yak ?_
 exact ya 28 1 z (sj R4 ▸ yy ⟨I103, rfl, lr, S105.d3⟩)
 exact yz 62 H (y3 ((cs_qC p0 w_p0)) (S105.rf m3) z (yf 20 2 [1] z (yi (S105.rf m2) z (yf 23 1 [3] z (yi (S105.rf m2) z (yf 25 1 [2] z (yi (S105.rf m2) z (bsk R4 fun r119 Xr114 R4 => WO.c1 (grants_has_ok (h_p0.mono le) (up hp43) S105 Xr114) z fun I116 w115 L117 S118 => ya 28 1 z (sj R4 ▸ yy ⟨I116, rfl, L117, S118.d3⟩)))))))))
 rintro _ w123 ⟨I109, rfl, L110, S124⟩
 exact ya 29 1 z (sj R3 ▸ yy ⟨I109, rfl, le, S124⟩)
 refine yz 55 H ?_
 iterate 17 refine yak ?_
 exact ya 29 1 z (sj R3 ▸ yy ⟨I81, rfl, lr, S90.d3⟩)
 rintro _ w128 ⟨I99, rfl, L100, S129⟩
 refine yb (bsk R2 fun j130 R3 R2 => yaz (J := (fun fr w => ∃ (s141 : Bool) (s142 : List Bool), ∃ I132 C_s142, (s141, s142) = j130 ∧ fr = [(1, Pt b1 0), (3, Pt b12 0), (4, .func (.func 50) #[] #[(Pt b1 0), (Pt b12 0)]), (5, .bool s141), (6, Sl a_r38 r38 c_r38), (22, Sl w_p0.Grants.a p0.Grants w_p0.Grants.c), (23, Nv p0.Grants.length), (24, Nv i50)] ∧ I99.Le I132 ∧ St E w I132 (bC b1 p0 w_p0 :: (Bx b12 [(Sl a6 s142 n5)] 100) :: (C_s142) :: Os) ∧ OwnSl 4 1 RBool I132 C_s142 a6 n5 s142)) ?_ ?_)
 refine y0 R3 (fun H R3 => ?_) (fun H R3 => ?_)
 refine ye nL4 (yi (S129.rf m1) z (ya 1 1 z ?_))
 obtain ⟨x134, R3, h0_x134, h1_x134, Xx134, ha_x134, _, _, rfl, Zx134⟩ := sl_at ((h_s49.mono ((L69.trans L82).trans L100)).sl) R3
 refine ya5 4 1 ha_x134 h0_x134 h1_x134 ?_
 refine ya8 S129.front2 (OwnSl.mono h_s49 le) z kr z Xx134 (u' := true) 0 z z kr z z (fun cs hrel => (by obtain rfl := hrel; exact z)) tv ?_
 intro w137 C138 S136 ho139
 refine yaf 74 z (show Value.slice a6 s49.length n5 = Value.slice a6 (s49.set ((i50 : Int)).toNat true).length n5 by simp only [List.length_set]) ?_
 have S140 : St E w137 I99 ((C138) :: (bC b1 p0 w_p0) :: (Bx b12 [(.slice a6 (s49.set ((i50 : Int)).toNat true).length n5)] 100) :: Os) := by have hq := S136; simp only [List.length_set] at hq ⊢; exact hq
 exact yb (yag [0] (ya 0 1 z (yq (yv ⟨true, (s49.set ((i50 : Int)).toNat true), I99, C138, sj R3, rfl, lr, S140.front2.front2, ho139⟩))))
 exact yk (yv ⟨s48, s49, I99, C_s49, sj R3, rfl, lr, S129, (OwnSl.mono h_s49 le)⟩)
 rintro _ w145 ⟨s141, s142, I132, C_s142, rfl, rfl, L133, S146, h_s142⟩
 exact yl (yc (yag nL2 (yan i50 z (ya 1 1 z (yq (sj R2 ▸ yv ⟨I132, C_s142, rfl, le, S146, h_s142⟩))))))
 rintro _ w147 ⟨I46, C_s49, rfl, L47, S148, h_s49⟩
 exact ye [0] (ya 0 1 z (yb (W.seq (yat fun _ => y8 (yo (yp (yt (yl (yv ⟨(s48, s49), (sj R1).symm, I46, C_s49, rfl, le, S148, h_s49⟩)))))))))
 refine y8 (yo (yp ?_))
 obtain rfl := hext18 _ (sj R1).symm
 refine yt (yc (ye nL3 (yab 0 78 (.func (.func 50) #[] #[(Pt b1 0), (Pt b12 0)]) (have S169 := S28.front2; have hp171 := (h_s22).publish S169; bsk G fun r177 Xr172 G => yaj (grants_Held_1_ok (h_p0.mono (L20.trans (ybb I19 C_s22))) hp171 m0 m1 S169.publish Xr172) ?_))))
 rintro _ w173 ⟨I174, a_r177, c_r177, C_r177, rfl, L175, S176, h_r177⟩
 have S178 := ybs S169 L175 S176
 have ho179 := ybu h_r177 I19 (fun hq => hq)
 refine cv ?_
 obtain ⟨I180, L181, S183, hp182⟩ := yad ho179 S178
 exact ya 2 1 z (yb (yr (sj G ▸ yx ⟨I180, a_r177, c_r177, rfl, le, S183.d3, hp182⟩)))
noncomputable def grants_May (p0 : qC) (p1 : By8) (p2 : Int) (p3 : By8) : Option Bool := (grants_Owns p0 p1 p3).bind (fun r12 => ((bif r12 then some true else (grants_Held p0).bind (fun r22 => (grants_has p0 r22 p1 p2 p3 false).bind (fun r28 => some r28)))).bind (fun (j13 : Bool) => some j13))
theorem grants_May_ok {p0 : qC} {p1 : By8} {p2 : Int} {p3 : By8} {w_p0 : W_qC} (h_p0 : ok_qC I p0 w_p0) (hS : St E w I Os) {r : Bool} (G : grants_May p0 p1 p2 p3 = some r) :
    Calls P 25 #[(vC p0 w_p0), (.string p1), (Iv p2), (.string p3)] w (RT E I Os (.bool r)) := by
 refine calls_W (fn := Tryz.f25) rfl rfl rfl ?_
 unfold grants_May at G
 refine ye nL2 (y4 hS (cs_qC p0 w_p0) 33 z fun b1 w4 S3 => ya 1 1 z (yb (W.seq (have S5 := S3.drew; yba nL14 13 (yw (S5.rd m0) (yae S5.im)) ?_))))
 generalize World.drew _ = w6 at *
 refine y3 ((cs_qC p0 w_p0)) (rd_c m0 (S5.rd m0)) z (ya 1 2 z (bsk G fun r12 Xr7 G => yaj (grants_Owns_ok h_p0 S5 Xr7) ?_))
 rintro _ w8 ⟨I9, rfl, L10, S11⟩
 refine ⟨_, rfl, (yw (S11.rd m0) (yae (S11.im.of_le L10))), ?_⟩
 refine ya 4 1 z (bsk G fun j13 R1 G => yam (l1 := [5, 6, 7, 8, 9, 10, 11, 12]) (J := JI E I9 [(21, .bool j13)] (bC b1 p0 w_p0 :: Os)) ?_ ?_)
 refine yal R1 (fun H R1 => ?_) (fun H R1 => ?_)
 refine yz 13 H ?_
 iterate 7 refine yak ?_
 exact ya 12 1 z (sj R1 ▸ yy ⟨I9, rfl, lr, S11⟩)
 refine yz 13 H (y3 ((cs_qC p0 w_p0)) (rd_c m0 (S11.rd m0)) z (y3 ((cs_qC p0 w_p0)) (rd_c m0 (S11.rd m0)) z (bsk R1 fun r22 Xr17 R1 => yaj (grants_Held_ok (h_p0.mono L10) S11 Xr17) ?_)))
 rintro _ w18 ⟨I19, a_r22, c_r22, rfl, L20, S21, h_r22⟩
 refine ⟨_, rfl, (yw (S21.rd m0) (yae (S21.im.of_le le))), ?_⟩
 refine ya 8 3 z (bsk R1 fun r28 Xr23 R1 => yaj (grants_has_ok (h_p0.mono le) h_r22 S21 Xr23) ?_)
 rintro _ w24 ⟨I25, rfl, L26, S27⟩
 refine ⟨_, rfl, (yw (S27.rd m0) (yae (S27.im.of_le le))), ?_⟩
 exact ya 12 1 z (sj R1 ▸ yy ⟨I25, rfl, le, S27⟩)
 rintro _ w29 ⟨I15, rfl, L16, S30⟩
 exact WO.tail z (ya 13 1 z (yb (yr (sj G ▸ yx ⟨I15, rfl, le, S30.drop⟩))))
def law32_has (p0 : List qG) (p1 : qG) : Option Bool := (forN (fun (i8 : Nat) (_s : Unit) => (idx p0 (i8 : Int)).bind (fun x17 => (bif (sEq x17.To p1.To && (sEq x17.By p1.By && (sEq x17.Table p1.Table && ((x17.Priv == p1.Priv) && (x17.Option == p1.Option))))) then some (.inr true) else some (.inl ())))) p0.length 0 ()).bind (fun (t : Unit ⊕ (Bool)) => match t with | .inl _ => some false | .inr s19 => some s19)
theorem law32_has_ok {p0 : List qG} {p1 : qG} {a_p0 : Option Addr} {c_p0 : Nat} (h_p0 : RSl 5 R_qG I a_p0 c_p0 p0) (hS : St E w I Os) {r : Bool} (G : law32_has p0 p1 = some r) :
    Calls P 27 #[(Sl a_p0 p0 c_p0), (vG p1)] w (RT E I Os (.bool r)) := by
 refine calls_W (fn := Tryz.f27) rfl rfl rfl ?_
 unfold law32_has at G
 refine ye nL2 (y4 hS (cs_qG p1) 50 z fun b1 w4 S3 => ya 1 1 z (yb (W.seq (ye [0] (ya 0 1 z (yb (yn (bsk G fun t5 hloop9 G => have hlt13 := (h_p0).len_lt; W.wk (yaq (m := p0.length) hloop9 (fun (i8 : Nat) (_s : Unit) => JI E I [(0, Sl a_p0 p0 c_p0), (3, Pt b1 0), (5, Nv i8)] (bG b1 p1 :: Os)) ⟨I, rfl, lr, S3⟩ ?_ ?_)))))))))
 rintro i8 _ _ w10 hi14 ⟨I6, rfl, L7, S11⟩ x12 R1 hext5
 refine W.seq (ye nL4 (ya 0 4 z (yb (yas fun _ => yk (yc (W.seq (yn (W.seq (have S15 := S11.drew; yba nL6 5 (yw (S15.rd m0) (yae S15.im)) ?_)))))))))
 generalize World.drew _ = w16 at *
 refine ya 0 2 z ?_
 obtain ⟨x17, R1, Hx17, _, rfl, Zx17⟩ := sx I6 h_p0 R1
 refine yaa 50 5 Hx17 z (yav ((cs_qG x17)) Zx17 0 (rd_i S15.im) z (y3 ((cs_qG p1)) (rd_c m0 (S15.rd m0)) z (WO.tail z (ybm z kr z z kr 50 z (b := (sEq x17.To p1.To && (sEq x17.By p1.By && (sEq x17.Table p1.Table && ((x17.Priv == p1.Priv) && ((x17.Option == p1.Option) && true)))))) kr (sEq x17.To p1.To && (sEq x17.By p1.By && (sEq x17.Table p1.Table && ((x17.Priv == p1.Priv) && (x17.Option == p1.Option))))) (.inl ⟨rfl, by simp only [Bool.and_true]⟩) ?_))))
 refine yb (y0 R1 (fun H R1 => ?_) (fun H R1 => ?_))
 refine ye [0] (ya 0 1 z (yb (yr (ym (yg (yu ?_))))))
 obtain rfl := hext5 _ (sj R1).symm
 exact ym (yg (sj G ▸ yx ⟨I6, rfl, L7, S15.drop⟩))
 exact yk (yl (yc (yag nL3 (ya 0 1 z (yan i8 z (ya 2 1 z (yq (yv ⟨(), (sj R1).symm, I6, rfl, L7, S15⟩))))))))
 rintro _ _ w22 ⟨I6, rfl, L7, S23⟩ he
 cases he
 exact W.seq (ye nL4 (ya 0 4 z (yb (yat fun _ => y8 (yo (yp (yt (yc (ye [0] (ya 0 1 z (yb (yr (sj G ▸ yx ⟨I6, rfl, L7, S23.drop⟩)))))))))))))
noncomputable def r32_Check (p0 : qC) (p1 : By8) (p2 : Int) (p3 : By8) (p4 : List qG) : Option Bool := (forN (fun (i9 : Nat) (s8 : By8) => (idx p4 (i9 : Int)).bind (fun x16 => (some (((x16.Priv != p2) || (!sEq x16.Table p3)) || ((decide ((i9 : Int) > 0)) && (!x16.Option)))).bind (fun (q27 : Bool) => ((bif q27 then some true else (r18_At p0.Roles x16.To).bind (fun r42 => some (decide (r42 < 0))))).bind (fun (j32 : Bool) => ((bif j32 then some true else (r18_Is p0.Roles s8 x16.To).bind (fun r55 => some (!r55)))).bind (fun (j46 : Bool) => (bif j46 then some (.inr false) else some (.inl x16.By))))))) p4.length 0 p1).bind (fun (t : By8 ⊕ (Bool)) => match t with | .inl s8 => (r19_Owns p0 s8 p3).bind (fun r72 => some r72) | .inr s59 => some s59)
theorem r32_Check_ok {p0 : qC} {p1 : By8} {p2 : Int} {p3 : By8} {p4 : List qG} {w_p0 : W_qC} {a_p4 : Option Addr} {c_p4 : Nat} (h_p0 : ok_qC I p0 w_p0) (h_p4 : RSl 5 R_qG I a_p4 c_p4 p4) (hS : St E w I Os) {r : Bool} (G : r32_Check p0 p1 p2 p3 p4 = some r) :
    Calls P 14 #[(vC p0 w_p0), (.string p1), (Iv p2), (.string p3), (Sl a_p4 p4 c_p4)] w (RT E I Os (.bool r)) := by
 refine calls_W (fn := Tryz.f14) rfl rfl rfl ?_
 unfold r32_Check at G
 refine ye nL2 (y4 hS (cs_qC p0 w_p0) 33 z fun b1 w4 S3 => ya 1 1 z (yb (W.seq (ye [0] (ya 0 1 z (yb (yn (bsk G fun t5 hloop10 G => have hlt14 := (h_p4).len_lt; W.wk (yaq (m := p4.length) hloop10 (fun (i9 : Nat) (s8 : By8) => JI E I [(1, .string s8), (2, Iv p2), (3, .string p3), (4, Sl a_p4 p4 c_p4), (5, Pt b1 0), (11, Nv i9)] (bC b1 p0 w_p0 :: Os)) ⟨I, rfl, lr, S3⟩ ?_ ?_)))))))))
 rintro i9 s8 _ w11 hi15 ⟨I6, rfl, L7, S12⟩ x13 R1 hext5
 refine W.seq (ye nL4 (ya 0 4 z (yb (yas fun _ => yk (yc (W.seq (yn (ye nL6 (ya 0 2 z ?_)))))))))
 obtain ⟨x16, R1, Hx16, _, rfl, Zx16⟩ := sx I6 h_p4 R1
 refine yaa 50 5 Hx16 z (yav ((cs_qG x16)) Zx16 0 S12.rm z (y4 S12 (cs_qG z_qG) 50 z fun b17 w20 S19 => y7 S19 0 (cs_qG x16) fun w22 S21 => yb (W.seq (ye nL36 (yf 0 1 [3] z (yi (S21.rf m0) z (ya 2 3 z (ya1 [5, 6, 7, 8] 9 27 32 (.refl ((x16.Priv != p2) || (!sEq x16.Table p3))) (fun _ => yf 5 1 [2] z (yi (S21.rf m0) z (ya 7 3 z yai))) (ya 10 1 z (bsq R1 fun q27 Xq27 R1 => ya1 [11, 12, 13, 14, 15, 16, 17] 18 33 41 Xq27 (fun _ => ya 11 3 z (yar [14, 15, 16] 17 36 40 (.refl ((decide ((i9 : Int) > 0)) && (!x16.Option))) (fun _ => yf 14 1 [4] z (yi (S21.rf m0) z (ya 16 2 z yai))) (ya 18 1 z yai))) (ya 19 1 z (bsk R1 fun j32 R2 R1 => yam (l1 := [20, 21, 22, 23, 24, 25, 26]) (J := JI E I6 [(1, .string s8), (2, Iv p2), (3, .string p3), (4, Sl a_p4 p4 c_p4), (5, Pt b1 0), (11, Nv i9), (12, Pt b17 0), (49, .bool j32)] (bC b1 p0 w_p0 :: (bG b17 x16) :: Os)) ?_ ?_))))))))))))
 refine yal R2 (fun H R2 => ?_) (fun H R2 => ?_)
 refine yz 42 H ?_
 iterate 6 refine yak ?_
 exact ya 26 1 z (sj R2 ▸ yy ⟨I6, rfl, lr, S21.front1⟩)
 exact yz 42 H (yf 20 1 [2] z (yi (S21.rf m1) z (yf 22 1 [0] z (yi (S21.rf m0) z (bsk R2 fun r42 Xr37 R2 => WO.c1 (r18_At_ok (RSl.mono h_p0.Roles L7) S21 Xr37) z fun I39 w38 L40 S41 => ya 25 2 z (sj R2 ▸ yy ⟨I39, rfl, L40, S41.front1⟩))))))
 rintro _ w44 ⟨I34, rfl, L35, S45⟩
 refine ya 27 1 z (bsk R1 fun j46 R2 R1 => yam (l1 := [28, 29, 30, 31, 32, 33, 34, 35]) (J := JI E I34 [(2, Iv p2), (3, .string p3), (4, Sl a_p4 p4 c_p4), (5, Pt b1 0), (11, Nv i9), (12, Pt b17 0), (58, .bool j46)] (bC b1 p0 w_p0 :: (bG b17 x16) :: Os)) ?_ ?_)
 refine yal R2 (fun H R2 => ?_) (fun H R2 => ?_)
 refine yz 50 H ?_
 iterate 7 refine yak ?_
 exact ya 35 1 z (sj R2 ▸ yy ⟨I34, rfl, lr, S45⟩)
 exact yz 50 H (yf 28 1 [2] z (yi (S45.rf m0) z (yf 30 2 [0] z (yi (S45.rf m1) z (bsk R2 fun r55 Xr50 R2 => WO.c1 (r18_Is_ok (up h_p0.Roles) S45 Xr50) z fun I52 w51 L53 S54 => ya 34 2 z (sj R2 ▸ yy ⟨I52, rfl, L53, S54⟩))))))
 rintro _ w56 ⟨I48, rfl, L49, S57⟩
 refine yb (y0 R1 (fun H R1 => ?_) (fun H R1 => ?_))
 refine ye [0] (ya 0 1 z (yb (yr (yg (ym (yg (yu ?_)))))))
 obtain rfl := hext5 _ (sj R1).symm
 exact ym (yg (sj G ▸ yx ⟨I48, rfl, le, S57.d2⟩))
 exact yk (yc (yag nL3 (yf 0 1 [1] z (yi (S57.rf m1) z (ya 2 1 z (yq (yl (yc (yag nL3 (ya 0 1 z (yan i9 z (ya 2 1 z (yq (yv ⟨x16.By, (sj R1).symm, I48, rfl, le, S57.front1.drop⟩))))))))))))))
 rintro s8 _ w65 ⟨I6, rfl, L7, S66⟩ he
 cases he
 exact W.seq (ye nL4 (ya 0 4 z (yb (yat fun _ => y8 (yo (yp (yt (yc (ye nL5 (y3 ((cs_qC p0 w_p0)) (S66.rf m0) z (ya 1 2 z (bsk G fun r72 Xr67 G => WO.c1 (r19_Owns_ok (h_p0.mono L7) S66 Xr67) z fun I69 w68 L70 S71 => ya 4 1 z (yb (yr (sj G ▸ yx ⟨I69, rfl, le, S71.drop⟩)))))))))))))))
noncomputable def law32_WhyHolds (p0 : List law19_Act) (p1 : List qG) (p2 : law32_Asked) : Option Bool := (law19_Few p0).bind (fun r10 => ((bif (!r10) then some true else (r19_Few p1).bind (fun r20 => some (!r20)))).bind (fun (j11 : Bool) => ((bif j11 then some true else (law32_few ([p2.Role, p2.Table] : List By8)).bind (fun r41 => some (!r41)))).bind (fun (j23 : Bool) => (bif j23 then (law32_works).bind (fun r51 => some r51) else (law19_Grown p0).bind (fun r58 => (why_Why r58 p2.Role p2.Priv p2.Table).bind (fun (r71, r72) => (grants_May r58 p2.Role p2.Priv p2.Table).bind (fun r78 => ((bif (!(r72 == r78)) then some true else (why_Check r58 p2.Role p2.Priv p2.Table r71).bind (fun r89 => some ((!(r72 == r89)) && r72)))).bind (fun (j79 : Bool) => (bif j79 then some false else (grants_Held r58).bind (fun r102 => (forN (fun (i106 : Nat) (_s : Unit) => (idx r71 (i106 : Int)).bind (fun x113 => (law32_has r102 x113).bind (fun r119 => (bif (!r119) then some (.inr false) else some (.inl ()))))) r71.length 0 ()).bind (fun (t : Unit ⊕ (Bool)) => match t with | .inl _ => (forN (fun (i131 : Nat) (_s : Unit) => ((bif (decide ((i131 : Int) > 11)) then some true else (idx p1 (i131 : Int)).bind (fun x144 => (law32_has r58.Grants x144).bind (fun r150 => some (!r150))))).bind (fun (j140 : Bool) => (bif j140 then (law32_works).bind (fun r158 => some (.inr r158)) else some (.inl ())))) p1.length 0 ()).bind (fun (t : Unit ⊕ (Bool)) => match t with | .inl _ => (r32_Check r58 p2.Role p2.Priv p2.Table p1).bind (fun r172 => (some ((!r172) || (r72 && (decide ((r71.length : Int) ≤ (p1.length : Int)))))).bind (fun (q175 : Bool) => ((bif q175 then (law32_works).bind (fun r189 => some r189) else some false)).bind (fun (j180 : Bool) => some j180))) | .inr s160 => some s160) | .inr s121 => some s121)))))))))))
theorem law32_WhyHolds_ok {p0 : List law19_Act} {p1 : List qG} {p2 : law32_Asked} {a_p0 : Option Addr} {c_p0 : Nat} {a_p1 : Option Addr} {c_p1 : Nat} (h_p0 : RSl 22 R_law19_Act I a_p0 c_p0 p0) (h_p1 : RSl 5 R_qG I a_p1 c_p1 p1) (hS : St E w I Os) {r : Bool} (G : law32_WhyHolds p0 p1 p2 = some r) :
    Calls P 6 #[(Sl a_p0 p0 c_p0), (Sl a_p1 p1 c_p1), (.agg (cs_law32_Asked p2).toArray)] w (RT E I Os (.bool r)) := by
 refine calls_W (fn := Tryz.f6) rfl rfl rfl ?_
 unfold law32_WhyHolds at G
 refine ye nL2 (y4 hS (cs_law32_Asked p2) 25 z fun b1 w4 S3 => ya 1 1 z (yb (W.seq (ye nL17 (ya 0 1 z (bsk G fun r10 Xr5 G => WO.c1 (law19_Few_ok h_p0 S3 Xr5) z fun I7 w6 L8 S9 => ya 2 2 z (bsk G fun j11 R1 G => yam (l1 := [4, 5, 6, 7]) (J := JI E I7 [(0, Sl a_p0 p0 c_p0), (1, Sl a_p1 p1 c_p1), (5, Pt b1 0), (20, .bool j11)] ((Bx b1 (cs_law32_Asked p2) 25) :: Os)) ?_ ?_)))))))
 refine yal R1 (fun H R1 => ?_) (fun H R1 => ?_)
 refine yz 16 H ?_
 iterate 3 refine yak ?_
 exact ya 7 1 z (sj R1 ▸ yy ⟨I7, rfl, lr, S9⟩)
 exact yz 16 H (ya 4 1 z (bsk R1 fun r20 Xr15 R1 => WO.c1 (r19_Few_ok (RSl.mono h_p1 L8) S9 Xr15) z fun I17 w16 L18 S19 => ya 6 2 z (sj R1 ▸ yy ⟨I17, rfl, L18, S19⟩)))
 rintro _ w21 ⟨I13, rfl, L14, S22⟩
 refine ya 8 1 z (bsk G fun j23 R1 G => yam (l1 := [9, 10, 11, 12, 13, 14, 15, 16]) (J := JI E I13 [(0, Sl a_p0 p0 c_p0), (1, Sl a_p1 p1 c_p1), (5, Pt b1 0), (29, .bool j23)] ((Bx b1 (cs_law32_Asked p2) 25) :: Os)) ?_ ?_)
 refine yal R1 (fun H R1 => ?_) (fun H R1 => ?_)
 refine yz 21 H ?_
 iterate 7 refine yak ?_
 exact ya 16 1 z (sj R1 ▸ yy ⟨I13, rfl, lr, S22⟩)
 refine yz 21 H (yf 9 1 [0] z (yi (S22.rf m0) z (yf 11 1 [1] z (yi (S22.rf m0) z (yac (rel := RStr) (xs := ([p2.Role, p2.Table] : List By8)) S22 z kr z 9 1 [[(.string p2.Role)], [(.string p2.Table)]] kr z ((Elr.cons z (Elr.cons z Elr.nil))) tv ?_)))))
 intro a30 C28 w32 S31 ho29
 have hp35 := (ho29).publish S31
 refine bsk R1 fun r41 Xr36 R1 => yaj (law32_few_ok hp35 S31.publish Xr36) ?_
 rintro _ w37 ⟨I38, rfl, L39, S40⟩
 have S42 := St.back S31 L39 S40
 exact cv (ya 15 2 z (sj R1 ▸ yy ⟨I13, rfl, lr, S42.drop⟩))
 rintro _ w44 ⟨I25, rfl, L26, S45⟩
 refine yb (y0 G (fun H G => ?_) (fun H G => ?_))
 exact ye nL2 (bsk G fun r51 Xr46 G => WO.c1 (law32_works_ok  S45 Xr46) z fun I48 w47 L49 S50 => ya 1 1 z (yb (yr (yg (sj G ▸ yx ⟨I48, rfl, le, S50.drop⟩)))))
 refine yk (yc (ye nL4 (ya 0 1 z (bsk G fun r58 Xr53 G => yaj (law19_Grown_ok (up h_p0) S45 Xr53) ?_))))
 rintro _ w54 ⟨I55, w_r58, rfl, L56, S57, h_r58⟩
 refine cv (y4 S57 (cs_qC z_qC zw_qC) 33 z fun b59 w62 S61 => y7 S61 0 (cs_qC r58 w_r58) fun w65 S63 => y6 nL13 (y3 ((cs_qC r58 w_r58)) (S63.rf m0) z (yf 1 1 [0] z (yi (S63.rf m1) z (yf 3 1 [2] z (yi (S63.rf m1) z (yf 5 1 [1] z (yi (S63.rf m1) z ?_))))))))
 obtain ⟨⟨r71, r72⟩, Xr66, G⟩ := bsm G
 refine yaj (why_Why_ok h_r58 S63 Xr66) ?_
 rintro _ w67 ⟨I68, a_r71, c_r71, rfl, L69, S70, h_r71⟩
 refine cv (ya 8 5 z (yb (W.seq (ye nL26 (ya 0 1 z (y3 ((cs_qC r58 w_r58)) (S70.rf m0) z (yf 2 1 [0] z (yi (S70.rf m1) z (yf 4 1 [2] z (yi (S70.rf m1) z (yf 6 1 [1] z (yi (S70.rf m1) z (bsk G fun r78 Xr73 G => WO.c1 (grants_May_ok (h_r58.mono L69) S70 Xr73) z fun I75 w74 L76 S77 => yab 9 53 (.bool (!(r72 == r78))) (ya 10 1 z (bsk G fun j79 R1 G => yam (l1 := [11, 12, 13, 14, 15, 16, 17, 18, 19, 20, 21, 22, 23, 24, 25]) (J := JI E I75 [(1, Sl a_p1 p1 c_p1), (5, Pt b1 0), (7, Pt b59 0), (8, Sl a_r71 r71 c_r71), (9, .bool r72), (69, .bool j79)] ((Bx b1 (cs_law32_Asked p2) 25) :: (bC b59 r58 w_r58) :: Os)) ?_ ?_)))))))))))))))
 refine yal R1 (fun H R1 => ?_) (fun H R1 => ?_)
 refine yz 54 H ?_
 iterate 14 refine yak ?_
 exact ya 25 1 z (sj R1 ▸ yy ⟨I75, rfl, lr, S77.front1⟩)
 exact yz 54 H (ya 11 1 z (y3 ((cs_qC r58 w_r58)) (S77.rf m0) z (yf 13 1 [0] z (yi (S77.rf m1) z (yf 15 1 [2] z (yi (S77.rf m1) z (yf 17 1 [1] z (yi (S77.rf m1) z (ya 19 1 z (bsk R1 fun r89 Xr84 R1 => WO.c1 (why_Check_ok (h_r58.mono le) (RSl.mono h_r71 L76) S77 Xr84) z fun I86 w85 L87 S88 => yab 21 65 (.bool (!(r72 == r89))) (ya 22 1 z (yar [23] 24 66 68 (.refl ((!(r72 == r89)) && r72)) (fun _ => ya 23 2 z yai) (ya 25 1 z (sj R1 ▸ yy ⟨I86, rfl, L87, S88.front1⟩))))))))))))))
 rintro _ w93 ⟨I81, rfl, L82, S94⟩
 refine yb (y0 G (fun H G => ?_) (fun H G => ?_))
 exact ye [0] (ya 0 1 z (yb (yr (yg (sj G ▸ yx ⟨I81, rfl, le, S94.d2⟩)))))
 refine yk (yc (ye nL3 (y3 ((cs_qC r58 w_r58)) (S94.rf m1) z (bsk G fun r102 Xr97 G => yaj (grants_Held_ok (h_r58.mono le) S94 Xr97) ?_))))
 rintro _ w98 ⟨I99, a_r102, c_r102, rfl, L100, S101, h_r102⟩
 refine cv (ya 2 1 z (yb (W.seq (ye [0] (ya 0 1 z (yb (yn (bsk G fun t103 hloop107 G => have hlt111 := ((RSl.mono h_r71 ((L76.trans L82).trans L100))).len_lt; W.wk (yaq (m := r71.length) hloop107 (fun (i106 : Nat) (_s : Unit) => JI E I99 [(1, Sl a_p1 p1 c_p1), (5, Pt b1 0), (7, Pt b59 0), (8, Sl a_r71 r71 c_r71), (9, .bool r72), (10, Sl a_r102 r102 c_r102), (11, Nv i106)] ((Bx b1 (cs_law32_Asked p2) 25) :: (bC b59 r58 w_r58) :: Os)) ⟨I99, rfl, lr, S101⟩ ?_ ?_)))))))))
 rintro i106 _ _ w108 hi112 ⟨I104, rfl, L105, S109⟩ x110 R1 hext103
 refine W.seq (ye nL4 (ya 0 4 z (yb (yas fun _ => yk (yc (W.seq (yn (ye nL7 (ya 0 3 z ?_)))))))))
 obtain ⟨x113, R1, Hx113, _, rfl, Zx113⟩ := sx I104 h_r71 R1
 refine yaa 50 5 Hx113 z (yav ((cs_qG x113)) Zx113 0 S109.rm z (bsk R1 fun r119 Xr114 R1 => WO.c1 (law32_has_ok (RSl.mono h_r102 L105) S109 Xr114) z fun I116 w115 L117 S118 => ya 6 1 z (yb (y0 R1 (fun H R1 => ?_) (fun H R1 => ?_)))))
 refine ye [0] (ya 0 1 z (yb (yr (ym (yg (yu ?_))))))
 obtain rfl := hext103 _ (sj R1).symm
 exact ym (yg (sj G ▸ yx ⟨I116, rfl, le, S118.d2⟩))
 exact yk (yl (yc (yag nL3 (ya 0 1 z (yan i106 z (ya 2 1 z (yq (yv ⟨(), (sj R1).symm, I116, rfl, le, S118⟩))))))))
 rintro _ _ w126 ⟨I104, rfl, L105, S127⟩ he
 cases he
 refine W.seq (ye nL4 (ya 0 4 z (yb (yat fun _ => y8 (yo (yp (yt (yc (W.seq (ye [0] (ya 0 1 z (yb (yn (bsk G fun t128 hloop132 G => have hlt136 := ((RSl.mono h_p1 ((((((((L8.trans L14).trans L26).trans L56).trans L69).trans L76).trans L82).trans L100).trans L105))).len_lt; W.wk (yaq (m := p1.length) hloop132 (fun (i131 : Nat) (_s : Unit) => JI E I104 [(1, Sl a_p1 p1 c_p1), (5, Pt b1 0), (7, Pt b59 0), (8, Sl a_r71 r71 c_r71), (9, .bool r72), (12, Nv i131)] ((Bx b1 (cs_law32_Asked p2) 25) :: (bC b59 r58 w_r58) :: Os)) ⟨I104, rfl, lr, S127⟩ ?_ ?_)))))))))))))))
 rintro i131 _ _ w133 hi137 ⟨I129, rfl, L130, S134⟩ x135 R1 hext128
 refine W.seq (ye nL4 (ya 0 4 z (yb (yas fun _ => yk (yc (W.seq (yn (W.seq (have S138 := S134.drew; yba nL12 12 (yw (S138.rd m1) (yae S138.im)) ?_)))))))))
 generalize World.drew _ = w139 at *
 refine ya 0 3 z (bsk R1 fun j140 R2 R1 => yam (l1 := [3, 4, 5, 6, 7, 8, 9, 10, 11]) (J := JI E I129 [(1, Sl a_p1 p1 c_p1), (5, Pt b1 0), (7, Pt b59 0), (8, Sl a_r71 r71 c_r71), (9, .bool r72), (12, Nv i131), (102, .bool j140)] ((Bx b1 (cs_law32_Asked p2) 25) :: (bC b59 r58 w_r58) :: Os)) ?_ ?_)
 refine yal R2 (fun H R2 => ?_) (fun H R2 => ?_)
 refine yz 93 H ?_
 iterate 8 refine yak ?_
 exact ya 11 1 z (sj R2 ▸ yy ⟨I129, rfl, lr, S138⟩)
 refine yz 93 H (yf 3 1 [3] z (yi (rd_c m0 (S138.rd m1)) z (ya 5 2 z ?_)))
 obtain ⟨x144, R2, Hx144, _, rfl, Zx144⟩ := sx I129 h_p1 R2
 refine yaa 50 5 Hx144 z (yav ((cs_qG x144)) Zx144 0 (rd_i S138.im) z (bsk R2 fun r150 Xr145 R2 => yaj (law32_has_ok (up h_r58.Grants) S138 Xr145) ?_))
 rintro _ w146 ⟨I147, rfl, L148, S149⟩
 refine ⟨_, rfl, (yw (S149.rd m1) (yae (S149.im.of_le L148))), ?_⟩
 exact ya 10 2 z (sj R2 ▸ yy ⟨I147, rfl, L148, S149⟩)
 rintro _ w151 ⟨I142, rfl, L143, S152⟩
 refine yb (y0 R1 (fun H R1 => ?_) (fun H R1 => ?_))
 refine ye nL2 (bsk R1 fun r158 Xr153 R1 => WO.c1 (law32_works_ok  S152 Xr153) z fun I155 w154 L156 S157 => ya 1 1 z (yb (yr (ym (yg (yu ?_))))))
 obtain rfl := hext128 _ (sj R1).symm
 exact ym (yg (sj G ▸ yx ⟨I155, rfl, le, S157.d2⟩))
 exact yk (yl (yc (yag nL3 (ya 0 1 z (yan i131 z (ya 2 1 z (yq (yv ⟨(), (sj R1).symm, I142, rfl, le, S152⟩))))))))
 rintro _ _ w165 ⟨I129, rfl, L130, S166⟩ he
 cases he
 refine W.seq (ye nL4 (ya 0 4 z (yb (yat fun _ => y8 (yo (yp (yt (yc (ye nL24 (y3 ((cs_qC r58 w_r58)) (S166.rf m1) z (yf 1 1 [0] z (yi (S166.rf m0) z (yf 3 1 [2] z (yi (S166.rf m0) z (yf 5 1 [1] z (yi (S166.rf m0) z (ya 7 1 z (bsk G fun r172 Xr167 G => WO.c1 (r32_Check_ok (h_r58.mono le) (up h_p1) S166 Xr167) z fun I169 w168 L170 S171 => ya 9 2 z (bsq G fun q175 Xq175 G => ya1 [11, 12, 13, 14, 15, 16, 17, 18] 19 114 123 Xq175 (fun _ => ya 11 2 z (yar [13, 14, 15, 16, 17] 18 116 122 (.refl (r72 && (decide ((r71.length : Int) ≤ (p1.length : Int))))) (fun _ => ya 13 6 z yai) (ya 19 1 z yai))) (ya 20 1 z (bsk G fun j180 R1 G => yam (l1 := [21, 22]) (J := JI E I169 [(126, .bool j180)] Os) ?_ ?_)))))))))))))))))))))
 refine yal R1 (fun H R1 => ?_) (fun H R1 => ?_)
 exact yz 124 H (bsk R1 fun r189 Xr184 R1 => WO.c1 (law32_works_ok  S171 Xr184) z fun I186 w185 L187 S188 => ya 22 1 z (sj R1 ▸ yy ⟨I186, rfl, L187, S188.d2⟩))
 refine yz 124 H (yak ?_)
 exact ya 22 1 z (sj R1 ▸ yy ⟨I169, rfl, lr, S171.d2⟩)
 rintro _ w194 ⟨I182, rfl, L183, S195⟩
 exact ya 23 1 z (yb (yr (sj G ▸ yx ⟨I182, rfl, le, S195⟩)))
end Go.Proofs.YtlfphpegelclpaaGreat
