/- What functions of the program come to, each by a plain one. Conditions: none. -/
import Derived.Test.YthndadengamanaaF4
set_option maxRecDepth 100000
namespace Go.Proofs.Ythndadengamanaa
open Go.Gv
def member_Drop_1 (p0 : ByteArray) (q1 : ByteArray) : Option Bool := some (sEq p0 q1)
set_option maxHeartbeats 1000000 in
theorem member_Drop_1_ok {E w : World} {I : Mem} {Os : List Mem} {p0 : ByteArray} {q1 : ByteArray} {kb1 : Nat} (hm1 : (Gv.one kb1 (.cells #[(.string q1)] 9 (0, 0))) ∈ Os) (hS : St E w I Os) {r : Bool} (hr : member_Drop_1 p0 q1 = some r) :
    Calls P 45 #[(.string p0), (.pointer (some ⟨kb1, 0, none⟩))] w (fun e w' => ∃ (I' : Mem), e = .returned (.bool r) ∧ I.Le I' ∧ St E w' I' Os) := by
  refine calls_W (args := [(.string p0), (.pointer (some ⟨kb1, 0, none⟩))]) (fn := Try.f45) rfl rfl rfl ?_
  unfold member_Drop_1 at hr
  refine W.seq ?_
  refine W.region (l := [0]) (by kernel_rfl) ?_
  refine WO.vals [(0, 3, (.bool false))] (by kernel_rfl) (fun _ => by kernel_rfl) ?_
  refine WO.nil ?_
  refine En.next ?_
  refine W.seq ?_
  refine W.region (l := [0, 1, 2, 3]) (by kernel_rfl) ?_
  refine WO.vals [(0, 4, (.string p0))] (by kernel_rfl) (fun _ => by kernel_rfl) ?_
  refine WO.load rfl (by kernel_rfl) (by kernel_rfl) rfl (v := (.string q1)) (fun w' hw' => cell_one ((rd_f (hS.rd hm1)) w' hw') (by kernel_rfl)) ?_
  refine WO.vals [(2, 6, (.bool (sEq p0 q1))), (3, 3, (.bool (sEq p0 q1)))] (by kernel_rfl) (fun _ => by kernel_rfl) ?_
  refine WO.nil ?_
  refine En.next ?_
  refine W.ret ?_
  have he := Option.some.inj hr
  subst r
  exact En.ret1 rfl (.bool (sEq p0 q1)) rfl ⟨I, rfl, Mem.Le.refl _, hS⟩
noncomputable def dropAll (xs : List api_Role) (n : ByteArray) : Option (List api_Role) := forE (fun (i : Nat) => fun (s : List api_Role) => (idx s (i : Int)).bind fun x => (slices_DeleteFunc_string x.In (fun (u0 : ByteArray) => member_Drop_1 u0 n)).bind fun y => some (s.set i { x with In := y })) xs.length 0 xs
noncomputable def dropT (l : List api_Role) (i : Int) (n : ByteArray) : Option (List api_Role × Int) := open Classical in if fits l ∧ 0 ≤ i ∧ i < (l.length : Int) then (dropAll (l.take i.toNat ++ l.drop (i + 1).toNat) n).bind fun y => some (y, 0) else none
noncomputable def member_Drop (p0 : List api_Role) (p1 : ByteArray) : Option ((List api_Role) × Int) := (member_Check p0).bind (fun (r10 : Int) => (bif (r10 != 0) then some (([] : List api_Role), r10) else (member_at p0 p1).bind (fun (r17 : Int) => (bif (decide (r17 < 0)) then some (([] : List api_Role), 4) else (bif (sEq p1 (⟨#[114, 111, 111, 116]⟩ : ByteArray)) then some (([] : List api_Role), 34) else (dropT p0 r17 p1))))))
set_option maxHeartbeats 1000000 in
theorem member_Drop_ok {E w : World} {I : Mem} {Os : List Mem} {p0 : List api_Role} {p1 : ByteArray} {a_p0 : Option Addr} {c_p0 : Nat} (h_p0 : RSl 2 R_api_Role I a_p0 c_p0 p0) (hS : St E w I Os) {r : (List api_Role) × Int} (hr : member_Drop p0 p1 = some r) :
    Calls P 21 #[(.slice a_p0 p0.length c_p0), (.string p1)] w (fun e w' => ∃ (I' : Mem) (ra0 : Option Addr) (rc0 : Nat), e = .returned (.tuple #[(.slice ra0 r.1.length rc0), (.int .i64 r.2)]) ∧ I.Le I' ∧ St E w' I' Os ∧ RSl 2 R_api_Role I' ra0 rc0 r.1) := by
  refine calls_W (args := [(.slice a_p0 p0.length c_p0), (.string p1)]) (fn := Try.f21) rfl rfl rfl ?_
  unfold member_Drop at hr
  refine W.seq ?_
  refine W.region (l := [0, 1, 2]) (by kernel_rfl) ?_
  refine WO.new hS rfl (by kernel_rfl) rfl (.cells #[(.string p1)] 9 (0, 0)) (fun b => .pointer (some ⟨b, 0, none⟩)) (by kernel_rfl) (fun _ _ _ => trivial) ?_
  intro b1 w4 hS3
  refine WO.vals [(1, 4, (.slice none 0 0)), (2, 5, (.int .i64 0))] (by kernel_rfl) (fun _ => by kernel_rfl) ?_
  refine WO.nil ?_
  refine En.next ?_
  refine W.seq ?_
  refine W.seq ?_
  refine W.region (l := [0, 1, 2]) (by kernel_rfl) ?_
  refine WO.vals [(0, 10, (.slice a_p0 p0.length c_p0))] (by kernel_rfl) (fun _ => by kernel_rfl) ?_
  obtain ⟨r10, hx_r5, hr⟩ := bind_some hr
  refine WO.call rfl (by kernel_rfl) rfl (f := 18) (args := #[(.slice a_p0 p0.length c_p0)]) (by kernel_rfl) (member_Check_ok h_p0 hS3 hx_r5) ?_
  rintro _ w6 ⟨I7, rfl, hl8, hS9⟩
  refine ⟨_, rfl, trivial, ?_⟩
  refine WO.vals [(2, 6, (.int .i64 r10))] (by kernel_rfl) (fun _ => by kernel_rfl) ?_
  refine WO.nil ?_
  refine En.next ?_
  refine W.seq ?_
  refine W.region (l := [0, 1]) (by kernel_rfl) ?_
  refine WO.vals [(0, 12, (.int .i64 r10)), (1, 13, (.bool (r10 != 0)))] (by kernel_rfl) (fun _ => by kernel_rfl) ?_
  refine WO.nil ?_
  refine En.next ?_
  refine W.cond (b := (r10 != 0)) rfl rfl (fun hc => ?_) (fun hc => ?_)
  · replace hr := cond_t hc hr
    refine W.seq ?_
    refine W.region (l := [0, 1, 2]) (by kernel_rfl) ?_
    refine WO.vals [(0, 14, (.int .i64 r10)), (1, 4, (.slice none 0 0)), (2, 5, (.int .i64 r10))] (by kernel_rfl) (fun _ => by kernel_rfl) ?_
    refine WO.nil ?_
    refine En.next ?_
    refine W.ret ?_
    refine En.nx_ret ?_
    have hS11 := hS9.drop
    have he := Option.some.inj hr
    subst r
    exact En.ret2 rfl (.slice none 0 0) (.int .i64 r10) rfl rfl ⟨I7, none, 0, rfl, hl8, hS11, SlAt.nil⟩
  · replace hr := cond_f hc hr
    refine W.skip ?_
    refine En.next ?_
    refine W.seq ?_
    refine W.region (l := [0, 1, 2, 3]) (by kernel_rfl) ?_
    refine WO.vals [(0, 15, (.slice a_p0 p0.length c_p0))] (by kernel_rfl) (fun _ => by kernel_rfl) ?_
    refine WO.load rfl (by kernel_rfl) (by kernel_rfl) rfl (v := (.string p1)) (fun w' hw' => cell_one ((rd_f (hS9.rd (List.Mem.head _))) w' hw') (by kernel_rfl)) ?_
    obtain ⟨r17, hx_r12, hr⟩ := bind_some hr
    refine WO.call rfl (by kernel_rfl) rfl (f := 23) (args := #[(.slice a_p0 p0.length c_p0), (.string p1)]) (by kernel_rfl) (member_at_ok (RSl.mono h_p0 hl8) hS9 hx_r12) ?_
    rintro _ w13 ⟨I14, rfl, hl15, hS16⟩
    refine ⟨_, rfl, trivial, ?_⟩
    refine WO.vals [(3, 7, (.int .i64 r17))] (by kernel_rfl) (fun _ => by kernel_rfl) ?_
    refine WO.nil ?_
    refine En.next ?_
    refine W.seq ?_
    refine W.block ?_
    refine W.seq ?_
    refine W.region (l := [0, 1, 2]) (by kernel_rfl) ?_
    refine WO.vals [(0, 19, (.int .i64 r17)), (1, 20, (.bool (decide (r17 < 0)))), (2, 18, (.bool (decide (r17 < 0))))] (by kernel_rfl) (fun _ => by kernel_rfl) ?_
    refine WO.nil ?_
    refine En.next ?_
    refine W.cond (b := (decide (r17 < 0))) rfl rfl (fun hc => ?_) (fun hc => ?_)
    · replace hr := cond_t hc hr
      refine W.seq ?_
      refine W.region (l := [0, 1]) (by kernel_rfl) ?_
      refine WO.vals [(0, 4, (.slice none 0 0)), (1, 5, (.int .i64 4))] (by kernel_rfl) (fun _ => by kernel_rfl) ?_
      refine WO.nil ?_
      refine En.next ?_
      refine W.ret ?_
      refine En.in_ret ?_
      refine En.nx_ret ?_
      have hS18 := hS16.drop
      have he := Option.some.inj hr
      subst r
      exact En.ret2 rfl (.slice none 0 0) (.int .i64 4) rfl rfl ⟨I14, none, 0, rfl, (hl8.trans hl15), hS18, SlAt.nil⟩
    · replace hr := cond_f hc hr
      refine W.seq ?_
      refine W.region (l := [0, 1, 2]) (by kernel_rfl) ?_
      refine WO.load rfl (by kernel_rfl) (by kernel_rfl) rfl (v := (.string p1)) (fun w' hw' => cell_one ((rd_f (hS16.rd (List.Mem.head _))) w' hw') (by kernel_rfl)) ?_
      refine WO.vals [(1, 23, (.bool (sEq p1 (⟨#[114, 111, 111, 116]⟩ : ByteArray)))), (2, 21, (.bool (sEq p1 (⟨#[114, 111, 111, 116]⟩ : ByteArray))))] (by kernel_rfl) (fun _ => by kernel_rfl) ?_
      refine WO.nil ?_
      refine En.next ?_
      refine W.cond (b := (sEq p1 (⟨#[114, 111, 111, 116]⟩ : ByteArray))) rfl rfl (fun hc => ?_) (fun hc => ?_)
      · replace hr := cond_t hc hr
        refine W.seq ?_
        refine W.region (l := [0, 1]) (by kernel_rfl) ?_
        refine WO.vals [(0, 4, (.slice none 0 0)), (1, 5, (.int .i64 34))] (by kernel_rfl) (fun _ => by kernel_rfl) ?_
        refine WO.nil ?_
        refine En.next ?_
        refine W.ret ?_
        refine En.in_ret ?_
        refine En.nx_ret ?_
        have hS19 := hS16.drop
        have he := Option.some.inj hr
        subst r
        exact En.ret2 rfl (.slice none 0 0) (.int .i64 34) rfl rfl ⟨I14, none, 0, rfl, (hl8.trans hl15), hS19, SlAt.nil⟩
      · replace hr := cond_f hc hr
        refine W.skip ?_
        refine En.in_normal ?_
        refine En.next ?_
        refine W.seq ?_
        refine W.region (l := [0, 1, 2, 3, 4, 5, 6]) (by kernel_rfl) ?_
        refine WO.vals [(0, 24, (.slice a_p0 p0.length c_p0))] (by kernel_rfl) (fun _ => by kernel_rfl) ?_
        have hr0 := hr
        unfold dropT at hr0
        split at hr0
        rotate_left
        · cases hr0
        rename_i hfit
        obtain ⟨hfit, i0, i1⟩ := hfit
        obtain ⟨y0, hy0, hr0⟩ := bind_some hr0
        have he := Option.some.inj hr0
        subst he
        unfold dropAll at hy0
        obtain ⟨kn, hkn⟩ := Int.eq_ofNat_of_zero_le i0
        have hk1 : kn < p0.length := by omega
        refine WO.call rfl (by kernel_rfl) rfl (f := 39) (args := #[(.slice a_p0 p0.length c_p0)]) (by kernel_rfl) (clone2_ok (RSl.mono h_p0 (hl8.trans hl15)) hS16 hfit) ?_
        rintro _ qw1 ⟨QI1, a, c, C, rs, Ds, rfl, ql1, qS1, ho1, hn1⟩
        refine ⟨_, rfl, trivial, ?_⟩
        refine WO.vals [(2, 26, (.int .i64 r17)), (3, 27, (.int .i64 r17)), (4, 28, (.int .i64 (w64 (r17 + 1))))] (by kernel_rfl) (fun _ => by kernel_rfl) ?_
        have hxc := ho1.sl.lt
        have hxl := ho1.sl.le
        have hn1l := hn1.l1
        have hw1 : w64 (r17 + 1) = ((kn + 1 : Nat) : Int) := by rw [hkn, w64_id (by omega) (by unfold big at hxc; omega)]; rfl
        refine WO.reslot 28 rfl (congrArg (Value.int .i64) hw1) ?_
        refine WO.reslot 26 rfl (congrArg (Value.int .i64) hkn) ?_
        refine WO.call rfl (by kernel_rfl) rfl (f := 44) (args := #[(.slice a rs.length c), (.int .i64 (kn : Int)), (.int .i64 ((kn + 1 : Nat) : Int))]) (by rw [hn1l]; kernel_rfl) (del44_ok ho1 qS1 (p := kn) (q := kn + 1) (by omega) (by omega)) ?_
        rintro _ qw2 ⟨C2, rfl, qS2, ho2⟩
        refine ⟨_, rfl, trivial, ?_⟩
        rw [hkn, Int.toNat_natCast, show ((kn : Int) + 1).toNat = kn + 1 by omega] at hy0
        have hn2 := hn1.del (p := kn) (q := kn + 1) (by omega) (by omega)
        have hn2l := hn2.l1
        rw [hn2l]
        have qS2b : St E qw2 QI1 (C2 :: ((Ds.take kn ++ Ds.drop (kn + 1)) ++ ((Gv.one b1 (.cells #[(.string p1)] 9 (0, 0))) :: Os))) := qS2.sub ((List.Sublist.append (del_sub Ds (by omega)) (List.Sublist.refl _)).cons_cons C2)
        generalize Ds.take kn ++ Ds.drop (kn + 1) = Ds2 at *
        generalize rs.take kn ++ rs.drop (kn + 1) = rs2 at *
        generalize p0.take kn ++ p0.drop (kn + 1) = xs0 at *
        refine WO.vals [(6, 8, (.slice a xs0.length c))] (by kernel_rfl) (fun _ => by kernel_rfl) ?_
        refine WO.nil ?_
        refine En.next ?_
        refine W.seq ?_
        refine W.seq ?_
        refine W.region (l := [0, 1, 2]) (by kernel_rfl) ?_
        refine WO.vals [(0, 30, (.slice a xs0.length c)), (1, 31, (.int .i64 (xs0.length : Int))), (2, 32, (.int .i64 0))] (by kernel_rfl) (fun _ => by kernel_rfl) ?_
        refine WO.nil ?_
        refine En.next ?_
        refine W.block ?_
        have hlt16 := (ho2.sl).len_lt
        refine W.weaken (fr' := [(3, (.pointer (some ⟨b1, 0, none⟩))), (8, (.slice a xs0.length c)), (31, (.int .i64 (xs0.length : Int))), (32, (.int .i64 ((0 : Nat) : Int)))]) (W.forE (m := xs0.length) hy0 (fun (i : Nat) => fun (s : List api_Role) fr w => ∃ (J C' : Mem) (rs : List RawRole) (Ds : List Mem), fr = [(3, (.pointer (some ⟨b1, 0, none⟩))), (8, (.slice a xs0.length c)), (31, (.int .i64 (xs0.length : Int))), (32, (.int .i64 (i : Int)))] ∧ QI1.Le J ∧ St E w J (C' :: (Ds ++ ((Gv.one b1 (.cells #[(.string p1)] 9 (0, 0))) :: Os))) ∧ OwnSl 27 2 R_Raw J C' a c rs ∧ Nest J rs Ds s ∧ s.length = xs0.length) ⟨QI1, C2, rs2, Ds2, rfl, Mem.Le.refl _, qS2b, ho2, hn2, rfl⟩ ?roundt7 ?lastt7) (Sub.cons rfl (Sub.cons rfl (Sub.cons rfl (Sub.cons rfl Sub.nil))))
        case roundt7 =>
          rintro i s _ qw13 hi ⟨J, C', rs, Ds, rfl, ql9, qS14, ho, hn, hsl⟩ x15 hr1
          refine W.seq ?_
          refine W.region (l := [0]) (by kernel_rfl) ?_
          refine WO.vals [(0, 33, (.bool (decide ((i : Int) < (xs0.length : Int)))))] (by kernel_rfl) (fun _ => by kernel_rfl) ?_
          refine WO.nil ?_
          refine En.next ?_
          refine W.seq ?_
          refine W.cond (b := (decide ((i : Int) < (xs0.length : Int)))) rfl rfl (fun hc => ?_) (fun hc => ?_)
          rotate_left
          · exact absurd hc (by first | (simp; done) | (simp; omega))
          clear hc
          refine W.skip ?_
          refine En.next ?_
          refine W.seq ?_
          refine W.block ?_
          refine W.seq ?_
          refine W.region (l := [0, 1]) (by kernel_rfl) ?_
          refine WO.vals [(0, 34, (.int .i64 (i : Int))), (1, 9, (.int .i64 (i : Int)))] (by kernel_rfl) (fun _ => by kernel_rfl) ?_
          refine WO.nil ?_
          refine En.next ?_
          refine W.region (l := [0, 1, 2, 3, 4, 5, 6, 7, 8, 9, 10, 11]) (by kernel_rfl) ?_
          refine WO.vals [(0, 35, (.slice a xs0.length c)), (1, 36, (.int .i64 (i : Int))), (2, 37, (.slice a xs0.length c)), (3, 38, (.int .i64 (i : Int)))] (by kernel_rfl) (fun _ => by kernel_rfl) ?_
          obtain ⟨x0, hx0, hr1⟩ := bind_some hr1
          rw [idx_nat] at hx0
          obtain ⟨y1, hy1, hr1⟩ := bind_some hr1
          have he := Option.some.inj hr1
          subst he
          obtain ⟨r1, D1, e1, e2, g1, g2, g3⟩ := hn.get hx0
          have hlt := (List.getElem?_eq_some_iff.1 e2).1
          obtain ⟨ha, cs, hcn, hrr, hcc⟩ := ho.sl.el _ _ e1
          obtain rfl := hrr
          refine WO.indexAddr (e := 27) (sz := 2) rfl (by kernel_rfl) (by kernel_rfl) (by kernel_rfl) rfl ha rfl (by omega) (by omega) ?_
          refine WO.vals [(5, 40, (.pointer (some ⟨bl a, of a + ((i : Int)).toNat * 2 + 1, none⟩)))] (by kernel_rfl) (fun _ => by kernel_rfl) ?_
          refine WO.load rfl (by kernel_rfl) (by kernel_rfl) rfl (v := (.slice r1.a r1.n r1.c)) (fun w' hw' => hcc.cellk 1 (by kernel_rfl) ((rd_f (qS14.rd (List.Mem.head _))) w' hw')) ?_
          rw [g2]
          refine WO.vals [(7, 42, (.func (.func 45) #[] #[(.pointer (some ⟨b1, 0, none⟩))]))] (by kernel_rfl) (fun _ => by kernel_rfl) ?_
          have qS1p := st_pick qS14 e2
          refine WO.call rfl (by kernel_rfl) rfl (f := 42) (args := #[(.slice r1.a x0.In.length r1.c), (.func (.func 45) #[] #[(.pointer (some ⟨b1, 0, none⟩))])]) (by kernel_rfl) (slices_DeleteFunc_string_ok g3 (fun {F Ic wc} {_} hlc hSc {rc} hrc => member_Drop_1_ok (List.mem_append_right _ (List.Mem.tail _ (List.mem_append_right _ (List.Mem.head _)))) hSc hrc) (fun _ _ => by kernel_rfl) qS1p hy1) ?_
          rintro _ qw2 ⟨QI2, a2, c2, D2, rfl, ql2, qS3, h6⟩
          refine ⟨_, rfl, trivial, ?_⟩
          refine WO.indexAddr (e := 27) (sz := 2) rfl (by kernel_rfl) (by kernel_rfl) (by kernel_rfl) rfl ha rfl (by omega) (by omega) ?_
          refine WO.vals [(10, 45, (.pointer (some ⟨bl a, of a + ((i : Int)).toNat * 2 + 1, none⟩)))] (by kernel_rfl) (fun _ => by kernel_rfl) ?_
          have qS7 := st_unpick qS3 hlt
          refine WO.storeOwn (m := i) qS7 (ho.mono ql2) rfl (by kernel_rfl) rfl e1 (u' := { r1 with a := a2, c := c2, n := y1.length }) 1 rfl rfl (by kernel_rfl) rfl rfl (fun cs hrel => (by obtain rfl := hrel; rfl)) (fun _ _ _ => trivial) ?_
          intro qw5 C5 qS8 ho8
          refine WO.nil ?_
          refine En.in_normal ?_
          refine En.next ?_
          refine W.region (l := [0, 1]) (by kernel_rfl) ?_
          refine WO.incr (j := i) rfl (by kernel_rfl) rfl (by first | omega | (dsimp only at *; omega)) ?_
          refine WO.vals [(1, 32, (.int .i64 ((i + 1 : Nat) : Int)))] (by kernel_rfl) (fun _ => by kernel_rfl) ?_
          refine WO.nil ?_
          refine En.weaken (fr' := [(3, (.pointer (some ⟨b1, 0, none⟩))), (8, (.slice a xs0.length c)), (31, (.int .i64 (xs0.length : Int))), (32, (.int .i64 ((i + 1 : Nat) : Int)))]) (En.round ⟨QI2, C5, _, _, rfl, ql9.trans ql2, qS8, ho8, (hn.mono ql2).set i (r := { r1 with a := a2, c := c2, n := y1.length }) (D := D2) (x := { x0 with In := y1 }) g1 rfl h6, by rw [List.length_set]; exact hsl⟩) (Sub.cons rfl (Sub.cons rfl (Sub.cons rfl (Sub.cons rfl Sub.nil))))
        case lastt7 =>
          rintro _ qw35 ⟨J, C', rs, Ds, rfl, ql9, qS36, ho, hn, hsl⟩
          refine W.seq ?_
          refine W.region (l := [0]) (by kernel_rfl) ?_
          refine WO.vals [(0, 33, (.bool (decide ((xs0.length : Int) < (xs0.length : Int)))))] (by kernel_rfl) (fun _ => by kernel_rfl) ?_
          refine WO.nil ?_
          refine En.next ?_
          refine W.seq ?_
          refine W.cond (b := (decide ((xs0.length : Int) < (xs0.length : Int)))) rfl rfl (fun hc => ?_) (fun hc => ?_)
          · exact absurd hc (by first | (simp; done) | (simp; omega))
          clear hc
          refine W.exit ?_
          refine En.nx_exit ?_
          refine En.rd_exit ?_
          refine En.in_hit ?_
          refine En.next ?_
          refine W.seq ?_
          refine W.region (l := [0, 1, 2]) (by kernel_rfl) ?_
          refine WO.vals [(0, 47, (.slice a xs0.length c)), (1, 4, (.slice a xs0.length c)), (2, 5, (.int .i64 0))] (by kernel_rfl) (fun _ => by kernel_rfl) ?_
          refine WO.nil ?_
          refine En.next ?_
          refine W.ret ?_
          obtain ⟨QI9, ql9b, qS9, hp9⟩ := hn.pub ho qS36
          exact En.ret2 rfl (.slice a xs0.length c) (.int .i64 0) rfl rfl ⟨QI9, a, c, by simp only [hsl], (hl8.trans hl15).trans (ql1.trans (ql9.trans ql9b)), qS9.drop, hp9⟩
def member_Revoke_1 (p0 : ByteArray) (q1 : ByteArray) : Option Bool := some (sEq p0 q1)
set_option maxHeartbeats 1000000 in
theorem member_Revoke_1_ok {E w : World} {I : Mem} {Os : List Mem} {p0 : ByteArray} {q1 : ByteArray} {kb1 : Nat} (hm1 : (Gv.one kb1 (.cells #[(.string q1)] 9 (0, 0))) ∈ Os) (hS : St E w I Os) {r : Bool} (hr : member_Revoke_1 p0 q1 = some r) :
    Calls P 43 #[(.string p0), (.pointer (some ⟨kb1, 0, none⟩))] w (fun e w' => ∃ (I' : Mem), e = .returned (.bool r) ∧ I.Le I' ∧ St E w' I' Os) := by
  refine calls_W (args := [(.string p0), (.pointer (some ⟨kb1, 0, none⟩))]) (fn := Try.f43) rfl rfl rfl ?_
  unfold member_Revoke_1 at hr
  refine W.seq ?_
  refine W.region (l := [0]) (by kernel_rfl) ?_
  refine WO.vals [(0, 3, (.bool false))] (by kernel_rfl) (fun _ => by kernel_rfl) ?_
  refine WO.nil ?_
  refine En.next ?_
  refine W.seq ?_
  refine W.region (l := [0, 1, 2, 3]) (by kernel_rfl) ?_
  refine WO.vals [(0, 4, (.string p0))] (by kernel_rfl) (fun _ => by kernel_rfl) ?_
  refine WO.load rfl (by kernel_rfl) (by kernel_rfl) rfl (v := (.string q1)) (fun w' hw' => cell_one ((rd_f (hS.rd hm1)) w' hw') (by kernel_rfl)) ?_
  refine WO.vals [(2, 6, (.bool (sEq p0 q1))), (3, 3, (.bool (sEq p0 q1)))] (by kernel_rfl) (fun _ => by kernel_rfl) ?_
  refine WO.nil ?_
  refine En.next ?_
  refine W.ret ?_
  have he := Option.some.inj hr
  subst r
  exact En.ret1 rfl (.bool (sEq p0 q1)) rfl ⟨I, rfl, Mem.Le.refl _, hS⟩
noncomputable def revokeT (l : List api_Role) (i : Int) (n : ByteArray) : Option (List api_Role × Int) := open Classical in if fits l then (idx l i).bind fun x => (slices_DeleteFunc_string x.In (fun (u0 : ByteArray) => member_Revoke_1 u0 n)).bind fun y => some (l.set i.toNat { x with In := y }, 0) else none
noncomputable def member_Revoke (p0 : List api_Role) (p1 : ByteArray) (p2 : ByteArray) : Option ((List api_Role) × Int) := (member_Check p0).bind (fun (r10 : Int) => (bif (r10 != 0) then some (([] : List api_Role), r10) else (member_at p0 p2).bind (fun (r17 : Int) => ((bif (decide (r17 < 0)) then some true else (idx p0 r17).bind (fun (x24 : api_Role) => (slices_Contains_string x24.In p1).bind (fun (r30 : Bool) => some (!r30))))).bind (fun (j20 : Bool) => (bif j20 then some (([] : List api_Role), 4) else (revokeT p0 r17 p1))))))
set_option maxHeartbeats 1000000 in
theorem member_Revoke_ok {E w : World} {I : Mem} {Os : List Mem} {p0 : List api_Role} {p1 : ByteArray} {p2 : ByteArray} {a_p0 : Option Addr} {c_p0 : Nat} (h_p0 : RSl 2 R_api_Role I a_p0 c_p0 p0) (hS : St E w I Os) {r : (List api_Role) × Int} (hr : member_Revoke p0 p1 p2 = some r) :
    Calls P 20 #[(.slice a_p0 p0.length c_p0), (.string p1), (.string p2)] w (fun e w' => ∃ (I' : Mem) (ra0 : Option Addr) (rc0 : Nat), e = .returned (.tuple #[(.slice ra0 r.1.length rc0), (.int .i64 r.2)]) ∧ I.Le I' ∧ St E w' I' Os ∧ RSl 2 R_api_Role I' ra0 rc0 r.1) := by
  refine calls_W (args := [(.slice a_p0 p0.length c_p0), (.string p1), (.string p2)]) (fn := Try.f20) rfl rfl rfl ?_
  unfold member_Revoke at hr
  refine W.seq ?_
  refine W.region (l := [0, 1, 2]) (by kernel_rfl) ?_
  refine WO.new hS rfl (by kernel_rfl) rfl (.cells #[(.string p1)] 9 (0, 0)) (fun b => .pointer (some ⟨b, 0, none⟩)) (by kernel_rfl) (fun _ _ _ => trivial) ?_
  intro b1 w4 hS3
  refine WO.vals [(1, 6, (.slice none 0 0)), (2, 7, (.int .i64 0))] (by kernel_rfl) (fun _ => by kernel_rfl) ?_
  refine WO.nil ?_
  refine En.next ?_
  refine W.seq ?_
  refine W.seq ?_
  refine W.region (l := [0, 1, 2]) (by kernel_rfl) ?_
  refine WO.vals [(0, 11, (.slice a_p0 p0.length c_p0))] (by kernel_rfl) (fun _ => by kernel_rfl) ?_
  obtain ⟨r10, hx_r5, hr⟩ := bind_some hr
  refine WO.call rfl (by kernel_rfl) rfl (f := 18) (args := #[(.slice a_p0 p0.length c_p0)]) (by kernel_rfl) (member_Check_ok h_p0 hS3 hx_r5) ?_
  rintro _ w6 ⟨I7, rfl, hl8, hS9⟩
  refine ⟨_, rfl, trivial, ?_⟩
  refine WO.vals [(2, 8, (.int .i64 r10))] (by kernel_rfl) (fun _ => by kernel_rfl) ?_
  refine WO.nil ?_
  refine En.next ?_
  refine W.seq ?_
  refine W.region (l := [0, 1]) (by kernel_rfl) ?_
  refine WO.vals [(0, 13, (.int .i64 r10)), (1, 14, (.bool (r10 != 0)))] (by kernel_rfl) (fun _ => by kernel_rfl) ?_
  refine WO.nil ?_
  refine En.next ?_
  refine W.cond (b := (r10 != 0)) rfl rfl (fun hc => ?_) (fun hc => ?_)
  · replace hr := cond_t hc hr
    refine W.seq ?_
    refine W.region (l := [0, 1, 2]) (by kernel_rfl) ?_
    refine WO.vals [(0, 15, (.int .i64 r10)), (1, 6, (.slice none 0 0)), (2, 7, (.int .i64 r10))] (by kernel_rfl) (fun _ => by kernel_rfl) ?_
    refine WO.nil ?_
    refine En.next ?_
    refine W.ret ?_
    refine En.nx_ret ?_
    have hS11 := hS9.drop
    have he := Option.some.inj hr
    subst r
    exact En.ret2 rfl (.slice none 0 0) (.int .i64 r10) rfl rfl ⟨I7, none, 0, rfl, hl8, hS11, SlAt.nil⟩
  · replace hr := cond_f hc hr
    refine W.skip ?_
    refine En.next ?_
    refine W.seq ?_
    refine W.region (l := [0, 1, 2, 3]) (by kernel_rfl) ?_
    refine WO.vals [(0, 16, (.slice a_p0 p0.length c_p0)), (1, 17, (.string p2))] (by kernel_rfl) (fun _ => by kernel_rfl) ?_
    obtain ⟨r17, hx_r12, hr⟩ := bind_some hr
    refine WO.call rfl (by kernel_rfl) rfl (f := 23) (args := #[(.slice a_p0 p0.length c_p0), (.string p2)]) (by kernel_rfl) (member_at_ok (RSl.mono h_p0 hl8) hS9 hx_r12) ?_
    rintro _ w13 ⟨I14, rfl, hl15, hS16⟩
    refine ⟨_, rfl, trivial, ?_⟩
    refine WO.vals [(3, 9, (.int .i64 r17))] (by kernel_rfl) (fun _ => by kernel_rfl) ?_
    refine WO.nil ?_
    refine En.next ?_
    refine W.seq ?_
    refine W.seq ?_
    have hS18 := hS16.drew
    refine W.draw (l := [0, 1, 2, 3, 4, 5, 6, 7, 8, 9, 10, 11]) (by kernel_rfl) 12 (KR I14 [Gv.one b1 (.cells #[(.string p1)] 9 (0, 0))]) qR (.back (by kernel_rfl)) (by kernel_rfl) (KR.cons (hS18.rd (List.Mem.head _)) (KR.nil hS18.im)) ?_
    generalize World.drew _ = w19 at *
    refine WO.vals [(0, 19, (.int .i64 r17)), (1, 20, (.bool (decide (r17 < 0)))), (2, 21, (.bool (decide (r17 < 0))))] (by kernel_rfl) (fun _ => by kernel_rfl) ?_
    obtain ⟨j20, hr1, hr⟩ := bind_some hr
    refine WO.join (l1 := [3, 4, 5, 6, 7, 8, 9, 10, 11]) (l2 := []) (J := (fun fr w => ∃ (I22 : Mem), fr = [(0, (.slice a_p0 p0.length c_p0)), (4, (.pointer (some ⟨b1, 0, none⟩))), (9, (.int .i64 r17)), (30, (.bool j20))] ∧ I14.Le I22 ∧ St E w I22 ((Gv.one b1 (.cells #[(.string p1)] 9 (0, 0))) :: Os))) ?restj20 ?waysj20
    case waysj20 =>
      refine WO.caseb (decide (r17 < 0)) (fun hc => ?_) (fun hc => ?_)
      · replace hr1 := cond_t hc hr1
        refine WO.reslot 21 rfl (show Value.bool (decide (r17 < 0)) = Value.bool true by rw [hc]) ?_
        refine WO.pass rfl (by kernel_rfl) rfl ?_
        refine WO.pass rfl (by kernel_rfl) rfl ?_
        refine WO.pass rfl (by kernel_rfl) rfl ?_
        refine WO.pass rfl (by kernel_rfl) rfl ?_
        refine WO.pass rfl (by kernel_rfl) rfl ?_
        refine WO.pass rfl (by kernel_rfl) rfl ?_
        refine WO.pass rfl (by kernel_rfl) rfl ?_
        refine WO.pass rfl (by kernel_rfl) rfl ?_
        refine WO.vals [(11, 30, (.bool true))] (by kernel_rfl) (fun _ => by kernel_rfl) ?_
        have he := Option.some.inj hr1
        subst j20
        refine WO.weaken (fr' := [(0, (.slice a_p0 p0.length c_p0)), (4, (.pointer (some ⟨b1, 0, none⟩))), (9, (.int .i64 r17)), (30, (.bool true))]) (WO.meet ⟨I14, rfl, Mem.Le.refl _, hS18⟩) (Sub.cons rfl (Sub.cons rfl (Sub.cons rfl (Sub.cons rfl Sub.nil))))
      · replace hr1 := cond_f hc hr1
        refine WO.reslot 21 rfl (show Value.bool (decide (r17 < 0)) = Value.bool false by rw [hc]) ?_
        refine WO.vals [(3, 22, (.slice a_p0 p0.length c_p0)), (4, 23, (.int .i64 r17))] (by kernel_rfl) (fun _ => by kernel_rfl) ?_
        obtain ⟨x24, hx_x24, hr1⟩ := bind_some hr1
        obtain ⟨h0_x24, h1_x24, hx_x24⟩ := idx_some hx_x24
        obtain ⟨ha_x24, cs_x24, hn_x24, hr_x24, hc_x24⟩ := ((RSl.mono h_p0 (hl8.trans hl15))).el _ _ hx_x24
        obtain ⟨w_x24, rfl, h_x24⟩ := hr_x24
        refine WO.indexAddr (e := 27) (sz := 2) rfl (by kernel_rfl) (by kernel_rfl) (by kernel_rfl) rfl ha_x24 rfl h0_x24 h1_x24 ?_
        refine WO.vals [(6, 25, (.pointer (some ⟨bl a_p0, of a_p0 + (r17).toNat * 2 + 1, none⟩)))] (by kernel_rfl) (fun _ => by kernel_rfl) ?_
        refine WO.load rfl (by kernel_rfl) (by kernel_rfl) rfl (v := (.slice w_x24.In.a x24.In.length w_x24.In.c)) (fun w' hw' => hc_x24.cellk 1 (by kernel_rfl) ((rd_i hS18.im) w' hw')) ?_
        refine WO.load rfl (by kernel_rfl) (by kernel_rfl) rfl (v := (.string p1)) (fun w' hw' => cell_one ((rd_c (List.Mem.head _) (hS18.rd (List.Mem.head _))) w' hw') (by kernel_rfl)) ?_
        obtain ⟨r30, hx_r25, hr1⟩ := bind_some hr1
        refine WO.call rfl (by kernel_rfl) rfl (f := 29) (args := #[(.slice w_x24.In.a x24.In.length w_x24.In.c), (.string p1)]) (by kernel_rfl) (slices_Contains_string_ok h_x24.In hS18 hx_r25) ?_
        rintro _ w26 ⟨I27, rfl, hl28, hS29⟩
        refine ⟨_, rfl, (KR.cons (hS29.rd (List.Mem.head _)) (KR.nil (hS29.im.of_le hl28))), ?_⟩
        refine WO.vals [(10, 29, (.bool (!r30))), (11, 30, (.bool (!r30)))] (by kernel_rfl) (fun _ => by kernel_rfl) ?_
        have he := Option.some.inj hr1
        subst j20
        refine WO.weaken (fr' := [(0, (.slice a_p0 p0.length c_p0)), (4, (.pointer (some ⟨b1, 0, none⟩))), (9, (.int .i64 r17)), (30, (.bool (!r30)))]) (WO.meet ⟨I27, rfl, hl28, hS29⟩) (Sub.cons rfl (Sub.cons rfl (Sub.cons rfl (Sub.cons rfl Sub.nil))))
    case restj20 =>
      rintro _ w31 ⟨I22, rfl, hl23, hS32⟩
      refine WO.nil ?_
      refine En.next ?_
      refine W.cond (b := j20) rfl rfl (fun hc => ?_) (fun hc => ?_)
      · replace hr := cond_t hc hr
        refine W.seq ?_
        refine W.region (l := [0, 1]) (by kernel_rfl) ?_
        refine WO.vals [(0, 6, (.slice none 0 0)), (1, 7, (.int .i64 4))] (by kernel_rfl) (fun _ => by kernel_rfl) ?_
        refine WO.nil ?_
        refine En.next ?_
        refine W.ret ?_
        refine En.nx_ret ?_
        have hS33 := hS32.drop
        have he := Option.some.inj hr
        subst r
        exact En.ret2 rfl (.slice none 0 0) (.int .i64 4) rfl rfl ⟨I22, none, 0, rfl, ((hl8.trans hl15).trans hl23), hS33, SlAt.nil⟩
      · replace hr := cond_f hc hr
        refine W.skip ?_
        refine En.next ?_
        refine W.seq ?_
        refine W.region (l := [0, 1, 2]) (by kernel_rfl) ?_
        refine WO.vals [(0, 31, (.slice a_p0 p0.length c_p0))] (by kernel_rfl) (fun _ => by kernel_rfl) ?_
        have hr0 := hr
        unfold revokeT at hr0
        split at hr0
        rotate_left
        · cases hr0
        rename_i hfit
        obtain ⟨x0, hx0, hr0⟩ := bind_some hr0
        obtain ⟨i0, i1, hx0⟩ := idx_some hx0
        obtain ⟨y0, hy0, hr0⟩ := bind_some hr0
        have he := Option.some.inj hr0
        subst he
        refine WO.call rfl (by kernel_rfl) rfl (f := 39) (args := #[(.slice a_p0 p0.length c_p0)]) (by kernel_rfl) (clone2_ok (RSl.mono h_p0 ((hl8.trans hl15).trans hl23)) hS32 hfit) ?_
        rintro _ qw1 ⟨QI1, a, c, C, rs, Ds, rfl, ql1, qS1, ho1, hn1⟩
        refine ⟨_, rfl, trivial, ?_⟩
        refine WO.vals [(2, 10, (.slice a p0.length c))] (by kernel_rfl) (fun _ => by kernel_rfl) ?_
        refine WO.nil ?_
        refine En.next ?_
        refine W.seq ?_
        obtain ⟨r1, D1, e1, e2, g1, g2, g3⟩ := hn1.get hx0
        have hlt := (List.getElem?_eq_some_iff.1 e2).1
        refine W.region (l := [0, 1, 2, 3, 4, 5, 6, 7, 8, 9, 10, 11]) (by kernel_rfl) ?_
        refine WO.vals [(0, 33, (.slice a p0.length c)), (1, 34, (.int .i64 r17)), (2, 35, (.slice a p0.length c)), (3, 36, (.int .i64 r17))] (by kernel_rfl) (fun _ => by kernel_rfl) ?_
        obtain ⟨ha, cs, hcn, hrr, hcc⟩ := ho1.sl.el _ _ e1
        obtain rfl := hrr
        refine WO.indexAddr (e := 27) (sz := 2) rfl (by kernel_rfl) (by kernel_rfl) (by kernel_rfl) rfl ha rfl i0 i1 ?_
        refine WO.vals [(5, 38, (.pointer (some ⟨bl a, of a + (r17).toNat * 2 + 1, none⟩)))] (by kernel_rfl) (fun _ => by kernel_rfl) ?_
        refine WO.load rfl (by kernel_rfl) (by kernel_rfl) rfl (v := (.slice r1.a r1.n r1.c)) (fun w' hw' => hcc.cellk 1 (by kernel_rfl) ((rd_f (qS1.rd (List.Mem.head _))) w' hw')) ?_
        rw [g2]
        refine WO.vals [(7, 40, (.func (.func 43) #[] #[(.pointer (some ⟨b1, 0, none⟩))]))] (by kernel_rfl) (fun _ => by kernel_rfl) ?_
        have qS1p := st_pick qS1 e2
        refine WO.call rfl (by kernel_rfl) rfl (f := 42) (args := #[(.slice r1.a x0.In.length r1.c), (.func (.func 43) #[] #[(.pointer (some ⟨b1, 0, none⟩))])]) (by kernel_rfl) (slices_DeleteFunc_string_ok g3 (fun {F Ic wc} {_} hlc hSc {rc} hrc => member_Revoke_1_ok (List.mem_append_right _ (List.Mem.tail _ (List.mem_append_right _ (List.Mem.head _)))) hSc hrc) (fun _ _ => by kernel_rfl) qS1p hy0) ?_
        rintro _ qw2 ⟨QI2, a2, c2, D2, rfl, ql2, qS3, h6⟩
        refine ⟨_, rfl, trivial, ?_⟩
        refine WO.indexAddr (e := 27) (sz := 2) rfl (by kernel_rfl) (by kernel_rfl) (by kernel_rfl) rfl ha rfl i0 i1 ?_
        refine WO.vals [(10, 43, (.pointer (some ⟨bl a, of a + (r17).toNat * 2 + 1, none⟩)))] (by kernel_rfl) (fun _ => by kernel_rfl) ?_
        have qS7 := st_unpick qS3 hlt
        refine WO.storeOwn (m := (r17).toNat) qS7 (ho1.mono ql2) rfl (by kernel_rfl) rfl e1 (u' := { r1 with a := a2, c := c2, n := y0.length }) 1 rfl rfl (by kernel_rfl) rfl rfl (fun cs hrel => (by obtain rfl := hrel; rfl)) (fun _ _ _ => trivial) ?_
        intro qw5 C5 qS8 ho8
        refine WO.nil ?_
        refine En.next ?_
        refine W.seq ?_
        refine W.region (l := [0, 1, 2]) (by kernel_rfl) ?_
        refine WO.vals [(0, 44, (.slice a p0.length c)), (1, 6, (.slice a p0.length c)), (2, 7, (.int .i64 0))] (by kernel_rfl) (fun _ => by kernel_rfl) ?_
        refine WO.nil ?_
        refine En.next ?_
        refine W.ret ?_
        obtain ⟨QI9, ql9, qS9, hp9⟩ := ((hn1.mono ql2).set (r17).toNat (r := { r1 with a := a2, c := c2, n := y0.length }) (D := D2) (x := { x0 with In := y0 }) g1 rfl h6).pub ho8 qS8
        exact En.ret2 rfl (.slice a p0.length c) (.int .i64 0) rfl rfl ⟨QI9, a, c, by simp only [List.length_set], ((hl8.trans hl15).trans hl23).trans (ql1.trans (ql2.trans ql9)), qS9.drop, hp9⟩
noncomputable def registrarlaw18_done (p0 : List api_Role) (p1 : registrarlaw18_Act) : Option ((List api_Role) × Int) := (bif (p1.Do == 0) then (member_Create p0 p1.Name).bind (fun ((r10, r11) : (List api_Role) × Int) => some (r10, r11)) else (bif (p1.Do == 1) then (member_Drop p0 p1.Name).bind (fun ((r18, r19) : (List api_Role) × Int) => some (r18, r19)) else (bif (p1.Do == 2) then (member_Grant p0 p1.Name p1.Role).bind (fun ((r26, r27) : (List api_Role) × Int) => some (r26, r27)) else (member_Revoke p0 p1.Name p1.Role).bind (fun ((r34, r35) : (List api_Role) × Int) => some (r34, r35)))))
set_option maxHeartbeats 1000000 in
theorem registrarlaw18_done_ok {E w : World} {I : Mem} {Os : List Mem} {p0 : List api_Role} {p1 : registrarlaw18_Act} {a_p0 : Option Addr} {c_p0 : Nat} (h_p0 : RSl 2 R_api_Role I a_p0 c_p0 p0) (hS : St E w I Os) {r : (List api_Role) × Int} (hr : registrarlaw18_done p0 p1 = some r) :
    Calls P 17 #[(.slice a_p0 p0.length c_p0), (.agg (cs_registrarlaw18_Act p1).toArray)] w (fun e w' => ∃ (I' : Mem) (ra0 : Option Addr) (rc0 : Nat), e = .returned (.tuple #[(.slice ra0 r.1.length rc0), (.int .i64 r.2)]) ∧ I.Le I' ∧ St E w' I' Os ∧ RSl 2 R_api_Role I' ra0 rc0 r.1) := by
  refine calls_W (args := [(.slice a_p0 p0.length c_p0), (.agg (cs_registrarlaw18_Act p1).toArray)]) (fn := Try.f17) rfl rfl rfl ?_
  unfold registrarlaw18_done at hr
  refine W.seq ?_
  refine W.region (l := [0, 1, 2]) (by kernel_rfl) ?_
  refine WO.new hS rfl (by kernel_rfl) rfl (.cells (cs_registrarlaw18_Act p1).toArray 38 (0, 0)) (fun b => .pointer (some ⟨b, 0, none⟩)) (by kernel_rfl) (fun _ _ _ => trivial) ?_
  intro b1 w4 hS3
  refine WO.vals [(1, 4, (.slice none 0 0)), (2, 5, (.int .i64 0))] (by kernel_rfl) (fun _ => by kernel_rfl) ?_
  refine WO.nil ?_
  refine En.next ?_
  refine W.seq ?_
  refine W.seq ?_
  refine W.region (l := [0, 1]) (by kernel_rfl) ?_
  refine WO.vals [(0, 6, (.pointer (some ⟨b1, 0, none⟩)))] (by kernel_rfl) (fun _ => by kernel_rfl) ?_
  refine WO.load rfl (by kernel_rfl) (by kernel_rfl) rfl (v := (.int .i64 p1.Do)) (fun w' hw' => cell_one ((rd_f (hS3.rd (List.Mem.head _))) w' hw') (by kernel_rfl)) ?_
  refine WO.nil ?_
  refine En.next ?_
  refine W.block ?_
  refine W.seq ?_
  refine W.region (l := [0, 1]) (by kernel_rfl) ?_
  refine WO.vals [(0, 9, (.bool (p1.Do == 0))), (1, 8, (.bool (p1.Do == 0)))] (by kernel_rfl) (fun _ => by kernel_rfl) ?_
  refine WO.nil ?_
  refine En.next ?_
  refine W.cond (b := (p1.Do == 0)) rfl rfl (fun hc => ?_) (fun hc => ?_)
  · replace hr := cond_t hc hr
    refine W.seq ?_
    refine W.region (l := [0, 1, 2, 3, 4, 5, 6, 7]) (by kernel_rfl) ?_
    refine WO.vals [(0, 10, (.slice a_p0 p0.length c_p0)), (1, 11, (.pointer (some ⟨b1, 1, none⟩)))] (by kernel_rfl) (fun _ => by kernel_rfl) ?_
    refine WO.load rfl (by kernel_rfl) (by kernel_rfl) rfl (v := (.string p1.Name)) (fun w' hw' => cell_one ((rd_f (hS3.rd (List.Mem.head _))) w' hw') (by kernel_rfl)) ?_
    obtain ⟨⟨r10, r11⟩, hx_r5, hr⟩ := bind_some hr
    refine WO.call rfl (by kernel_rfl) rfl (f := 30) (args := #[(.slice a_p0 p0.length c_p0), (.string p1.Name)]) (by kernel_rfl) (member_Create_ok h_p0 hS3 hx_r5) ?_
    rintro _ w6 ⟨I7, a_r10, c_r10, rfl, hl8, hS9, h_r10⟩
    refine ⟨_, rfl, trivial, ?_⟩
    refine WO.vals [(4, 14, (.slice a_r10 r10.length c_r10)), (5, 15, (.int .i64 r11)), (6, 4, (.slice a_r10 r10.length c_r10)), (7, 5, (.int .i64 r11))] (by kernel_rfl) (fun _ => by kernel_rfl) ?_
    refine WO.nil ?_
    refine En.next ?_
    refine W.ret ?_
    refine En.in_ret ?_
    refine En.nx_ret ?_
    have hS12 := hS9.drop
    have he := Option.some.inj hr
    subst r
    exact En.ret2 rfl (.slice a_r10 r10.length c_r10) (.int .i64 r11) rfl rfl ⟨I7, a_r10, c_r10, rfl, hl8, hS12, h_r10⟩
  · replace hr := cond_f hc hr
    refine W.seq ?_
    refine W.region (l := [0, 1]) (by kernel_rfl) ?_
    refine WO.vals [(0, 17, (.bool (p1.Do == 1))), (1, 16, (.bool (p1.Do == 1)))] (by kernel_rfl) (fun _ => by kernel_rfl) ?_
    refine WO.nil ?_
    refine En.next ?_
    refine W.cond (b := (p1.Do == 1)) rfl rfl (fun hc => ?_) (fun hc => ?_)
    · replace hr := cond_t hc hr
      refine W.seq ?_
      refine W.region (l := [0, 1, 2, 3, 4, 5, 6, 7]) (by kernel_rfl) ?_
      refine WO.vals [(0, 18, (.slice a_p0 p0.length c_p0)), (1, 19, (.pointer (some ⟨b1, 1, none⟩)))] (by kernel_rfl) (fun _ => by kernel_rfl) ?_
      refine WO.load rfl (by kernel_rfl) (by kernel_rfl) rfl (v := (.string p1.Name)) (fun w' hw' => cell_one ((rd_f (hS3.rd (List.Mem.head _))) w' hw') (by kernel_rfl)) ?_
      obtain ⟨⟨r18, r19⟩, hx_r13, hr⟩ := bind_some hr
      refine WO.call rfl (by kernel_rfl) rfl (f := 21) (args := #[(.slice a_p0 p0.length c_p0), (.string p1.Name)]) (by kernel_rfl) (member_Drop_ok h_p0 hS3 hx_r13) ?_
      rintro _ w14 ⟨I15, a_r18, c_r18, rfl, hl16, hS17, h_r18⟩
      refine ⟨_, rfl, trivial, ?_⟩
      refine WO.vals [(4, 22, (.slice a_r18 r18.length c_r18)), (5, 23, (.int .i64 r19)), (6, 4, (.slice a_r18 r18.length c_r18)), (7, 5, (.int .i64 r19))] (by kernel_rfl) (fun _ => by kernel_rfl) ?_
      refine WO.nil ?_
      refine En.next ?_
      refine W.ret ?_
      refine En.in_ret ?_
      refine En.nx_ret ?_
      have hS20 := hS17.drop
      have he := Option.some.inj hr
      subst r
      exact En.ret2 rfl (.slice a_r18 r18.length c_r18) (.int .i64 r19) rfl rfl ⟨I15, a_r18, c_r18, rfl, hl16, hS20, h_r18⟩
    · replace hr := cond_f hc hr
      refine W.seq ?_
      refine W.region (l := [0, 1]) (by kernel_rfl) ?_
      refine WO.vals [(0, 25, (.bool (p1.Do == 2))), (1, 24, (.bool (p1.Do == 2)))] (by kernel_rfl) (fun _ => by kernel_rfl) ?_
      refine WO.nil ?_
      refine En.next ?_
      refine W.cond (b := (p1.Do == 2)) rfl rfl (fun hc => ?_) (fun hc => ?_)
      · replace hr := cond_t hc hr
        refine W.seq ?_
        refine W.region (l := [0, 1, 2, 3, 4, 5, 6, 7, 8, 9]) (by kernel_rfl) ?_
        refine WO.vals [(0, 26, (.slice a_p0 p0.length c_p0)), (1, 27, (.pointer (some ⟨b1, 1, none⟩)))] (by kernel_rfl) (fun _ => by kernel_rfl) ?_
        refine WO.load rfl (by kernel_rfl) (by kernel_rfl) rfl (v := (.string p1.Name)) (fun w' hw' => cell_one ((rd_f (hS3.rd (List.Mem.head _))) w' hw') (by kernel_rfl)) ?_
        refine WO.vals [(3, 29, (.pointer (some ⟨b1, 2, none⟩)))] (by kernel_rfl) (fun _ => by kernel_rfl) ?_
        refine WO.load rfl (by kernel_rfl) (by kernel_rfl) rfl (v := (.string p1.Role)) (fun w' hw' => cell_one ((rd_f (hS3.rd (List.Mem.head _))) w' hw') (by kernel_rfl)) ?_
        obtain ⟨⟨r26, r27⟩, hx_r21, hr⟩ := bind_some hr
        refine WO.call rfl (by kernel_rfl) rfl (f := 19) (args := #[(.slice a_p0 p0.length c_p0), (.string p1.Name), (.string p1.Role)]) (by kernel_rfl) (member_Grant_ok h_p0 hS3 hx_r21) ?_
        rintro _ w22 ⟨I23, a_r26, c_r26, rfl, hl24, hS25, h_r26⟩
        refine ⟨_, rfl, trivial, ?_⟩
        refine WO.vals [(6, 32, (.slice a_r26 r26.length c_r26)), (7, 33, (.int .i64 r27)), (8, 4, (.slice a_r26 r26.length c_r26)), (9, 5, (.int .i64 r27))] (by kernel_rfl) (fun _ => by kernel_rfl) ?_
        refine WO.nil ?_
        refine En.next ?_
        refine W.ret ?_
        refine En.in_ret ?_
        refine En.nx_ret ?_
        have hS28 := hS25.drop
        have he := Option.some.inj hr
        subst r
        exact En.ret2 rfl (.slice a_r26 r26.length c_r26) (.int .i64 r27) rfl rfl ⟨I23, a_r26, c_r26, rfl, hl24, hS28, h_r26⟩
      · replace hr := cond_f hc hr
        refine W.skip ?_
        refine En.in_normal ?_
        refine En.next ?_
        refine W.seq ?_
        refine W.region (l := [0, 1, 2, 3, 4, 5, 6, 7, 8, 9]) (by kernel_rfl) ?_
        refine WO.vals [(0, 34, (.slice a_p0 p0.length c_p0)), (1, 35, (.pointer (some ⟨b1, 1, none⟩)))] (by kernel_rfl) (fun _ => by kernel_rfl) ?_
        refine WO.load rfl (by kernel_rfl) (by kernel_rfl) rfl (v := (.string p1.Name)) (fun w' hw' => cell_one ((rd_f (hS3.rd (List.Mem.head _))) w' hw') (by kernel_rfl)) ?_
        refine WO.vals [(3, 37, (.pointer (some ⟨b1, 2, none⟩)))] (by kernel_rfl) (fun _ => by kernel_rfl) ?_
        refine WO.load rfl (by kernel_rfl) (by kernel_rfl) rfl (v := (.string p1.Role)) (fun w' hw' => cell_one ((rd_f (hS3.rd (List.Mem.head _))) w' hw') (by kernel_rfl)) ?_
        obtain ⟨⟨r34, r35⟩, hx_r29, hr⟩ := bind_some hr
        refine WO.call rfl (by kernel_rfl) rfl (f := 20) (args := #[(.slice a_p0 p0.length c_p0), (.string p1.Name), (.string p1.Role)]) (by kernel_rfl) (member_Revoke_ok h_p0 hS3 hx_r29) ?_
        rintro _ w30 ⟨I31, a_r34, c_r34, rfl, hl32, hS33, h_r34⟩
        refine ⟨_, rfl, trivial, ?_⟩
        refine WO.vals [(6, 40, (.slice a_r34 r34.length c_r34)), (7, 41, (.int .i64 r35)), (8, 4, (.slice a_r34 r34.length c_r34)), (9, 5, (.int .i64 r35))] (by kernel_rfl) (fun _ => by kernel_rfl) ?_
        refine WO.nil ?_
        refine En.next ?_
        refine W.ret ?_
        have hS36 := hS33.drop
        have he := Option.some.inj hr
        subst r
        exact En.ret2 rfl (.slice a_r34 r34.length c_r34) (.int .i64 r35) rfl rfl ⟨I31, a_r34, c_r34, rfl, hl32, hS36, h_r34⟩
end Go.Proofs.Ythndadengamanaa
