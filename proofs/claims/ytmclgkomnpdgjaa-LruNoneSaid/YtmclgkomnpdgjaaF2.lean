/- What functions of the program come to, each by a plain one. Conditions: none. -/
import Derived.Test.YtmclgkomnpdgjaaF1
set_option maxRecDepth 100000
namespace Go.Proofs.Ytmclgkomnpdgjaa
open Go.Gv
def registrarref26_Cache_find (p0 : registrarref26_Cache) (p1 : Int) (p2 : ByteArray) : Option Int := (forN (fun (i4 : Nat) => fun (_s : Unit) => (idx p0.L (i4 : Int)).bind (fun (x11 : registrarref26_Entry) => ((bif (x11.Who == p1) then (idx p0.L (i4 : Int)).bind (fun (x16 : registrarref26_Entry) => some (sEq x16.Name p2)) else some false)).bind (fun (j12 : Bool) => (bif j12 then some (.inr (i4 : Int)) else some (.inl ()))))) p0.L.length 0 ()).bind (fun (t : Unit ⊕ (Int)) => match t with | .inl _ => some (-1) | .inr s20 => some s20)
set_option maxHeartbeats 1000000 in
theorem registrarref26_Cache_find_ok {E w : World} {I : Mem} {Os : List Mem} {p0 : registrarref26_Cache} {p1 : Int} {p2 : ByteArray} {b_p0 : Nat} {w_p0 : W_registrarref26_Cache} (h_p0 : ok_registrarref26_Cache I p0 w_p0) (hS : St E w I ((one b_p0 (.cells (cs_registrarref26_Cache p0 w_p0).toArray 59 (0, 0))) :: Os)) {r : Int} (hr : registrarref26_Cache_find p0 p1 p2 = some r) :
    Calls P 33 #[(.pointer (some ⟨b_p0, 0, none⟩)), (.int .i64 p1), (.string p2)] w (fun e w' => ∃ (I' : Mem), e = .returned (.int .i64 r) ∧ I.Le I' ∧ St E w' I' ((one b_p0 (.cells (cs_registrarref26_Cache p0 w_p0).toArray 59 (0, 0))) :: Os)) := by
  refine calls_W (args := [(.pointer (some ⟨b_p0, 0, none⟩)), (.int .i64 p1), (.string p2)]) (fn := Try.f33) rfl rfl rfl ?_
  unfold registrarref26_Cache_find at hr
  refine W.seq ?_
  refine W.region (l := [0]) (by kernel_rfl) ?_
  refine WO.vals [(0, 6, (.int .i64 0))] (by kernel_rfl) (fun _ => by kernel_rfl) ?_
  refine WO.nil ?_
  refine En.next ?_
  refine W.seq ?_
  refine W.seq ?_
  refine W.region (l := [0]) (by kernel_rfl) ?_
  refine WO.vals [(0, 7, (.int .i64 0))] (by kernel_rfl) (fun _ => by kernel_rfl) ?_
  refine WO.nil ?_
  refine En.next ?_
  refine W.block ?_
  obtain ⟨t1, hloop5, hr⟩ := bind_some hr
  have hlt9 := (h_p0.L).len_lt
  refine W.weaken (fr' := [(0, (.pointer (some ⟨b_p0, 0, none⟩))), (1, (.int .i64 p1)), (2, (.string p2)), (7, (.int .i64 ((0 : Nat) : Int)))]) (W.forN (m := p0.L.length) hloop5 (fun (i4 : Nat) => fun (_s : Unit) fr w => ∃ (I2 : Mem), fr = [(0, (.pointer (some ⟨b_p0, 0, none⟩))), (1, (.int .i64 p1)), (2, (.string p2)), (7, (.int .i64 (i4 : Int)))] ∧ I.Le I2 ∧ St E w I2 ((one b_p0 (.cells (cs_registrarref26_Cache p0 w_p0).toArray 59 (0, 0))) :: Os)) ⟨I, rfl, Mem.Le.refl _, hS⟩ ?roundt1 ?lastt1) (Sub.cons rfl (Sub.cons rfl (Sub.cons rfl (Sub.cons rfl Sub.nil))))
  case roundt1 =>
    rintro i4 _ _ w6 hi10 ⟨I2, rfl, hl3, hS7⟩ x8 hr1 hext1
    refine W.seq ?_
    refine W.seq ?_
    refine W.region (l := [0, 1, 2, 3, 4, 5, 6]) (by kernel_rfl) ?_
    refine WO.vals [(0, 8, (.int .i64 (i4 : Int))), (1, 9, (.pointer (some ⟨b_p0, 0, none⟩))), (2, 10, (.pointer (some ⟨b_p0, 0, none⟩))), (3, 11, (.pointer (some ⟨b_p0, 0, none⟩)))] (by kernel_rfl) (fun _ => by kernel_rfl) ?_
    refine WO.load rfl (by kernel_rfl) (by kernel_rfl) rfl (v := (.slice w_p0.L.a p0.L.length w_p0.L.c)) (fun w' hw' => cell_one ((rd_f (hS7.rd (List.Mem.head _))) w' hw') (by kernel_rfl)) ?_
    refine WO.vals [(5, 13, (.int .i64 (p0.L.length : Int))), (6, 14, (.bool (decide ((i4 : Int) < (p0.L.length : Int)))))] (by kernel_rfl) (fun _ => by kernel_rfl) ?_
    refine WO.nil ?_
    refine En.next ?_
    refine W.cond (b := (decide ((i4 : Int) < (p0.L.length : Int)))) rfl rfl (fun hc => ?_) (fun hc => ?_)
    rotate_left
    · exact absurd hc (by first | (simp; done) | (simp; omega))
    clear hc
    refine W.skip ?_
    refine En.next ?_
    refine W.seq ?_
    refine W.block ?_
    refine W.seq ?_
    refine W.region (l := [0, 1, 2, 3, 4, 5, 6, 7, 8, 9, 10, 11, 12, 13, 14, 15, 16, 17, 18, 19, 20, 21]) (by kernel_rfl) ?_
    refine WO.vals [(0, 17, (.pointer (some ⟨b_p0, 0, none⟩))), (1, 18, (.pointer (some ⟨b_p0, 0, none⟩))), (2, 19, (.pointer (some ⟨b_p0, 0, none⟩)))] (by kernel_rfl) (fun _ => by kernel_rfl) ?_
    refine WO.load rfl (by kernel_rfl) (by kernel_rfl) rfl (v := (.slice w_p0.L.a p0.L.length w_p0.L.c)) (fun w' hw' => cell_one ((rd_f (hS7.rd (List.Mem.head _))) w' hw') (by kernel_rfl)) ?_
    refine WO.vals [(4, 21, (.int .i64 (i4 : Int)))] (by kernel_rfl) (fun _ => by kernel_rfl) ?_
    obtain ⟨x11, hx_x11, hr1⟩ := bind_some hr1
    obtain ⟨h0_x11, h1_x11, hx_x11⟩ := idx_some hx_x11
    obtain ⟨ha_x11, cs_x11, hn_x11, hr_x11, hc_x11⟩ := ((RSl.mono h_p0.L hl3)).el _ _ hx_x11
    obtain rfl := hr_x11
    refine WO.indexAddr (e := 79) (sz := 4) rfl (by kernel_rfl) (by kernel_rfl) (by kernel_rfl) rfl ha_x11 rfl h0_x11 h1_x11 ?_
    refine WO.vals [(6, 23, (.pointer (some ⟨bl w_p0.L.a, of w_p0.L.a + ((i4 : Int)).toNat * 4, none⟩)))] (by kernel_rfl) (fun _ => by kernel_rfl) ?_
    refine WO.load rfl (by kernel_rfl) (by kernel_rfl) rfl (v := (.int .i64 x11.Who)) (fun w' hw' => hc_x11.cell0 (by kernel_rfl) ((rd_f hS7.im) w' hw')) ?_
    refine WO.vals [(8, 25, (.int .i64 p1)), (9, 26, (.bool (x11.Who == p1))), (10, 27, (.bool (x11.Who == p1)))] (by kernel_rfl) (fun _ => by kernel_rfl) ?_
    obtain ⟨j12, hr2, hr1⟩ := bind_some hr1
    refine WO.join (l1 := [11, 12, 13, 14, 15, 16, 17, 18, 19, 20, 21]) (l2 := []) (J := (fun fr w => ∃ (I14 : Mem), fr = [(0, (.pointer (some ⟨b_p0, 0, none⟩))), (1, (.int .i64 p1)), (2, (.string p2)), (7, (.int .i64 (i4 : Int))), (38, (.bool j12))] ∧ I2.Le I14 ∧ St E w I14 ((one b_p0 (.cells (cs_registrarref26_Cache p0 w_p0).toArray 59 (0, 0))) :: Os))) ?restj12 ?waysj12
    case waysj12 =>
      refine WO.caseb (x11.Who == p1) (fun hc => ?_) (fun hc => ?_)
      · replace hr2 := cond_t hc hr2
        refine WO.reslot 27 rfl (show Value.bool (x11.Who == p1) = Value.bool true by rw [hc]) ?_
        refine WO.vals [(11, 28, (.pointer (some ⟨b_p0, 0, none⟩))), (12, 29, (.pointer (some ⟨b_p0, 0, none⟩))), (13, 30, (.pointer (some ⟨b_p0, 0, none⟩)))] (by kernel_rfl) (fun _ => by kernel_rfl) ?_
        refine WO.load rfl (by kernel_rfl) (by kernel_rfl) rfl (v := (.slice w_p0.L.a p0.L.length w_p0.L.c)) (fun w' hw' => cell_one ((rd_f (hS7.rd (List.Mem.head _))) w' hw') (by kernel_rfl)) ?_
        refine WO.vals [(15, 32, (.int .i64 (i4 : Int)))] (by kernel_rfl) (fun _ => by kernel_rfl) ?_
        obtain ⟨x16, hx_x16, hr2⟩ := bind_some hr2
        obtain ⟨h0_x16, h1_x16, hx_x16⟩ := idx_some hx_x16
        obtain ⟨ha_x16, cs_x16, hn_x16, hr_x16, hc_x16⟩ := ((RSl.mono h_p0.L hl3)).el _ _ hx_x16
        obtain rfl := hr_x16
        refine WO.indexAddr (e := 79) (sz := 4) rfl (by kernel_rfl) (by kernel_rfl) (by kernel_rfl) rfl ha_x16 rfl h0_x16 h1_x16 ?_
        refine WO.vals [(17, 34, (.pointer (some ⟨bl w_p0.L.a, of w_p0.L.a + ((i4 : Int)).toNat * 4 + 1, none⟩)))] (by kernel_rfl) (fun _ => by kernel_rfl) ?_
        refine WO.load rfl (by kernel_rfl) (by kernel_rfl) rfl (v := (.string x16.Name)) (fun w' hw' => hc_x16.cellk 1 (by kernel_rfl) ((rd_f hS7.im) w' hw')) ?_
        refine WO.vals [(19, 36, (.string p2)), (20, 37, (.bool (sEq x16.Name p2))), (21, 38, (.bool (sEq x16.Name p2)))] (by kernel_rfl) (fun _ => by kernel_rfl) ?_
        have he := Option.some.inj hr2
        subst j12
        refine WO.weaken (fr' := [(0, (.pointer (some ⟨b_p0, 0, none⟩))), (1, (.int .i64 p1)), (2, (.string p2)), (7, (.int .i64 (i4 : Int))), (38, (.bool (sEq x16.Name p2)))]) (WO.meet ⟨I2, rfl, Mem.Le.refl _, hS7⟩) (Sub.cons rfl (Sub.cons rfl (Sub.cons rfl (Sub.cons rfl (Sub.cons rfl Sub.nil)))))
      · replace hr2 := cond_f hc hr2
        refine WO.reslot 27 rfl (show Value.bool (x11.Who == p1) = Value.bool false by rw [hc]) ?_
        refine WO.pass rfl (by kernel_rfl) rfl ?_
        refine WO.pass rfl (by kernel_rfl) rfl ?_
        refine WO.pass rfl (by kernel_rfl) rfl ?_
        refine WO.pass rfl (by kernel_rfl) rfl ?_
        refine WO.pass rfl (by kernel_rfl) rfl ?_
        refine WO.pass rfl (by kernel_rfl) rfl ?_
        refine WO.pass rfl (by kernel_rfl) rfl ?_
        refine WO.pass rfl (by kernel_rfl) rfl ?_
        refine WO.pass rfl (by kernel_rfl) rfl ?_
        refine WO.pass rfl (by kernel_rfl) rfl ?_
        refine WO.vals [(21, 38, (.bool false))] (by kernel_rfl) (fun _ => by kernel_rfl) ?_
        have he := Option.some.inj hr2
        subst j12
        refine WO.weaken (fr' := [(0, (.pointer (some ⟨b_p0, 0, none⟩))), (1, (.int .i64 p1)), (2, (.string p2)), (7, (.int .i64 (i4 : Int))), (38, (.bool false))]) (WO.meet ⟨I2, rfl, Mem.Le.refl _, hS7⟩) (Sub.cons rfl (Sub.cons rfl (Sub.cons rfl (Sub.cons rfl (Sub.cons rfl Sub.nil)))))
    case restj12 =>
      rintro _ w17 ⟨I14, rfl, hl15, hS18⟩
      refine WO.nil ?_
      refine En.next ?_
      refine W.cond (b := j12) rfl rfl (fun hc => ?_) (fun hc => ?_)
      · replace hr1 := cond_t hc hr1
        refine W.seq ?_
        refine W.region (l := [0, 1]) (by kernel_rfl) ?_
        refine WO.vals [(0, 39, (.int .i64 (i4 : Int))), (1, 6, (.int .i64 (i4 : Int)))] (by kernel_rfl) (fun _ => by kernel_rfl) ?_
        refine WO.nil ?_
        refine En.next ?_
        refine W.ret ?_
        refine En.in_ret ?_
        refine En.nx_ret ?_
        refine En.rd_ret ?_
        have ht := hext1 _ (Option.some.inj hr1).symm
        subst t1
        refine En.in_ret ?_
        refine En.nx_ret ?_
        have he := Option.some.inj hr
        subst r
        exact En.ret1 rfl (.int .i64 (i4 : Int)) rfl ⟨I14, rfl, (hl3.trans hl15), hS18⟩
      · replace hr1 := cond_f hc hr1
        refine W.skip ?_
        refine En.in_normal ?_
        refine En.next ?_
        refine W.region (l := [0, 1, 2]) (by kernel_rfl) ?_
        refine WO.vals [(0, 15, (.int .i64 (i4 : Int)))] (by kernel_rfl) (fun _ => by kernel_rfl) ?_
        refine WO.incr (j := i4) rfl (by kernel_rfl) rfl (by omega) ?_
        refine WO.vals [(2, 7, (.int .i64 ((i4 + 1 : Nat) : Int)))] (by kernel_rfl) (fun _ => by kernel_rfl) ?_
        refine WO.nil ?_
        refine En.weaken (fr' := [(0, (.pointer (some ⟨b_p0, 0, none⟩))), (1, (.int .i64 p1)), (2, (.string p2)), (7, (.int .i64 ((i4 + 1 : Nat) : Int)))]) (En.round ⟨(), (Option.some.inj hr1).symm, I14, rfl, (hl3.trans hl15), hS18⟩) (Sub.cons rfl (Sub.cons rfl (Sub.cons rfl (Sub.cons rfl Sub.nil))))
  case lastt1 =>
    rintro _ _ w21 ⟨I2, rfl, hl3, hS22⟩ he
    cases he
    refine W.seq ?_
    refine W.seq ?_
    refine W.region (l := [0, 1, 2, 3, 4, 5, 6]) (by kernel_rfl) ?_
    refine WO.vals [(0, 8, (.int .i64 (p0.L.length : Int))), (1, 9, (.pointer (some ⟨b_p0, 0, none⟩))), (2, 10, (.pointer (some ⟨b_p0, 0, none⟩))), (3, 11, (.pointer (some ⟨b_p0, 0, none⟩)))] (by kernel_rfl) (fun _ => by kernel_rfl) ?_
    refine WO.load rfl (by kernel_rfl) (by kernel_rfl) rfl (v := (.slice w_p0.L.a p0.L.length w_p0.L.c)) (fun w' hw' => cell_one ((rd_f (hS22.rd (List.Mem.head _))) w' hw') (by kernel_rfl)) ?_
    refine WO.vals [(5, 13, (.int .i64 (p0.L.length : Int))), (6, 14, (.bool (decide ((p0.L.length : Int) < (p0.L.length : Int)))))] (by kernel_rfl) (fun _ => by kernel_rfl) ?_
    refine WO.nil ?_
    refine En.next ?_
    refine W.cond (b := (decide ((p0.L.length : Int) < (p0.L.length : Int)))) rfl rfl (fun hc => ?_) (fun hc => ?_)
    · exact absurd hc (by first | (simp; done) | (simp; omega))
    clear hc
    refine W.exit ?_
    refine En.nx_exit ?_
    refine En.rd_exit ?_
    refine En.in_hit ?_
    refine En.next ?_
    refine W.seq ?_
    refine W.region (l := [0]) (by kernel_rfl) ?_
    refine WO.vals [(0, 6, (.int .i64 (-1)))] (by kernel_rfl) (fun _ => by kernel_rfl) ?_
    refine WO.nil ?_
    refine En.next ?_
    refine W.ret ?_
    have he := Option.some.inj hr
    subst r
    exact En.ret1 rfl (.int .i64 (-1)) rfl ⟨I2, rfl, hl3, hS22⟩
def registrarref26_Cache_without (p0 : registrarref26_Cache) (p1 : Int) : Option (List registrarref26_Entry) := (forE (fun (i5 : Nat) => fun (s4 : List registrarref26_Entry) => ((bif ((i5 : Int) != p1) then (idx p0.L (i5 : Int)).bind (fun (x19 : registrarref26_Entry) => (app 48 s4 ([x19] : List registrarref26_Entry)).bind (fun (x28 : List registrarref26_Entry) => some x28)) else some s4)).bind (fun (j15 : List registrarref26_Entry) => some j15)) p0.L.length 0 ([] : List registrarref26_Entry)).bind (fun (s4 : (List registrarref26_Entry)) => some s4)
set_option maxHeartbeats 1000000 in
theorem registrarref26_Cache_without_ok {E w : World} {I : Mem} {Os : List Mem} {p0 : registrarref26_Cache} {p1 : Int} {b_p0 : Nat} {w_p0 : W_registrarref26_Cache} (h_p0 : ok_registrarref26_Cache I p0 w_p0) (hS : St E w I ((one b_p0 (.cells (cs_registrarref26_Cache p0 w_p0).toArray 59 (0, 0))) :: Os)) {r : (List registrarref26_Entry)} (hr : registrarref26_Cache_without p0 p1 = some r) :
    Calls P 32 #[(.pointer (some ⟨b_p0, 0, none⟩)), (.int .i64 p1)] w (fun e w' => ∃ (I' : Mem) (ra0 : Option Addr) (rc0 : Nat), e = .returned (.slice ra0 r.length rc0) ∧ I.Le I' ∧ St E w' I' ((one b_p0 (.cells (cs_registrarref26_Cache p0 w_p0).toArray 59 (0, 0))) :: Os) ∧ RSl 4 R_registrarref26_Entry I' ra0 rc0 r) := by
  refine calls_W (args := [(.pointer (some ⟨b_p0, 0, none⟩)), (.int .i64 p1)]) (fn := Try.f32) rfl rfl rfl ?_
  unfold registrarref26_Cache_without at hr
  refine W.seq ?_
  refine W.region (l := [0]) (by kernel_rfl) ?_
  refine WO.vals [(0, 4, (.slice none 0 0))] (by kernel_rfl) (fun _ => by kernel_rfl) ?_
  refine WO.nil ?_
  refine En.next ?_
  refine W.seq ?_
  refine W.region (l := [0]) (by kernel_rfl) ?_
  refine WO.vals [(0, 5, (.slice none 0 0))] (by kernel_rfl) (fun _ => by kernel_rfl) ?_
  refine WO.nil ?_
  refine En.next ?_
  refine W.seq ?_
  refine W.seq ?_
  refine W.region (l := [0]) (by kernel_rfl) ?_
  refine WO.vals [(0, 6, (.int .i64 0))] (by kernel_rfl) (fun _ => by kernel_rfl) ?_
  refine WO.nil ?_
  refine En.next ?_
  refine W.block ?_
  obtain ⟨s4, hloop6, hr⟩ := bind_some hr
  have hS8 := hS.no
  have hS9 := hS8.front1
  have hlt13 := (h_p0.L).len_lt
  refine W.weaken (fr' := [(0, (.pointer (some ⟨b_p0, 0, none⟩))), (1, (.int .i64 p1)), (5, (.slice none ([] : List registrarref26_Entry).length 0)), (6, (.int .i64 ((0 : Nat) : Int)))]) (W.forE (m := p0.L.length) hloop6 (fun (i5 : Nat) => fun (s4 : List registrarref26_Entry) fr w => ∃ (I2 : Mem), ∃ (a_s4 : Option Addr), ∃ (c_s4 : Nat), ∃ (C_s4 : Mem), fr = [(0, (.pointer (some ⟨b_p0, 0, none⟩))), (1, (.int .i64 p1)), (5, (.slice a_s4 s4.length c_s4)), (6, (.int .i64 (i5 : Int)))] ∧ I.Le I2 ∧ St E w I2 ((one b_p0 (.cells (cs_registrarref26_Cache p0 w_p0).toArray 59 (0, 0))) :: (C_s4) :: Os) ∧ OwnSl 79 4 R_registrarref26_Entry I2 C_s4 a_s4 c_s4 s4) ⟨I, none, 0, Mem.no, rfl, Mem.Le.refl _, hS9, OwnSl.nil⟩ ?roundt1 ?lastt1) (Sub.cons rfl (Sub.cons rfl (Sub.cons rfl (Sub.cons rfl Sub.nil))))
  case roundt1 =>
    rintro i5 s4 _ w10 hi14 ⟨I2, a_s4, c_s4, C_s4, rfl, hl3, hS11, h_s4⟩ x12 hr1
    refine W.seq ?_
    refine W.seq ?_
    refine W.region (l := [0, 1, 2, 3, 4, 5, 6]) (by kernel_rfl) ?_
    refine WO.vals [(0, 7, (.int .i64 (i5 : Int))), (1, 8, (.pointer (some ⟨b_p0, 0, none⟩))), (2, 9, (.pointer (some ⟨b_p0, 0, none⟩))), (3, 10, (.pointer (some ⟨b_p0, 0, none⟩)))] (by kernel_rfl) (fun _ => by kernel_rfl) ?_
    refine WO.load rfl (by kernel_rfl) (by kernel_rfl) rfl (v := (.slice w_p0.L.a p0.L.length w_p0.L.c)) (fun w' hw' => cell_one ((rd_f (hS11.rd (List.Mem.head _))) w' hw') (by kernel_rfl)) ?_
    refine WO.vals [(5, 12, (.int .i64 (p0.L.length : Int))), (6, 13, (.bool (decide ((i5 : Int) < (p0.L.length : Int)))))] (by kernel_rfl) (fun _ => by kernel_rfl) ?_
    refine WO.nil ?_
    refine En.next ?_
    refine W.cond (b := (decide ((i5 : Int) < (p0.L.length : Int)))) rfl rfl (fun hc => ?_) (fun hc => ?_)
    rotate_left
    · exact absurd hc (by first | (simp; done) | (simp; omega))
    clear hc
    refine W.skip ?_
    refine En.next ?_
    refine W.seq ?_
    refine W.block ?_
    refine W.seq ?_
    refine W.region (l := [0, 1, 2]) (by kernel_rfl) ?_
    refine WO.vals [(0, 16, (.int .i64 (i5 : Int))), (1, 17, (.int .i64 p1)), (2, 18, (.bool ((i5 : Int) != p1)))] (by kernel_rfl) (fun _ => by kernel_rfl) ?_
    refine WO.nil ?_
    refine En.next ?_
    obtain ⟨j15, hr2, hr1⟩ := bind_some hr1
    refine W.join (J := (fun fr w => ∃ (I17 : Mem), ∃ (a_j15 : Option Addr), ∃ (c_j15 : Nat), ∃ (C_j15 : Mem), fr = [(0, (.pointer (some ⟨b_p0, 0, none⟩))), (1, (.int .i64 p1)), (5, (.slice a_j15 j15.length c_j15)), (6, (.int .i64 (i5 : Int)))] ∧ I2.Le I17 ∧ St E w I17 ((one b_p0 (.cells (cs_registrarref26_Cache p0 w_p0).toArray 59 (0, 0))) :: (C_j15) :: Os) ∧ OwnSl 79 4 R_registrarref26_Entry I17 C_j15 a_j15 c_j15 j15)) ?restj15 ?waysj15
    case waysj15 =>
      refine W.cond (b := ((i5 : Int) != p1)) rfl rfl (fun hc => ?_) (fun hc => ?_)
      · replace hr2 := cond_t hc hr2
        refine W.region (l := [0, 1, 2, 3, 4, 5, 6, 7, 8, 9, 10]) (by kernel_rfl) ?_
        refine WO.vals [(0, 19, (.slice a_s4 s4.length c_s4)), (1, 20, (.pointer (some ⟨b_p0, 0, none⟩))), (2, 21, (.pointer (some ⟨b_p0, 0, none⟩))), (3, 22, (.pointer (some ⟨b_p0, 0, none⟩)))] (by kernel_rfl) (fun _ => by kernel_rfl) ?_
        refine WO.load rfl (by kernel_rfl) (by kernel_rfl) rfl (v := (.slice w_p0.L.a p0.L.length w_p0.L.c)) (fun w' hw' => cell_one ((rd_f (hS11.rd (List.Mem.head _))) w' hw') (by kernel_rfl)) ?_
        refine WO.vals [(5, 24, (.int .i64 (i5 : Int)))] (by kernel_rfl) (fun _ => by kernel_rfl) ?_
        obtain ⟨x19, hx_x19, hr2⟩ := bind_some hr2
        obtain ⟨h0_x19, h1_x19, hx_x19⟩ := idx_some hx_x19
        obtain ⟨ha_x19, cs_x19, hn_x19, hr_x19, hc_x19⟩ := ((RSl.mono h_p0.L hl3)).el _ _ hx_x19
        obtain rfl := hr_x19
        refine WO.indexAddr (e := 79) (sz := 4) rfl (by kernel_rfl) (by kernel_rfl) (by kernel_rfl) rfl ha_x19 rfl h0_x19 h1_x19 ?_
        refine WO.loadN rfl (by kernel_rfl) (by kernel_rfl) rfl ((cs_registrarref26_Entry x19)) (by kernel_rfl) (fun w' hw' => hc_x19.cells (k := 0) (by kernel_rfl) rfl ((rd_f hS11.im) w' hw')) ?_
        refine WO.newSlice (rel := R_registrarref26_Entry) (xs := ([x19] : List registrarref26_Entry)) hS11 rfl (by kernel_rfl) rfl 79 4 [(cs_registrarref26_Entry x19)] (by kernel_rfl) rfl ((Elr.cons rfl Elr.nil)) (fun _ _ _ => trivial) ?_
        intro a23 C21 w25 hS24 ho22
        have hS27 := hS24.front2
        obtain ⟨x28, hx_x28, hr2⟩ := bind_some hr2
        obtain ⟨h0_x28, he_x28⟩ := app_some hx_x28
        refine WO.append (e' := 79) (b := 48) (zs := (cs_registrarref26_Entry z_registrarref26_Entry).toArray) hS27 h_s4 rfl (by kernel_rfl) rfl (by kernel_rfl) (by kernel_rfl) (by kernel_rfl) rfl rfl rfl rfl ho22.sl (hS27.rd (List.Mem.tail _ (List.Mem.head _))) h0_x28 he_x28 (fun _ _ _ => trivial) ?_
        intro a29 c30 w31 C32 hS33 ho34
        have hS35 := hS33.front1
        have hS36 := hS35.drop
        refine WO.vals [(10, 5, (.slice a29 x28.length c30))] (by kernel_rfl) (fun _ => by kernel_rfl) ?_
        refine WO.nil ?_
        have hS37 := hS36.front1
        have he := Option.some.inj hr2
        subst j15
        refine En.weaken (fr' := [(0, (.pointer (some ⟨b_p0, 0, none⟩))), (1, (.int .i64 p1)), (5, (.slice a29 x28.length c30)), (6, (.int .i64 (i5 : Int)))]) (En.round ⟨I2, a29, c30, C32, rfl, Mem.Le.refl _, hS37, ho34⟩) (Sub.cons rfl (Sub.cons rfl (Sub.cons rfl (Sub.cons rfl Sub.nil))))
      · replace hr2 := cond_f hc hr2
        refine W.skip ?_
        have he := Option.some.inj hr2
        subst j15
        refine En.weaken (fr' := [(0, (.pointer (some ⟨b_p0, 0, none⟩))), (1, (.int .i64 p1)), (5, (.slice a_s4 s4.length c_s4)), (6, (.int .i64 (i5 : Int)))]) (En.round ⟨I2, a_s4, c_s4, C_s4, rfl, Mem.Le.refl _, hS11, h_s4⟩) (Sub.cons rfl (Sub.cons rfl (Sub.cons rfl (Sub.cons rfl Sub.nil))))
    case restj15 =>
      rintro _ w38 ⟨I17, a_j15, c_j15, C_j15, rfl, hl18, hS39, h_j15⟩
      refine En.in_normal ?_
      refine En.next ?_
      refine W.region (l := [0, 1, 2]) (by kernel_rfl) ?_
      refine WO.vals [(0, 14, (.int .i64 (i5 : Int)))] (by kernel_rfl) (fun _ => by kernel_rfl) ?_
      refine WO.incr (j := i5) rfl (by kernel_rfl) rfl (by omega) ?_
      refine WO.vals [(2, 6, (.int .i64 ((i5 + 1 : Nat) : Int)))] (by kernel_rfl) (fun _ => by kernel_rfl) ?_
      refine WO.nil ?_
      have he := Option.some.inj hr1
      subst x12
      refine En.weaken (fr' := [(0, (.pointer (some ⟨b_p0, 0, none⟩))), (1, (.int .i64 p1)), (5, (.slice a_j15 j15.length c_j15)), (6, (.int .i64 ((i5 + 1 : Nat) : Int)))]) (En.round ⟨I17, a_j15, c_j15, C_j15, rfl, (hl3.trans hl18), hS39, h_j15⟩) (Sub.cons rfl (Sub.cons rfl (Sub.cons rfl (Sub.cons rfl Sub.nil))))
  case lastt1 =>
    rintro _ w40 ⟨I2, a_s4, c_s4, C_s4, rfl, hl3, hS41, h_s4⟩
    refine W.seq ?_
    refine W.seq ?_
    refine W.region (l := [0, 1, 2, 3, 4, 5, 6]) (by kernel_rfl) ?_
    refine WO.vals [(0, 7, (.int .i64 (p0.L.length : Int))), (1, 8, (.pointer (some ⟨b_p0, 0, none⟩))), (2, 9, (.pointer (some ⟨b_p0, 0, none⟩))), (3, 10, (.pointer (some ⟨b_p0, 0, none⟩)))] (by kernel_rfl) (fun _ => by kernel_rfl) ?_
    refine WO.load rfl (by kernel_rfl) (by kernel_rfl) rfl (v := (.slice w_p0.L.a p0.L.length w_p0.L.c)) (fun w' hw' => cell_one ((rd_f (hS41.rd (List.Mem.head _))) w' hw') (by kernel_rfl)) ?_
    refine WO.vals [(5, 12, (.int .i64 (p0.L.length : Int))), (6, 13, (.bool (decide ((p0.L.length : Int) < (p0.L.length : Int)))))] (by kernel_rfl) (fun _ => by kernel_rfl) ?_
    refine WO.nil ?_
    refine En.next ?_
    refine W.cond (b := (decide ((p0.L.length : Int) < (p0.L.length : Int)))) rfl rfl (fun hc => ?_) (fun hc => ?_)
    · exact absurd hc (by first | (simp; done) | (simp; omega))
    clear hc
    refine W.exit ?_
    refine En.nx_exit ?_
    refine En.rd_exit ?_
    refine En.in_hit ?_
    refine En.next ?_
    refine W.seq ?_
    refine W.region (l := [0, 1]) (by kernel_rfl) ?_
    refine WO.vals [(0, 29, (.slice a_s4 s4.length c_s4))] (by kernel_rfl) (fun _ => by kernel_rfl) ?_
    have hS42 := hS41.front1
    obtain ⟨I43, hl44, hS46, hp45⟩ := OwnSl.pub h_s4 hS42
    refine WO.vals [(1, 4, (.slice a_s4 s4.length c_s4))] (by kernel_rfl) (fun _ => by kernel_rfl) ?_
    refine WO.nil ?_
    refine En.next ?_
    refine W.ret ?_
    have he := Option.some.inj hr
    subst r
    exact En.ret1 rfl (.slice a_s4 s4.length c_s4) rfl ⟨I43, a_s4, c_s4, rfl, (hl3.trans hl44), hS46, hp45⟩
def registrarref26_Cache_Put (p0 : registrarref26_Cache) (p1 : registrarref26_Entry) : Option (Int × registrarref26_Cache) := (bif ((decide (p1.Who < 1)) || (decide (p1.Who > 8))) then some (2, p0) else ((registrarref26_Cache_find p0 p1.Who p1.Name).bind (fun (r20 : Int) => (registrarref26_Cache_without p0 r20).bind (fun (r26 : List registrarref26_Entry) => (app 48 ([p1] : List registrarref26_Entry) r26).bind (fun (x34 : List registrarref26_Entry) => some { p0 with L := x34 })))).bind (fun (j8 : registrarref26_Cache) => ((bif (decide ((j8.L.length : Int) > j8.Most)) then (sub j8.L 0 j8.Most).bind (fun (x135 : List registrarref26_Entry) => some { j8 with L := x135 }) else some j8)).bind (fun (j129 : registrarref26_Cache) => some (0, j129))))
set_option maxHeartbeats 1000000 in
theorem registrarref26_Cache_Put_ok {E w : World} {I : Mem} {Os : List Mem} {p0 : registrarref26_Cache} {p1 : registrarref26_Entry} {b_p0 : Nat} {w_p0 : W_registrarref26_Cache} (h_p0 : ok_registrarref26_Cache I p0 w_p0) (hS : St E w I ((one b_p0 (.cells (cs_registrarref26_Cache p0 w_p0).toArray 59 (0, 0))) :: Os)) {r : Int × registrarref26_Cache} (hr : registrarref26_Cache_Put p0 p1 = some r) :
    Calls P 20 #[(.pointer (some ⟨b_p0, 0, none⟩)), (.agg (cs_registrarref26_Entry p1).toArray)] w (fun e w' => ∃ (I' : Mem) (w_rp0 : W_registrarref26_Cache), e = .returned (.int .i64 r.1) ∧ I.Le I' ∧ St E w' I' ((one b_p0 (.cells (cs_registrarref26_Cache r.2 w_rp0).toArray 59 (0, 0))) :: Os) ∧ ok_registrarref26_Cache I' r.2 w_rp0) := by
  refine calls_W (args := [(.pointer (some ⟨b_p0, 0, none⟩)), (.agg (cs_registrarref26_Entry p1).toArray)]) (fn := Try.f20) rfl rfl rfl ?_
  unfold registrarref26_Cache_Put at hr
  refine W.seq ?_
  refine W.region (l := [0, 1]) (by kernel_rfl) ?_
  refine WO.new hS rfl (by kernel_rfl) rfl (.cells (cs_registrarref26_Entry p1).toArray 79 (0, 0)) (fun b => .pointer (some ⟨b, 0, none⟩)) (by kernel_rfl) (fun _ _ _ => trivial) ?_
  intro b1 w4 hS3
  refine WO.vals [(1, 4, (.int .i64 0))] (by kernel_rfl) (fun _ => by kernel_rfl) ?_
  refine WO.nil ?_
  refine En.next ?_
  refine W.seq ?_
  refine W.seq ?_
  refine W.region (l := [0, 1, 2, 3, 4, 5, 6, 7]) (by kernel_rfl) ?_
  refine WO.vals [(0, 5, (.pointer (some ⟨b1, 0, none⟩)))] (by kernel_rfl) (fun _ => by kernel_rfl) ?_
  refine WO.load rfl (by kernel_rfl) (by kernel_rfl) rfl (v := (.int .i64 p1.Who)) (fun w' hw' => cell_one ((rd_f (hS3.rd (List.Mem.head _))) w' hw') (by kernel_rfl)) ?_
  refine WO.vals [(2, 7, (.bool (decide (p1.Who < 1)))), (3, 8, (.bool (decide (p1.Who < 1))))] (by kernel_rfl) (fun _ => by kernel_rfl) ?_
  refine WO.join (l1 := [4, 5, 6, 7]) (l2 := []) (J := fun frx wx => frx = [(12, (.bool ((decide (p1.Who < 1)) || (decide (p1.Who > 8))))), (0, (.pointer (some ⟨b_p0, 0, none⟩))), (3, (.pointer (some ⟨b1, 0, none⟩)))] ∧ w4 = wx) ?restm5 ?waysm5
  case waysm5 =>
    refine WO.caseb (decide (p1.Who < 1)) (fun hc => ?_) (fun hc => ?_)
    · skip
      refine WO.reslot 8 rfl (show Value.bool (decide (p1.Who < 1)) = Value.bool true by rw [hc]) ?_
      refine WO.pass rfl (by kernel_rfl) rfl ?_
      refine WO.pass rfl (by kernel_rfl) rfl ?_
      refine WO.pass rfl (by kernel_rfl) rfl ?_
      refine WO.vals [(7, 12, (.bool true))] (by kernel_rfl) (fun _ => by kernel_rfl) ?_
      refine WO.weaken (fr' := [(12, (.bool ((decide (p1.Who < 1)) || (decide (p1.Who > 8))))), (0, (.pointer (some ⟨b_p0, 0, none⟩))), (3, (.pointer (some ⟨b1, 0, none⟩)))]) (WO.meet ⟨rfl, rfl⟩) (Sub.cons (by rw [hc]; rfl) (Sub.cons rfl (Sub.cons rfl Sub.nil)))
    · skip
      refine WO.reslot 8 rfl (show Value.bool (decide (p1.Who < 1)) = Value.bool false by rw [hc]) ?_
      refine WO.vals [(4, 9, (.pointer (some ⟨b1, 0, none⟩)))] (by kernel_rfl) (fun _ => by kernel_rfl) ?_
      refine WO.load rfl (by kernel_rfl) (by kernel_rfl) rfl (v := (.int .i64 p1.Who)) (fun w' hw' => cell_one ((rd_f (hS3.rd (List.Mem.head _))) w' hw') (by kernel_rfl)) ?_
      refine WO.vals [(6, 11, (.bool (decide (p1.Who > 8)))), (7, 12, (.bool (decide (p1.Who > 8))))] (by kernel_rfl) (fun _ => by kernel_rfl) ?_
      refine WO.weaken (fr' := [(12, (.bool ((decide (p1.Who < 1)) || (decide (p1.Who > 8))))), (0, (.pointer (some ⟨b_p0, 0, none⟩))), (3, (.pointer (some ⟨b1, 0, none⟩)))]) (WO.meet ⟨rfl, rfl⟩) (Sub.cons (by rw [hc]; rfl) (Sub.cons rfl (Sub.cons rfl Sub.nil)))
  case restm5 =>
    rintro _ _ ⟨rfl, rfl⟩
    refine WO.nil ?_
    refine En.next ?_
    refine W.cond (b := ((decide (p1.Who < 1)) || (decide (p1.Who > 8)))) rfl rfl (fun hc => ?_) (fun hc => ?_)
    · replace hr := cond_t hc hr
      refine W.seq ?_
      refine W.region (l := [0]) (by kernel_rfl) ?_
      refine WO.vals [(0, 4, (.int .i64 2))] (by kernel_rfl) (fun _ => by kernel_rfl) ?_
      refine WO.nil ?_
      refine En.next ?_
      refine W.ret ?_
      refine En.nx_ret ?_
      have hS7 := hS3.drop
      have he := Option.some.inj hr
      subst r
      exact En.ret1 rfl (.int .i64 2) rfl ⟨I, w_p0, rfl, Mem.Le.refl _, hS7, h_p0⟩
    · replace hr := cond_f hc hr
      refine W.skip ?_
      refine En.next ?_
      refine W.seq ?_
      obtain ⟨j8, hr1, hr⟩ := bind_some hr
      refine W.join (J := (fun fr w => ∃ (I10 : Mem), ∃ (w_j8 : W_registrarref26_Cache), fr = [(0, (.pointer (some ⟨b_p0, 0, none⟩)))] ∧ I.Le I10 ∧ St E w I10 ((one b_p0 (.cells (cs_registrarref26_Cache j8 w_j8).toArray 59 (0, 0))) :: Os) ∧ ok_registrarref26_Cache I10 j8 w_j8)) ?restj8 ?waysj8
      case waysj8 =>
        have hS12 := hS3.drew
        refine W.draws (.split 9 2 (.split 10 2 (.leaf [0, 1, 3, 4, 5, 6, 7, 8, 9, 10, 2, 11, 12, 13, 14]) (.leaf [0, 1, 3, 4, 5, 6, 7, 8, 9, 2, 10, 11, 12, 13, 14])) (.leaf [0, 1, 2, 3, 4, 5, 6, 7, 8, 9, 10, 11, 12, 13, 14])) 11 (KR I [one b1 (.cells (cs_registrarref26_Entry p1).toArray 79 (0, 0))]) qR (.back (by kernel_rfl)) (by kernel_rfl) (KR.cons (hS12.rd (List.Mem.head _)) (KR.nil hS12.im)) ?_
        generalize World.drew _ = w13 at *
        refine ⟨?_, ?_⟩
        · skip
          refine ⟨?_, ?_⟩
          · skip
            show WO _ _ _ _ _ _ _ [0, 1, 3, 4, 5, 6, 7, 8, 9, 10, 2, 11, 12, 13, 14] _ _
            refine WO.vals [(0, 13, (.pointer (some ⟨b_p0, 0, none⟩)))] (by kernel_rfl) (fun _ => by kernel_rfl) ?_
            refine WO.loadN rfl (by kernel_rfl) (by kernel_rfl) rfl ((cs_registrarref26_Entry p1)) (by kernel_rfl) (fun w' hw' => cells_one ((rd_c (List.Mem.head _) (hS12.rd (List.Mem.head _))) w' hw') (by kernel_rfl)) ?_
            refine WO.vals [(3, 16, (.pointer (some ⟨b_p0, 0, none⟩))), (4, 17, (.pointer (some ⟨b_p0, 0, none⟩))), (5, 18, (.pointer (some ⟨b1, 0, none⟩)))] (by kernel_rfl) (fun _ => by kernel_rfl) ?_
            refine WO.load rfl (by kernel_rfl) (by kernel_rfl) rfl (v := (.int .i64 p1.Who)) (fun w' hw' => cell_one ((rd_c (List.Mem.head _) (hS12.rd (List.Mem.head _))) w' hw') (by kernel_rfl)) ?_
            refine WO.vals [(7, 20, (.pointer (some ⟨b1, 1, none⟩)))] (by kernel_rfl) (fun _ => by kernel_rfl) ?_
            refine WO.load rfl (by kernel_rfl) (by kernel_rfl) rfl (v := (.string p1.Name)) (fun w' hw' => cell_one ((rd_c (List.Mem.head _) (hS12.rd (List.Mem.head _))) w' hw') (by kernel_rfl)) ?_
            have hS14 := hS12.front1
            obtain ⟨r20, hx_r15, hr1⟩ := bind_some hr1
            refine WO.call rfl (by kernel_rfl) rfl (f := 33) (args := #[(.pointer (some ⟨b_p0, 0, none⟩)), (.int .i64 p1.Who), (.string p1.Name)]) (by kernel_rfl) (registrarref26_Cache_find_ok h_p0 hS14 hx_r15) ?_
            rintro _ w16 ⟨I17, rfl, hl18, hS19⟩
            refine ⟨_, rfl, (KR.cons (hS19.rd (List.Mem.tail _ (List.Mem.head _))) (KR.nil (hS19.im.of_le hl18))), ?_⟩
            obtain ⟨r26, hx_r21, hr1⟩ := bind_some hr1
            refine WO.call rfl (by kernel_rfl) rfl (f := 32) (args := #[(.pointer (some ⟨b_p0, 0, none⟩)), (.int .i64 r20)]) (by kernel_rfl) (registrarref26_Cache_without_ok (h_p0.mono hl18) hS19 hx_r21) ?_
            rintro _ w22 ⟨I23, a_r26, c_r26, rfl, hl24, hS25, h_r26⟩
            refine ⟨_, rfl, (KR.cons (hS25.rd (List.Mem.tail _ (List.Mem.head _))) (KR.nil (hS25.im.of_le (hl18.trans hl24)))), ?_⟩
            refine WO.newSlice (rel := R_registrarref26_Entry) (xs := ([p1] : List registrarref26_Entry)) hS25 rfl (by kernel_rfl) rfl 79 4 [(cs_registrarref26_Entry p1)] (by kernel_rfl) rfl ((Elr.cons rfl Elr.nil)) (fun C28 w32 hS31 => (KR.cons (hS31.rd (List.Mem.tail _ (List.Mem.tail _ (List.Mem.head _)))) (KR.nil (hS31.im.of_le (hl18.trans hl24))))) ?_
            intro a30 C28 w32 hS31 ho29
            refine WO.tail rfl ?_
            obtain ⟨x34, hx_x34, hr1⟩ := bind_some hr1
            obtain ⟨h0_x34, he_x34⟩ := app_some hx_x34
            refine WO.append (e' := 79) (b := 48) (zs := (cs_registrarref26_Entry z_registrarref26_Entry).toArray) hS31 ho29 rfl (by kernel_rfl) rfl (by kernel_rfl) (by kernel_rfl) (by kernel_rfl) rfl rfl rfl rfl h_r26 hS31.im h0_x34 he_x34 (fun _ _ _ => trivial) ?_
            intro a35 c36 w37 C38 hS39 ho40
            refine WO.vals [(12, 25, (.pointer (some ⟨b_p0, 0, none⟩))), (13, 26, (.pointer (some ⟨b_p0, 0, none⟩)))] (by kernel_rfl) (fun _ => by kernel_rfl) ?_
            obtain ⟨I41, hl42, hS44, hp43⟩ := OwnSl.pub ho40 hS39
            refine WO.storeBox hS44 rfl (by kernel_rfl) rfl 0 rfl rfl (by kernel_rfl) (by kernel_rfl) (by kernel_rfl) ((cs_registrarref26_Cache ({ p0 with L := x34 }) (⟨⟨a35, c36⟩⟩ : W_registrarref26_Cache)).toArray) (by kernel_rfl) (fun _ _ => trivial) ?_
            intro w46 hS45
            refine WO.nil ?_
            have hk47 : ok_registrarref26_Cache I41 ({ p0 with L := x34 }) (⟨⟨a35, c36⟩⟩ : W_registrarref26_Cache) := ⟨hp43⟩
            have hS48 := hS45.front1
            have hS49 := hS48.drop
            have he := Option.some.inj hr1
            subst j8
            refine En.weaken (fr' := [(0, (.pointer (some ⟨b_p0, 0, none⟩)))]) (En.round ⟨I41, (⟨⟨a35, c36⟩⟩ : W_registrarref26_Cache), rfl, ((hl18.trans hl24).trans hl42), hS49, hk47⟩) (Sub.cons rfl Sub.nil)
          · skip
            show WO _ _ _ _ _ _ _ [0, 1, 3, 4, 5, 6, 7, 8, 9, 2, 10, 11, 12, 13, 14] _ _
            refine WO.vals [(0, 13, (.pointer (some ⟨b_p0, 0, none⟩)))] (by kernel_rfl) (fun _ => by kernel_rfl) ?_
            refine WO.loadN rfl (by kernel_rfl) (by kernel_rfl) rfl ((cs_registrarref26_Entry p1)) (by kernel_rfl) (fun w' hw' => cells_one ((rd_c (List.Mem.head _) (hS12.rd (List.Mem.head _))) w' hw') (by kernel_rfl)) ?_
            refine WO.vals [(3, 16, (.pointer (some ⟨b_p0, 0, none⟩))), (4, 17, (.pointer (some ⟨b_p0, 0, none⟩))), (5, 18, (.pointer (some ⟨b1, 0, none⟩)))] (by kernel_rfl) (fun _ => by kernel_rfl) ?_
            refine WO.load rfl (by kernel_rfl) (by kernel_rfl) rfl (v := (.int .i64 p1.Who)) (fun w' hw' => cell_one ((rd_c (List.Mem.head _) (hS12.rd (List.Mem.head _))) w' hw') (by kernel_rfl)) ?_
            refine WO.vals [(7, 20, (.pointer (some ⟨b1, 1, none⟩)))] (by kernel_rfl) (fun _ => by kernel_rfl) ?_
            refine WO.load rfl (by kernel_rfl) (by kernel_rfl) rfl (v := (.string p1.Name)) (fun w' hw' => cell_one ((rd_c (List.Mem.head _) (hS12.rd (List.Mem.head _))) w' hw') (by kernel_rfl)) ?_
            have hS50 := hS12.front1
            obtain ⟨r56, hx_r51, hr1⟩ := bind_some hr1
            refine WO.call rfl (by kernel_rfl) rfl (f := 33) (args := #[(.pointer (some ⟨b_p0, 0, none⟩)), (.int .i64 p1.Who), (.string p1.Name)]) (by kernel_rfl) (registrarref26_Cache_find_ok h_p0 hS50 hx_r51) ?_
            rintro _ w52 ⟨I53, rfl, hl54, hS55⟩
            refine ⟨_, rfl, (KR.cons (hS55.rd (List.Mem.tail _ (List.Mem.head _))) (KR.nil (hS55.im.of_le hl54))), ?_⟩
            refine WO.newSlice (rel := R_registrarref26_Entry) (xs := ([p1] : List registrarref26_Entry)) hS55 rfl (by kernel_rfl) rfl 79 4 [(cs_registrarref26_Entry p1)] (by kernel_rfl) rfl ((Elr.cons rfl Elr.nil)) (fun C58 w62 hS61 => (KR.cons (hS61.rd (List.Mem.tail _ (List.Mem.tail _ (List.Mem.head _)))) (KR.nil (hS61.im.of_le hl54)))) ?_
            intro a60 C58 w62 hS61 ho59
            have hS64 := hS61.front1
            obtain ⟨r70, hx_r65, hr1⟩ := bind_some hr1
            refine WO.call rfl (by kernel_rfl) rfl (f := 32) (args := #[(.pointer (some ⟨b_p0, 0, none⟩)), (.int .i64 r56)]) (by kernel_rfl) (registrarref26_Cache_without_ok (h_p0.mono hl54) hS64 hx_r65) ?_
            rintro _ w66 ⟨I67, a_r70, c_r70, rfl, hl68, hS69, h_r70⟩
            refine ⟨_, rfl, (KR.cons (hS69.rd (List.Mem.tail _ (List.Mem.tail _ (List.Mem.head _)))) (KR.nil (hS69.im.of_le (hl54.trans hl68)))), ?_⟩
            refine WO.tail rfl ?_
            have hS71 := hS69.front1
            obtain ⟨x72, hx_x72, hr1⟩ := bind_some hr1
            obtain ⟨h0_x72, he_x72⟩ := app_some hx_x72
            refine WO.append (e' := 79) (b := 48) (zs := (cs_registrarref26_Entry z_registrarref26_Entry).toArray) hS71 (OwnSl.mono ho59 hl68) rfl (by kernel_rfl) rfl (by kernel_rfl) (by kernel_rfl) (by kernel_rfl) rfl rfl rfl rfl h_r70 hS71.im h0_x72 he_x72 (fun _ _ _ => trivial) ?_
            intro a73 c74 w75 C76 hS77 ho78
            refine WO.vals [(12, 25, (.pointer (some ⟨b_p0, 0, none⟩))), (13, 26, (.pointer (some ⟨b_p0, 0, none⟩)))] (by kernel_rfl) (fun _ => by kernel_rfl) ?_
            obtain ⟨I79, hl80, hS82, hp81⟩ := OwnSl.pub ho78 hS77
            refine WO.storeBox hS82 rfl (by kernel_rfl) rfl 0 rfl rfl (by kernel_rfl) (by kernel_rfl) (by kernel_rfl) ((cs_registrarref26_Cache ({ p0 with L := x72 }) (⟨⟨a73, c74⟩⟩ : W_registrarref26_Cache)).toArray) (by kernel_rfl) (fun _ _ => trivial) ?_
            intro w84 hS83
            refine WO.nil ?_
            have hk85 : ok_registrarref26_Cache I79 ({ p0 with L := x72 }) (⟨⟨a73, c74⟩⟩ : W_registrarref26_Cache) := ⟨hp81⟩
            have hS86 := hS83.front1
            have hS87 := hS86.drop
            have he := Option.some.inj hr1
            subst j8
            refine En.weaken (fr' := [(0, (.pointer (some ⟨b_p0, 0, none⟩)))]) (En.round ⟨I79, (⟨⟨a73, c74⟩⟩ : W_registrarref26_Cache), rfl, ((hl54.trans hl68).trans hl80), hS87, hk85⟩) (Sub.cons rfl Sub.nil)
        · skip
          show WO _ _ _ _ _ _ _ [0, 1, 2, 3, 4, 5, 6, 7, 8, 9, 10, 11, 12, 13, 14] _ _
          refine WO.vals [(0, 13, (.pointer (some ⟨b_p0, 0, none⟩)))] (by kernel_rfl) (fun _ => by kernel_rfl) ?_
          refine WO.loadN rfl (by kernel_rfl) (by kernel_rfl) rfl ((cs_registrarref26_Entry p1)) (by kernel_rfl) (fun w' hw' => cells_one ((rd_c (List.Mem.head _) (hS12.rd (List.Mem.head _))) w' hw') (by kernel_rfl)) ?_
          refine WO.newSlice (rel := R_registrarref26_Entry) (xs := ([p1] : List registrarref26_Entry)) hS12 rfl (by kernel_rfl) rfl 79 4 [(cs_registrarref26_Entry p1)] (by kernel_rfl) rfl ((Elr.cons rfl Elr.nil)) (fun C89 w93 hS92 => (KR.cons (hS92.rd (List.Mem.tail _ (List.Mem.head _))) (KR.nil hS92.im))) ?_
          intro a91 C89 w93 hS92 ho90
          refine WO.vals [(3, 16, (.pointer (some ⟨b_p0, 0, none⟩))), (4, 17, (.pointer (some ⟨b_p0, 0, none⟩))), (5, 18, (.pointer (some ⟨b1, 0, none⟩)))] (by kernel_rfl) (fun _ => by kernel_rfl) ?_
          refine WO.load rfl (by kernel_rfl) (by kernel_rfl) rfl (v := (.int .i64 p1.Who)) (fun w' hw' => cell_one ((rd_c (List.Mem.head _) (hS92.rd (List.Mem.tail _ (List.Mem.head _)))) w' hw') (by kernel_rfl)) ?_
          refine WO.vals [(7, 20, (.pointer (some ⟨b1, 1, none⟩)))] (by kernel_rfl) (fun _ => by kernel_rfl) ?_
          refine WO.load rfl (by kernel_rfl) (by kernel_rfl) rfl (v := (.string p1.Name)) (fun w' hw' => cell_one ((rd_c (List.Mem.head _) (hS92.rd (List.Mem.tail _ (List.Mem.head _)))) w' hw') (by kernel_rfl)) ?_
          have hS95 := hS92.front2
          obtain ⟨r101, hx_r96, hr1⟩ := bind_some hr1
          refine WO.call rfl (by kernel_rfl) rfl (f := 33) (args := #[(.pointer (some ⟨b_p0, 0, none⟩)), (.int .i64 p1.Who), (.string p1.Name)]) (by kernel_rfl) (registrarref26_Cache_find_ok h_p0 hS95 hx_r96) ?_
          rintro _ w97 ⟨I98, rfl, hl99, hS100⟩
          refine ⟨_, rfl, (KR.cons (hS100.rd (List.Mem.tail _ (List.Mem.tail _ (List.Mem.head _)))) (KR.nil (hS100.im.of_le hl99))), ?_⟩
          obtain ⟨r107, hx_r102, hr1⟩ := bind_some hr1
          refine WO.call rfl (by kernel_rfl) rfl (f := 32) (args := #[(.pointer (some ⟨b_p0, 0, none⟩)), (.int .i64 r101)]) (by kernel_rfl) (registrarref26_Cache_without_ok (h_p0.mono hl99) hS100 hx_r102) ?_
          rintro _ w103 ⟨I104, a_r107, c_r107, rfl, hl105, hS106, h_r107⟩
          refine ⟨_, rfl, (KR.cons (hS106.rd (List.Mem.tail _ (List.Mem.tail _ (List.Mem.head _)))) (KR.nil (hS106.im.of_le (hl99.trans hl105)))), ?_⟩
          refine WO.tail rfl ?_
          have hS108 := hS106.front1
          obtain ⟨x109, hx_x109, hr1⟩ := bind_some hr1
          obtain ⟨h0_x109, he_x109⟩ := app_some hx_x109
          refine WO.append (e' := 79) (b := 48) (zs := (cs_registrarref26_Entry z_registrarref26_Entry).toArray) hS108 (OwnSl.mono ho90 (hl99.trans hl105)) rfl (by kernel_rfl) rfl (by kernel_rfl) (by kernel_rfl) (by kernel_rfl) rfl rfl rfl rfl h_r107 hS108.im h0_x109 he_x109 (fun _ _ _ => trivial) ?_
          intro a110 c111 w112 C113 hS114 ho115
          refine WO.vals [(12, 25, (.pointer (some ⟨b_p0, 0, none⟩))), (13, 26, (.pointer (some ⟨b_p0, 0, none⟩)))] (by kernel_rfl) (fun _ => by kernel_rfl) ?_
          obtain ⟨I116, hl117, hS119, hp118⟩ := OwnSl.pub ho115 hS114
          refine WO.storeBox hS119 rfl (by kernel_rfl) rfl 0 rfl rfl (by kernel_rfl) (by kernel_rfl) (by kernel_rfl) ((cs_registrarref26_Cache ({ p0 with L := x109 }) (⟨⟨a110, c111⟩⟩ : W_registrarref26_Cache)).toArray) (by kernel_rfl) (fun _ _ => trivial) ?_
          intro w121 hS120
          refine WO.nil ?_
          have hk122 : ok_registrarref26_Cache I116 ({ p0 with L := x109 }) (⟨⟨a110, c111⟩⟩ : W_registrarref26_Cache) := ⟨hp118⟩
          have hS123 := hS120.front1
          have hS124 := hS123.drop
          have he := Option.some.inj hr1
          subst j8
          refine En.weaken (fr' := [(0, (.pointer (some ⟨b_p0, 0, none⟩)))]) (En.round ⟨I116, (⟨⟨a110, c111⟩⟩ : W_registrarref26_Cache), rfl, ((hl99.trans hl105).trans hl117), hS124, hk122⟩) (Sub.cons rfl Sub.nil)
      case restj8 =>
        rintro _ w125 ⟨I10, w_j8, rfl, hl11, hS126, h_j8⟩
        refine En.next ?_
        refine W.seq ?_
        refine W.seq ?_
        have hS127 := hS126.drew
        refine W.draw (l := [0, 1, 2, 3, 4, 5, 6, 7, 8, 9]) (by kernel_rfl) 9 (KR I10 [one b_p0 (.cells (cs_registrarref26_Cache j8 w_j8).toArray 59 (0, 0))]) qR (.back (by kernel_rfl)) (by kernel_rfl) (KR.cons (hS127.rd (List.Mem.head _)) (KR.nil hS127.im)) ?_
        generalize World.drew _ = w128 at *
        refine WO.vals [(0, 27, (.pointer (some ⟨b_p0, 0, none⟩))), (1, 28, (.pointer (some ⟨b_p0, 0, none⟩))), (2, 29, (.pointer (some ⟨b_p0, 0, none⟩)))] (by kernel_rfl) (fun _ => by kernel_rfl) ?_
        refine WO.load rfl (by kernel_rfl) (by kernel_rfl) rfl (v := (.slice w_j8.L.a j8.L.length w_j8.L.c)) (fun w' hw' => cell_one ((rd_c (List.Mem.head _) (hS127.rd (List.Mem.head _))) w' hw') (by kernel_rfl)) ?_
        refine WO.vals [(4, 31, (.int .i64 (j8.L.length : Int))), (5, 32, (.pointer (some ⟨b_p0, 0, none⟩))), (6, 33, (.pointer (some ⟨b_p0, 0, none⟩))), (7, 34, (.pointer (some ⟨b_p0, 1, none⟩)))] (by kernel_rfl) (fun _ => by kernel_rfl) ?_
        refine WO.load rfl (by kernel_rfl) (by kernel_rfl) rfl (v := (.int .i64 j8.Most)) (fun w' hw' => cell_one ((rd_c (List.Mem.head _) (hS127.rd (List.Mem.head _))) w' hw') (by kernel_rfl)) ?_
        refine WO.tail rfl ?_
        refine WO.vals [(9, 36, (.bool (decide ((j8.L.length : Int) > j8.Most))))] (by kernel_rfl) (fun _ => by kernel_rfl) ?_
        refine WO.nil ?_
        refine En.next ?_
        obtain ⟨j129, hr1, hr⟩ := bind_some hr
        refine W.join (J := (fun fr w => ∃ (I131 : Mem), ∃ (w_j129 : W_registrarref26_Cache), fr = [] ∧ I10.Le I131 ∧ St E w I131 ((one b_p0 (.cells (cs_registrarref26_Cache j129 w_j129).toArray 59 (0, 0))) :: Os) ∧ ok_registrarref26_Cache I131 j129 w_j129)) ?restj129 ?waysj129
        case waysj129 =>
          refine W.cond (b := (decide ((j8.L.length : Int) > j8.Most))) rfl rfl (fun hc => ?_) (fun hc => ?_)
          · replace hr1 := cond_t hc hr1
            have hS133 := hS127.drew
            refine W.draw (l := [0, 1, 2, 3, 4, 5, 6, 7, 8, 9, 10, 11, 12]) (by kernel_rfl) 9 (KR I10 [one b_p0 (.cells (cs_registrarref26_Cache j8 w_j8).toArray 59 (0, 0))]) qR (.back (by kernel_rfl)) (by kernel_rfl) (KR.cons (hS133.rd (List.Mem.head _)) (KR.nil hS133.im)) ?_
            generalize World.drew _ = w134 at *
            refine WO.vals [(0, 37, (.pointer (some ⟨b_p0, 0, none⟩))), (1, 38, (.pointer (some ⟨b_p0, 0, none⟩))), (2, 39, (.pointer (some ⟨b_p0, 0, none⟩))), (3, 40, (.pointer (some ⟨b_p0, 0, none⟩)))] (by kernel_rfl) (fun _ => by kernel_rfl) ?_
            refine WO.load rfl (by kernel_rfl) (by kernel_rfl) rfl (v := (.slice w_j8.L.a j8.L.length w_j8.L.c)) (fun w' hw' => cell_one ((rd_c (List.Mem.head _) (hS133.rd (List.Mem.head _))) w' hw') (by kernel_rfl)) ?_
            refine WO.vals [(5, 42, (.pointer (some ⟨b_p0, 0, none⟩))), (6, 43, (.pointer (some ⟨b_p0, 0, none⟩))), (7, 44, (.pointer (some ⟨b_p0, 1, none⟩)))] (by kernel_rfl) (fun _ => by kernel_rfl) ?_
            refine WO.load rfl (by kernel_rfl) (by kernel_rfl) rfl (v := (.int .i64 j8.Most)) (fun w' hw' => cell_one ((rd_c (List.Mem.head _) (hS133.rd (List.Mem.head _))) w' hw') (by kernel_rfl)) ?_
            refine WO.tail rfl ?_
            obtain ⟨x135, hx_x135, hr1⟩ := bind_some hr1
            obtain ⟨h0_x135, h1_x135, h2_x135, he_x135⟩ := sub_some hx_x135
            have hl_x135 : (j8.Most : Int) ≤ (w_j8.L.c : Int) := Int.le_trans h2_x135 (Int.ofNat_le.2 (h_j8.L).le)
            refine WO.slice (e := 79) (sz := 4) rfl (by kernel_rfl) (by kernel_rfl) (by kernel_rfl) rfl (0 : Int) (j8.Most : Int) h0_x135 (.inl ⟨rfl, rfl⟩) (.inr ⟨_, _, rfl, rfl⟩) h1_x135 hl_x135 ?_
            obtain ⟨a_x135, c_x135, h_x135, ev_x135⟩ := sub_ok (h_j8.L) h0_x135 h1_x135 h2_x135 he_x135
            refine WO.reslot 46 rfl ev_x135 ?_
            refine WO.vals [(10, 47, (.pointer (some ⟨b_p0, 0, none⟩))), (11, 48, (.pointer (some ⟨b_p0, 0, none⟩)))] (by kernel_rfl) (fun _ => by kernel_rfl) ?_
            refine WO.storeBox hS133 rfl (by kernel_rfl) rfl 0 rfl rfl (by kernel_rfl) (by kernel_rfl) (by kernel_rfl) ((cs_registrarref26_Cache ({ j8 with L := x135 }) (⟨⟨a_x135, c_x135⟩⟩ : W_registrarref26_Cache)).toArray) (by kernel_rfl) (fun _ _ => trivial) ?_
            intro w137 hS136
            refine WO.nil ?_
            have hk138 : ok_registrarref26_Cache I10 ({ j8 with L := x135 }) (⟨⟨a_x135, c_x135⟩⟩ : W_registrarref26_Cache) := ⟨h_x135⟩
            have he := Option.some.inj hr1
            subst j129
            refine En.weaken (fr' := []) (En.round ⟨I10, (⟨⟨a_x135, c_x135⟩⟩ : W_registrarref26_Cache), rfl, Mem.Le.refl _, hS136, hk138⟩) Sub.nil
          · replace hr1 := cond_f hc hr1
            refine W.skip ?_
            have he := Option.some.inj hr1
            subst j129
            refine En.weaken (fr' := []) (En.round ⟨I10, w_j8, rfl, Mem.Le.refl _, hS127, h_j8⟩) Sub.nil
        case restj129 =>
          rintro _ w139 ⟨I131, w_j129, rfl, hl132, hS140, h_j129⟩
          refine En.next ?_
          refine W.seq ?_
          refine W.region (l := [0]) (by kernel_rfl) ?_
          refine WO.vals [(0, 4, (.int .i64 0))] (by kernel_rfl) (fun _ => by kernel_rfl) ?_
          refine WO.nil ?_
          refine En.next ?_
          refine W.ret ?_
          have he := Option.some.inj hr
          subst r
          exact En.ret1 rfl (.int .i64 0) rfl ⟨I131, w_j129, rfl, (hl11.trans hl132), hS140, h_j129⟩
def registrarref26_Cache_Get (p0 : registrarref26_Cache) (p1 : Int) (p2 : ByteArray) : Option (registrarref26_Entry × Bool × registrarref26_Cache) := (registrarref26_Cache_find p0 p1 p2).bind (fun (r11 : Int) => (bif (decide (r11 < 0)) then some (z_registrarref26_Entry, false, p0) else (idx p0.L r11).bind (fun (x16 : registrarref26_Entry) => ((registrarref26_Cache_without p0 r11).bind (fun (r35 : List registrarref26_Entry) => (app 48 ([x16] : List registrarref26_Entry) r35).bind (fun (x43 : List registrarref26_Entry) => some { p0 with L := x43 }))).bind (fun (j23 : registrarref26_Cache) => some (x16, true, j23)))))
set_option maxHeartbeats 1000000 in
theorem registrarref26_Cache_Get_ok {E w : World} {I : Mem} {Os : List Mem} {p0 : registrarref26_Cache} {p1 : Int} {p2 : ByteArray} {b_p0 : Nat} {w_p0 : W_registrarref26_Cache} (h_p0 : ok_registrarref26_Cache I p0 w_p0) (hS : St E w I ((one b_p0 (.cells (cs_registrarref26_Cache p0 w_p0).toArray 59 (0, 0))) :: Os)) {r : registrarref26_Entry × Bool × registrarref26_Cache} (hr : registrarref26_Cache_Get p0 p1 p2 = some r) :
    Calls P 21 #[(.pointer (some ⟨b_p0, 0, none⟩)), (.int .i64 p1), (.string p2)] w (fun e w' => ∃ (I' : Mem) (w_rp0 : W_registrarref26_Cache), e = .returned (.tuple #[(.agg (cs_registrarref26_Entry r.1).toArray), (.bool r.2.1)]) ∧ I.Le I' ∧ St E w' I' ((one b_p0 (.cells (cs_registrarref26_Cache r.2.2 w_rp0).toArray 59 (0, 0))) :: Os) ∧ ok_registrarref26_Cache I' r.2.2 w_rp0) := by
  refine calls_W (args := [(.pointer (some ⟨b_p0, 0, none⟩)), (.int .i64 p1), (.string p2)]) (fn := Try.f21) rfl rfl rfl ?_
  unfold registrarref26_Cache_Get at hr
  refine W.seq ?_
  refine W.region (l := [0, 1]) (by kernel_rfl) ?_
  refine WO.new hS rfl (by kernel_rfl) rfl (.cells (cs_registrarref26_Entry z_registrarref26_Entry).toArray 79 (0, 0)) (fun b => .pointer (some ⟨b, 0, none⟩)) (by kernel_rfl) (fun _ _ _ => trivial) ?_
  intro b1 w4 hS3
  refine WO.vals [(1, 7, (.bool false))] (by kernel_rfl) (fun _ => by kernel_rfl) ?_
  refine WO.nil ?_
  refine En.next ?_
  refine W.seq ?_
  refine W.region (l := [0, 1, 2, 3, 4]) (by kernel_rfl) ?_
  refine WO.vals [(0, 10, (.pointer (some ⟨b_p0, 0, none⟩))), (1, 11, (.int .i64 p1)), (2, 12, (.string p2))] (by kernel_rfl) (fun _ => by kernel_rfl) ?_
  have hS5 := hS3.front1
  obtain ⟨r11, hx_r6, hr⟩ := bind_some hr
  refine WO.call rfl (by kernel_rfl) rfl (f := 33) (args := #[(.pointer (some ⟨b_p0, 0, none⟩)), (.int .i64 p1), (.string p2)]) (by kernel_rfl) (registrarref26_Cache_find_ok h_p0 hS5 hx_r6) ?_
  rintro _ w7 ⟨I8, rfl, hl9, hS10⟩
  refine ⟨_, rfl, trivial, ?_⟩
  refine WO.vals [(4, 8, (.int .i64 r11))] (by kernel_rfl) (fun _ => by kernel_rfl) ?_
  refine WO.nil ?_
  refine En.next ?_
  refine W.seq ?_
  refine W.seq ?_
  refine W.region (l := [0, 1]) (by kernel_rfl) ?_
  refine WO.vals [(0, 14, (.int .i64 r11)), (1, 15, (.bool (decide (r11 < 0))))] (by kernel_rfl) (fun _ => by kernel_rfl) ?_
  refine WO.nil ?_
  refine En.next ?_
  refine W.cond (b := (decide (r11 < 0))) rfl rfl (fun hc => ?_) (fun hc => ?_)
  · replace hr := cond_t hc hr
    refine W.seq ?_
    refine W.region (l := [0, 1, 2]) (by kernel_rfl) ?_
    refine WO.vals [(0, 16, (.agg (cs_registrarref26_Entry z_registrarref26_Entry).toArray))] (by kernel_rfl) (fun _ => by kernel_rfl) ?_
    have hS12 := hS10.front1
    refine WO.storeBox hS12 rfl (by kernel_rfl) rfl 0 rfl rfl (by kernel_rfl) (by kernel_rfl) (by kernel_rfl) ((cs_registrarref26_Entry z_registrarref26_Entry).toArray) (by kernel_rfl) (fun _ _ => trivial) ?_
    intro w14 hS13
    refine WO.vals [(2, 7, (.bool false))] (by kernel_rfl) (fun _ => by kernel_rfl) ?_
    refine WO.nil ?_
    refine En.next ?_
    refine W.ret ?_
    refine En.nx_ret ?_
    have hS15 := hS13.drop
    have he := Option.some.inj hr
    subst r
    exact En.retc2 rfl (.agg (cs_registrarref26_Entry z_registrarref26_Entry).toArray) (.bool false) ⟨_, _, rfl, run_loadVarN (cs := (cs_registrarref26_Entry z_registrarref26_Entry)) (by kernel_rfl) (by kernel_rfl) (cells_one (hS13.rd (List.Mem.head _)) (by kernel_rfl))⟩ rfl ⟨I8, w_p0, rfl, hl9, hS15, (h_p0.mono hl9)⟩
  · replace hr := cond_f hc hr
    refine W.skip ?_
    refine En.next ?_
    refine W.seq ?_
    refine W.region (l := [0, 1, 2, 3, 4, 5, 6, 7, 8]) (by kernel_rfl) ?_
    refine WO.vals [(0, 17, (.pointer (some ⟨b_p0, 0, none⟩))), (1, 18, (.pointer (some ⟨b_p0, 0, none⟩))), (2, 19, (.pointer (some ⟨b_p0, 0, none⟩)))] (by kernel_rfl) (fun _ => by kernel_rfl) ?_
    refine WO.load rfl (by kernel_rfl) (by kernel_rfl) rfl (v := (.slice w_p0.L.a p0.L.length w_p0.L.c)) (fun w' hw' => cell_one ((rd_f (hS10.rd (List.Mem.head _))) w' hw') (by kernel_rfl)) ?_
    refine WO.vals [(4, 21, (.int .i64 r11))] (by kernel_rfl) (fun _ => by kernel_rfl) ?_
    obtain ⟨x16, hx_x16, hr⟩ := bind_some hr
    obtain ⟨h0_x16, h1_x16, hx_x16⟩ := idx_some hx_x16
    obtain ⟨ha_x16, cs_x16, hn_x16, hr_x16, hc_x16⟩ := ((RSl.mono h_p0.L hl9)).el _ _ hx_x16
    obtain rfl := hr_x16
    refine WO.indexAddr (e := 79) (sz := 4) rfl (by kernel_rfl) (by kernel_rfl) (by kernel_rfl) rfl ha_x16 rfl h0_x16 h1_x16 ?_
    refine WO.loadN rfl (by kernel_rfl) (by kernel_rfl) rfl ((cs_registrarref26_Entry x16)) (by kernel_rfl) (fun w' hw' => hc_x16.cells (k := 0) (by kernel_rfl) rfl ((rd_f hS10.im) w' hw')) ?_
    refine WO.new hS10 rfl (by kernel_rfl) rfl (.cells (cs_registrarref26_Entry z_registrarref26_Entry).toArray 79 (0, 0)) (fun b => .pointer (some ⟨b, 0, none⟩)) (by kernel_rfl) (fun _ _ _ => trivial) ?_
    intro b17 w20 hS19
    refine WO.storeBox hS19 rfl (by kernel_rfl) rfl 0 rfl rfl (by kernel_rfl) (by kernel_rfl) (by kernel_rfl) ((cs_registrarref26_Entry x16).toArray) (by kernel_rfl) (fun _ _ => trivial) ?_
    intro w22 hS21
    refine WO.nil ?_
    refine En.next ?_
    refine W.seq ?_
    obtain ⟨j23, hr1, hr⟩ := bind_some hr
    refine W.join (J := (fun fr w => ∃ (I25 : Mem), ∃ (w_j23 : W_registrarref26_Cache), fr = [(6, (.pointer (some ⟨b1, 0, none⟩))), (9, (.pointer (some ⟨b17, 0, none⟩)))] ∧ I8.Le I25 ∧ St E w I25 ((one b_p0 (.cells (cs_registrarref26_Cache j23 w_j23).toArray 59 (0, 0))) :: (one b1 (.cells (cs_registrarref26_Entry z_registrarref26_Entry).toArray 79 (0, 0))) :: (one b17 (.cells (cs_registrarref26_Entry x16).toArray 79 (0, 0))) :: Os) ∧ ok_registrarref26_Cache I25 j23 w_j23)) ?restj23 ?waysj23
    case waysj23 =>
      have hS27 := hS21.drew
      refine W.draws (.split 5 2 (.leaf [0, 1, 3, 4, 5, 2, 6, 7, 8, 9]) (.leaf [0, 1, 2, 3, 4, 5, 6, 7, 8, 9])) 6 (KR I8 [one b17 (.cells (cs_registrarref26_Entry x16).toArray 79 (0, 0))]) qR (.back (by kernel_rfl)) (by kernel_rfl) (KR.cons (hS27.rd (List.Mem.head _)) (KR.nil hS27.im)) ?_
      generalize World.drew _ = w28 at *
      refine ⟨?_, ?_⟩
      · skip
        show WO _ _ _ _ _ _ _ [0, 1, 3, 4, 5, 2, 6, 7, 8, 9] _ _
        refine WO.vals [(0, 24, (.pointer (some ⟨b_p0, 0, none⟩)))] (by kernel_rfl) (fun _ => by kernel_rfl) ?_
        refine WO.loadN rfl (by kernel_rfl) (by kernel_rfl) rfl ((cs_registrarref26_Entry x16)) (by kernel_rfl) (fun w' hw' => cells_one ((rd_c (List.Mem.head _) (hS27.rd (List.Mem.head _))) w' hw') (by kernel_rfl)) ?_
        refine WO.vals [(3, 27, (.pointer (some ⟨b_p0, 0, none⟩))), (4, 28, (.int .i64 r11))] (by kernel_rfl) (fun _ => by kernel_rfl) ?_
        have hS29 := hS27.front1
        obtain ⟨r35, hx_r30, hr1⟩ := bind_some hr1
        refine WO.call rfl (by kernel_rfl) rfl (f := 32) (args := #[(.pointer (some ⟨b_p0, 0, none⟩)), (.int .i64 r11)]) (by kernel_rfl) (registrarref26_Cache_without_ok (h_p0.mono hl9) hS29 hx_r30) ?_
        rintro _ w31 ⟨I32, a_r35, c_r35, rfl, hl33, hS34, h_r35⟩
        refine ⟨_, rfl, (KR.cons (hS34.rd (List.Mem.tail _ (List.Mem.head _))) (KR.nil (hS34.im.of_le hl33))), ?_⟩
        refine WO.newSlice (rel := R_registrarref26_Entry) (xs := ([x16] : List registrarref26_Entry)) hS34 rfl (by kernel_rfl) rfl 79 4 [(cs_registrarref26_Entry x16)] (by kernel_rfl) rfl ((Elr.cons rfl Elr.nil)) (fun C37 w41 hS40 => (KR.cons (hS40.rd (List.Mem.tail _ (List.Mem.tail _ (List.Mem.head _)))) (KR.nil (hS40.im.of_le hl33)))) ?_
        intro a39 C37 w41 hS40 ho38
        refine WO.tail rfl ?_
        obtain ⟨x43, hx_x43, hr1⟩ := bind_some hr1
        obtain ⟨h0_x43, he_x43⟩ := app_some hx_x43
        refine WO.append (e' := 79) (b := 48) (zs := (cs_registrarref26_Entry z_registrarref26_Entry).toArray) hS40 ho38 rfl (by kernel_rfl) rfl (by kernel_rfl) (by kernel_rfl) (by kernel_rfl) rfl rfl rfl rfl h_r35 hS40.im h0_x43 he_x43 (fun _ _ _ => trivial) ?_
        intro a44 c45 w46 C47 hS48 ho49
        refine WO.vals [(7, 31, (.pointer (some ⟨b_p0, 0, none⟩))), (8, 32, (.pointer (some ⟨b_p0, 0, none⟩)))] (by kernel_rfl) (fun _ => by kernel_rfl) ?_
        obtain ⟨I50, hl51, hS53, hp52⟩ := OwnSl.pub ho49 hS48
        refine WO.storeBox hS53 rfl (by kernel_rfl) rfl 0 rfl rfl (by kernel_rfl) (by kernel_rfl) (by kernel_rfl) ((cs_registrarref26_Cache ({ p0 with L := x43 }) (⟨⟨a44, c45⟩⟩ : W_registrarref26_Cache)).toArray) (by kernel_rfl) (fun _ _ => trivial) ?_
        intro w55 hS54
        refine WO.nil ?_
        have hk56 : ok_registrarref26_Cache I50 ({ p0 with L := x43 }) (⟨⟨a44, c45⟩⟩ : W_registrarref26_Cache) := ⟨hp52⟩
        have hS57 := hS54.front1
        have hS58 := hS57.front2
        have hS59 := hS58.front2
        have he := Option.some.inj hr1
        subst j23
        refine En.weaken (fr' := [(6, (.pointer (some ⟨b1, 0, none⟩))), (9, (.pointer (some ⟨b17, 0, none⟩)))]) (En.round ⟨I50, (⟨⟨a44, c45⟩⟩ : W_registrarref26_Cache), rfl, (hl33.trans hl51), hS59, hk56⟩) (Sub.cons rfl (Sub.cons rfl Sub.nil))
      · skip
        show WO _ _ _ _ _ _ _ [0, 1, 2, 3, 4, 5, 6, 7, 8, 9] _ _
        refine WO.vals [(0, 24, (.pointer (some ⟨b_p0, 0, none⟩)))] (by kernel_rfl) (fun _ => by kernel_rfl) ?_
        refine WO.loadN rfl (by kernel_rfl) (by kernel_rfl) rfl ((cs_registrarref26_Entry x16)) (by kernel_rfl) (fun w' hw' => cells_one ((rd_c (List.Mem.head _) (hS27.rd (List.Mem.head _))) w' hw') (by kernel_rfl)) ?_
        refine WO.newSlice (rel := R_registrarref26_Entry) (xs := ([x16] : List registrarref26_Entry)) hS27 rfl (by kernel_rfl) rfl 79 4 [(cs_registrarref26_Entry x16)] (by kernel_rfl) rfl ((Elr.cons rfl Elr.nil)) (fun C61 w65 hS64 => (KR.cons (hS64.rd (List.Mem.tail _ (List.Mem.head _))) (KR.nil hS64.im))) ?_
        intro a63 C61 w65 hS64 ho62
        refine WO.vals [(3, 27, (.pointer (some ⟨b_p0, 0, none⟩))), (4, 28, (.int .i64 r11))] (by kernel_rfl) (fun _ => by kernel_rfl) ?_
        have hS67 := hS64.front2
        obtain ⟨r73, hx_r68, hr1⟩ := bind_some hr1
        refine WO.call rfl (by kernel_rfl) rfl (f := 32) (args := #[(.pointer (some ⟨b_p0, 0, none⟩)), (.int .i64 r11)]) (by kernel_rfl) (registrarref26_Cache_without_ok (h_p0.mono hl9) hS67 hx_r68) ?_
        rintro _ w69 ⟨I70, a_r73, c_r73, rfl, hl71, hS72, h_r73⟩
        refine ⟨_, rfl, (KR.cons (hS72.rd (List.Mem.tail _ (List.Mem.tail _ (List.Mem.head _)))) (KR.nil (hS72.im.of_le hl71))), ?_⟩
        refine WO.tail rfl ?_
        have hS74 := hS72.front1
        obtain ⟨x75, hx_x75, hr1⟩ := bind_some hr1
        obtain ⟨h0_x75, he_x75⟩ := app_some hx_x75
        refine WO.append (e' := 79) (b := 48) (zs := (cs_registrarref26_Entry z_registrarref26_Entry).toArray) hS74 (OwnSl.mono ho62 hl71) rfl (by kernel_rfl) rfl (by kernel_rfl) (by kernel_rfl) (by kernel_rfl) rfl rfl rfl rfl h_r73 hS74.im h0_x75 he_x75 (fun _ _ _ => trivial) ?_
        intro a76 c77 w78 C79 hS80 ho81
        refine WO.vals [(7, 31, (.pointer (some ⟨b_p0, 0, none⟩))), (8, 32, (.pointer (some ⟨b_p0, 0, none⟩)))] (by kernel_rfl) (fun _ => by kernel_rfl) ?_
        obtain ⟨I82, hl83, hS85, hp84⟩ := OwnSl.pub ho81 hS80
        refine WO.storeBox hS85 rfl (by kernel_rfl) rfl 0 rfl rfl (by kernel_rfl) (by kernel_rfl) (by kernel_rfl) ((cs_registrarref26_Cache ({ p0 with L := x75 }) (⟨⟨a76, c77⟩⟩ : W_registrarref26_Cache)).toArray) (by kernel_rfl) (fun _ _ => trivial) ?_
        intro w87 hS86
        refine WO.nil ?_
        have hk88 : ok_registrarref26_Cache I82 ({ p0 with L := x75 }) (⟨⟨a76, c77⟩⟩ : W_registrarref26_Cache) := ⟨hp84⟩
        have hS89 := hS86.front1
        have hS90 := hS89.front2
        have hS91 := hS90.front2
        have he := Option.some.inj hr1
        subst j23
        refine En.weaken (fr' := [(6, (.pointer (some ⟨b1, 0, none⟩))), (9, (.pointer (some ⟨b17, 0, none⟩)))]) (En.round ⟨I82, (⟨⟨a76, c77⟩⟩ : W_registrarref26_Cache), rfl, (hl71.trans hl83), hS91, hk88⟩) (Sub.cons rfl (Sub.cons rfl Sub.nil))
    case restj23 =>
      rintro _ w92 ⟨I25, w_j23, rfl, hl26, hS93, h_j23⟩
      refine En.next ?_
      refine W.seq ?_
      refine W.region (l := [0, 1, 2]) (by kernel_rfl) ?_
      refine WO.loadN rfl (by kernel_rfl) (by kernel_rfl) rfl ((cs_registrarref26_Entry x16)) (by kernel_rfl) (fun w' hw' => cells_one ((rd_f (hS93.rd (List.Mem.tail _ (List.Mem.tail _ (List.Mem.head _))))) w' hw') (by kernel_rfl)) ?_
      have hS94 := hS93.front1
      refine WO.storeBox hS94 rfl (by kernel_rfl) rfl 0 rfl rfl (by kernel_rfl) (by kernel_rfl) (by kernel_rfl) ((cs_registrarref26_Entry x16).toArray) (by kernel_rfl) (fun _ _ => trivial) ?_
      intro w96 hS95
      refine WO.vals [(2, 7, (.bool true))] (by kernel_rfl) (fun _ => by kernel_rfl) ?_
      refine WO.nil ?_
      refine En.next ?_
      refine W.ret ?_
      have hS97 := hS95.drop
      have hS98 := hS97.front1
      have hS99 := hS98.drop
      have he := Option.some.inj hr
      subst r
      exact En.retc2 rfl (.agg (cs_registrarref26_Entry x16).toArray) (.bool true) ⟨_, _, rfl, run_loadVarN (cs := (cs_registrarref26_Entry x16)) (by kernel_rfl) (by kernel_rfl) (cells_one (hS95.rd (List.Mem.head _)) (by kernel_rfl))⟩ rfl ⟨I25, w_j23, rfl, (hl9.trans hl26), hS99, h_j23⟩
def lru_Cache_Drop (p0 : lru_Cache) (p1 : Int) (p2 : ByteArray) : Option (Bool × lru_Cache) := (lru_Cache_dead p0).bind (fun (r8 : Bool) => (bif (p1 == 0) then some (false, p0) else (some ((mget eq_lru_Entry p0.at_ (⟨p1, p2⟩ : lru_Entry)).getD z_lru_link)).bind (fun (x9 : lru_link) => ((bif (mhas eq_lru_Entry p0.at_ (⟨p1, p2⟩ : lru_Entry)) then (lru_Cache_gone p0 (⟨p1, p2⟩ : lru_Entry)).bind (fun (r27 : lru_Cache) => some r27) else some p0)).bind (fun (j16 : lru_Cache) => some ((mhas eq_lru_Entry p0.at_ (⟨p1, p2⟩ : lru_Entry)), j16)))))
set_option maxHeartbeats 1000000 in
theorem lru_Cache_Drop_ok {E w : World} {I : Mem} {Os : List Mem} {p0 : lru_Cache} {p1 : Int} {p2 : ByteArray} {b_p0 : Nat} {w_p0 : W_lru_Cache} (h_p0 : ok_lru_Cache I p0 w_p0) (hS : St E w I ((one b_p0 (.cells (cs_lru_Cache p0 w_p0).toArray 68 (0, 0))) :: (w_p0.at_.C) :: Os)) {r : Bool × lru_Cache} (hr : lru_Cache_Drop p0 p1 p2 = some r) :
    Calls P 17 #[(.pointer (some ⟨b_p0, 0, none⟩)), (.int .i64 p1), (.string p2)] w (fun e w' => ∃ (I' : Mem) (w_rp0 : W_lru_Cache), e = .returned (.bool r.1) ∧ I.Le I' ∧ St E w' I' ((one b_p0 (.cells (cs_lru_Cache r.2 w_rp0).toArray 68 (0, 0))) :: w_rp0.at_.C :: Os) ∧ ok_lru_Cache I' r.2 w_rp0) := by
  refine calls_W (args := [(.pointer (some ⟨b_p0, 0, none⟩)), (.int .i64 p1), (.string p2)]) (fn := Try.f17) rfl rfl rfl ?_
  unfold lru_Cache_Drop at hr
  refine W.seq ?_
  refine W.region (l := [0]) (by kernel_rfl) ?_
  refine WO.vals [(0, 6, (.bool false))] (by kernel_rfl) (fun _ => by kernel_rfl) ?_
  refine WO.nil ?_
  refine En.next ?_
  refine W.seq ?_
  refine W.seq ?_
  refine W.region (l := [0, 1, 2, 3, 4, 5]) (by kernel_rfl) ?_
  refine WO.vals [(0, 9, (.pointer (some ⟨b_p0, 0, none⟩)))] (by kernel_rfl) (fun _ => by kernel_rfl) ?_
  have hS1 := hS.front1
  have hS2 := hS1.front1
  obtain ⟨r8, hx_r3, hr⟩ := bind_some hr
  obtain rfl : false = r8 := Option.some.inj hx_r3
  refine WO.call rfl (by kernel_rfl) rfl (f := 25) (args := #[(.pointer (some ⟨b_p0, 0, none⟩))]) (by kernel_rfl) (lru_Cache_dead_ok h_p0 hS2 hx_r3) ?_
  rintro _ w4 ⟨I5, rfl, hl6, hS7⟩
  refine ⟨_, rfl, trivial, ?_⟩
  refine WO.vals [(2, 11, (.bool false)), (3, 12, (.int .i64 p1)), (4, 13, (.bool (p1 == 0))), (5, 14, (.bool (p1 == 0)))] (by kernel_rfl) (fun _ => by kernel_rfl) ?_
  refine WO.nil ?_
  refine En.next ?_
  refine W.cond (b := (p1 == 0)) rfl rfl (fun hc => ?_) (fun hc => ?_)
  · replace hr := cond_t hc hr
    refine W.seq ?_
    refine W.region (l := [0]) (by kernel_rfl) ?_
    refine WO.vals [(0, 6, (.bool false))] (by kernel_rfl) (fun _ => by kernel_rfl) ?_
    refine WO.nil ?_
    refine En.next ?_
    refine W.ret ?_
    refine En.nx_ret ?_
    have he := Option.some.inj hr
    subst r
    exact En.ret1 rfl (.bool false) rfl ⟨I5, w_p0, rfl, hl6, hS7, (h_p0.mono hl6)⟩
  · replace hr := cond_f hc hr
    refine W.skip ?_
    refine En.next ?_
    refine W.seq ?_
    refine W.region (l := [0, 1, 2, 3, 4, 5, 6, 7, 8, 9, 10, 11, 12, 13]) (by kernel_rfl) ?_
    refine WO.vals [(0, 16, (.pointer (some ⟨b_p0, 0, none⟩))), (1, 17, (.pointer (some ⟨b_p0, 0, none⟩))), (2, 18, (.pointer (some ⟨b_p0, 0, none⟩)))] (by kernel_rfl) (fun _ => by kernel_rfl) ?_
    refine WO.load rfl (by kernel_rfl) (by kernel_rfl) rfl (v := (.map (some w_p0.at_.m))) (fun w' hw' => cell_one ((rd_f (hS7.rd (List.Mem.head _))) w' hw') (by kernel_rfl)) ?_
    refine WO.vals [(4, 20, (.int .i64 p1)), (5, 21, (.string p2)), (6, 22, (.agg (cs_lru_Entry (⟨p1, p2⟩ : lru_Entry)).toArray))] (by kernel_rfl) (fun _ => by kernel_rfl) ?_
    obtain ⟨x9, hx_x9, hr⟩ := bind_some hr
    obtain ⟨v_x9, hv_x9, hq_x9⟩ := OwnMap.lookup (OwnMap.mono h_p0.at_ hl6) (t := 66) (kt := 74) (et := 76) (by kernel_rfl) key_lru_Entry (⟨p1, p2⟩ : lru_Entry) (zv := (.agg (cs_lru_link z_lru_link zw_lru_link).toArray)) (z0 := z_lru_link) (by kernel_rfl) ⟨(cs_lru_link z_lru_link zw_lru_link), rfl, ⟨zw_lru_link, rfl, zok_lru_link⟩⟩
    rw [Option.some.inj hx_x9] at hv_x9
    obtain ⟨_, rfl, hv_x9⟩ := hv_x9
    obtain ⟨w_x9, rfl, h_x9⟩ := hv_x9
    refine WO.lookup rfl (by kernel_rfl) rfl rfl hq_x9 ((rd_f (hS7.rd (List.Mem.tail _ (List.Mem.head _))))) (.tuple #[(.agg (cs_lru_link x9 w_x9).toArray), (.bool (mhas eq_lru_Entry p0.at_ (⟨p1, p2⟩ : lru_Entry)))]) rfl ?_
    refine WO.vals [(8, 15, (.tuple #[(.agg (cs_lru_link x9 w_x9).toArray), (.bool (mhas eq_lru_Entry p0.at_ (⟨p1, p2⟩ : lru_Entry)))])), (9, 24, (.agg (cs_lru_link x9 w_x9).toArray)), (10, 25, (.bool (mhas eq_lru_Entry p0.at_ (⟨p1, p2⟩ : lru_Entry))))] (by kernel_rfl) (fun _ => by kernel_rfl) ?_
    refine WO.new hS7 rfl (by kernel_rfl) rfl (.cells (cs_lru_link z_lru_link zw_lru_link).toArray 76 (0, 0)) (fun b => .pointer (some ⟨b, 0, none⟩)) (by kernel_rfl) (fun _ _ _ => trivial) ?_
    intro b10 w13 hS12
    refine WO.storeBox hS12 rfl (by kernel_rfl) rfl 0 rfl rfl (by kernel_rfl) (all_one (rel := R_lru_link) (I := I5) (x := x9) ⟨w_x9, rfl, h_x9⟩) (by kernel_rfl) ((cs_lru_link x9 w_x9).toArray) (by kernel_rfl) (fun _ _ => trivial) ?_
    intro w15 hS14
    refine WO.vals [(13, 8, (.bool (mhas eq_lru_Entry p0.at_ (⟨p1, p2⟩ : lru_Entry))))] (by kernel_rfl) (fun _ => by kernel_rfl) ?_
    refine WO.nil ?_
    refine En.next ?_
    refine W.seq ?_
    refine W.seq ?_
    refine W.region (l := [0]) (by kernel_rfl) ?_
    refine WO.vals [(0, 26, (.bool (mhas eq_lru_Entry p0.at_ (⟨p1, p2⟩ : lru_Entry))))] (by kernel_rfl) (fun _ => by kernel_rfl) ?_
    refine WO.nil ?_
    refine En.next ?_
    obtain ⟨j16, hr1, hr⟩ := bind_some hr
    refine W.join (J := (fun fr w => ∃ (I18 : Mem), ∃ (w_j16 : W_lru_Cache), fr = [(8, (.bool (mhas eq_lru_Entry p0.at_ (⟨p1, p2⟩ : lru_Entry))))] ∧ I5.Le I18 ∧ St E w I18 ((one b_p0 (.cells (cs_lru_Cache j16 w_j16).toArray 68 (0, 0))) :: (w_j16.at_.C) :: Os) ∧ ok_lru_Cache I18 j16 w_j16)) ?restj16 ?waysj16
    case waysj16 =>
      refine W.cond (b := (mhas eq_lru_Entry p0.at_ (⟨p1, p2⟩ : lru_Entry))) rfl rfl (fun hc => ?_) (fun hc => ?_)
      · replace hr1 := cond_t hc hr1
        refine W.region (l := [0, 1, 2, 3, 4]) (by kernel_rfl) ?_
        refine WO.vals [(0, 27, (.pointer (some ⟨b_p0, 0, none⟩))), (1, 28, (.int .i64 p1)), (2, 29, (.string p2)), (3, 30, (.agg (cs_lru_Entry (⟨p1, p2⟩ : lru_Entry)).toArray))] (by kernel_rfl) (fun _ => by kernel_rfl) ?_
        have hS20 := hS14.front2
        have hS21 := hS20.front2
        obtain ⟨r27, hx_r22, hr1⟩ := bind_some hr1
        refine WO.call rfl (by kernel_rfl) rfl (f := 26) (args := #[(.pointer (some ⟨b_p0, 0, none⟩)), (.agg (cs_lru_Entry (⟨p1, p2⟩ : lru_Entry)).toArray)]) (by kernel_rfl) (lru_Cache_gone_ok (h_p0.mono hl6) hS21 hx_r22) ?_
        rintro _ w23 ⟨I24, w_r27, rfl, hl25, hS26, h_r27⟩
        refine ⟨_, rfl, trivial, ?_⟩
        refine WO.nil ?_
        have hS28 := hS26.front2
        have hS29 := hS28.drop
        have he := Option.some.inj hr1
        subst j16
        refine En.weaken (fr' := [(8, (.bool (mhas eq_lru_Entry p0.at_ (⟨p1, p2⟩ : lru_Entry))))]) (En.round ⟨I24, w_r27, rfl, hl25, hS29, h_r27⟩) (Sub.cons rfl Sub.nil)
      · replace hr1 := cond_f hc hr1
        refine W.skip ?_
        have hS30 := hS14.drop
        have he := Option.some.inj hr1
        subst j16
        refine En.weaken (fr' := [(8, (.bool (mhas eq_lru_Entry p0.at_ (⟨p1, p2⟩ : lru_Entry))))]) (En.round ⟨I5, w_p0, rfl, Mem.Le.refl _, hS30, (h_p0.mono hl6)⟩) (Sub.cons rfl Sub.nil)
    case restj16 =>
      rintro _ w31 ⟨I18, w_j16, rfl, hl19, hS32, h_j16⟩
      refine En.next ?_
      refine W.seq ?_
      refine W.region (l := [0, 1]) (by kernel_rfl) ?_
      refine WO.vals [(0, 32, (.bool (mhas eq_lru_Entry p0.at_ (⟨p1, p2⟩ : lru_Entry)))), (1, 6, (.bool (mhas eq_lru_Entry p0.at_ (⟨p1, p2⟩ : lru_Entry))))] (by kernel_rfl) (fun _ => by kernel_rfl) ?_
      refine WO.nil ?_
      refine En.next ?_
      refine W.ret ?_
      have he := Option.some.inj hr
      subst r
      exact En.ret1 rfl (.bool (mhas eq_lru_Entry p0.at_ (⟨p1, p2⟩ : lru_Entry))) rfl ⟨I18, w_j16, rfl, (hl6.trans hl19), hS32, h_j16⟩
def registrarref26_Cache_Drop (p0 : registrarref26_Cache) (p1 : Int) (p2 : ByteArray) : Option (Bool × registrarref26_Cache) := (registrarref26_Cache_find p0 p1 p2).bind (fun (r6 : Int) => (registrarref26_Cache_without p0 r6).bind (fun (r12 : List registrarref26_Entry) => some ((decide (r6 ≥ 0)), { p0 with L := r12 })))
set_option maxHeartbeats 1000000 in
theorem registrarref26_Cache_Drop_ok {E w : World} {I : Mem} {Os : List Mem} {p0 : registrarref26_Cache} {p1 : Int} {p2 : ByteArray} {b_p0 : Nat} {w_p0 : W_registrarref26_Cache} (h_p0 : ok_registrarref26_Cache I p0 w_p0) (hS : St E w I ((one b_p0 (.cells (cs_registrarref26_Cache p0 w_p0).toArray 59 (0, 0))) :: Os)) {r : Bool × registrarref26_Cache} (hr : registrarref26_Cache_Drop p0 p1 p2 = some r) :
    Calls P 22 #[(.pointer (some ⟨b_p0, 0, none⟩)), (.int .i64 p1), (.string p2)] w (fun e w' => ∃ (I' : Mem) (w_rp0 : W_registrarref26_Cache), e = .returned (.bool r.1) ∧ I.Le I' ∧ St E w' I' ((one b_p0 (.cells (cs_registrarref26_Cache r.2 w_rp0).toArray 59 (0, 0))) :: Os) ∧ ok_registrarref26_Cache I' r.2 w_rp0) := by
  refine calls_W (args := [(.pointer (some ⟨b_p0, 0, none⟩)), (.int .i64 p1), (.string p2)]) (fn := Try.f22) rfl rfl rfl ?_
  unfold registrarref26_Cache_Drop at hr
  refine W.seq ?_
  refine W.region (l := [0]) (by kernel_rfl) ?_
  refine WO.vals [(0, 6, (.bool false))] (by kernel_rfl) (fun _ => by kernel_rfl) ?_
  refine WO.nil ?_
  refine En.next ?_
  refine W.seq ?_
  refine W.region (l := [0, 1, 2, 3, 4]) (by kernel_rfl) ?_
  refine WO.vals [(0, 8, (.pointer (some ⟨b_p0, 0, none⟩))), (1, 9, (.int .i64 p1)), (2, 10, (.string p2))] (by kernel_rfl) (fun _ => by kernel_rfl) ?_
  obtain ⟨r6, hx_r1, hr⟩ := bind_some hr
  refine WO.call rfl (by kernel_rfl) rfl (f := 33) (args := #[(.pointer (some ⟨b_p0, 0, none⟩)), (.int .i64 p1), (.string p2)]) (by kernel_rfl) (registrarref26_Cache_find_ok h_p0 hS hx_r1) ?_
  rintro _ w2 ⟨I3, rfl, hl4, hS5⟩
  refine ⟨_, rfl, trivial, ?_⟩
  refine WO.vals [(4, 7, (.int .i64 r6))] (by kernel_rfl) (fun _ => by kernel_rfl) ?_
  refine WO.nil ?_
  refine En.next ?_
  refine W.seq ?_
  refine W.region (l := [0, 1, 2, 3, 4, 5, 6]) (by kernel_rfl) ?_
  refine WO.vals [(0, 12, (.pointer (some ⟨b_p0, 0, none⟩))), (1, 13, (.pointer (some ⟨b_p0, 0, none⟩))), (2, 14, (.int .i64 r6))] (by kernel_rfl) (fun _ => by kernel_rfl) ?_
  obtain ⟨r12, hx_r7, hr⟩ := bind_some hr
  refine WO.call rfl (by kernel_rfl) rfl (f := 32) (args := #[(.pointer (some ⟨b_p0, 0, none⟩)), (.int .i64 r6)]) (by kernel_rfl) (registrarref26_Cache_without_ok (h_p0.mono hl4) hS5 hx_r7) ?_
  rintro _ w8 ⟨I9, a_r12, c_r12, rfl, hl10, hS11, h_r12⟩
  refine ⟨_, rfl, trivial, ?_⟩
  refine WO.vals [(4, 16, (.pointer (some ⟨b_p0, 0, none⟩))), (5, 17, (.pointer (some ⟨b_p0, 0, none⟩)))] (by kernel_rfl) (fun _ => by kernel_rfl) ?_
  refine WO.storeBox hS11 rfl (by kernel_rfl) rfl 0 rfl rfl (by kernel_rfl) (by kernel_rfl) (by kernel_rfl) ((cs_registrarref26_Cache ({ p0 with L := r12 }) (⟨⟨a_r12, c_r12⟩⟩ : W_registrarref26_Cache)).toArray) (by kernel_rfl) (fun _ _ => trivial) ?_
  intro w14 hS13
  refine WO.nil ?_
  refine En.next ?_
  refine W.seq ?_
  refine W.region (l := [0, 1, 2]) (by kernel_rfl) ?_
  refine WO.vals [(0, 18, (.int .i64 r6)), (1, 19, (.bool (decide (r6 ≥ 0)))), (2, 6, (.bool (decide (r6 ≥ 0))))] (by kernel_rfl) (fun _ => by kernel_rfl) ?_
  refine WO.nil ?_
  refine En.next ?_
  refine W.ret ?_
  have hk15 : ok_registrarref26_Cache I9 ({ p0 with L := r12 }) (⟨⟨a_r12, c_r12⟩⟩ : W_registrarref26_Cache) := ⟨h_r12⟩
  have he := Option.some.inj hr
  subst r
  exact En.ret1 rfl (.bool (decide (r6 ≥ 0))) rfl ⟨I9, (⟨⟨a_r12, c_r12⟩⟩ : W_registrarref26_Cache), rfl, (hl4.trans hl10), hS13, hk15⟩
noncomputable def lru_Cache_sweep (p0 : lru_Cache) (p1 : lru_Entry → plan_Plan → Option Bool) : Option (Int × lru_Cache) := (lru_Cache_All p0).bind (fun (r8 : List lru_Entry) => (forE (fun (i14 : Nat) => fun (s : Int × lru_Cache) => match s with | (s12, s13) => (idx r8 (i14 : Int)).bind (fun (x21 : lru_Entry) => (some ((mget eq_lru_Entry s13.at_ x21).getD z_lru_link)).bind (fun (x30 : lru_link) => (p1 x21 x30.p).bind (fun (r36 : Bool) => ((bif r36 then (lru_Cache_gone s13 x21).bind (fun (r48 : lru_Cache) => some ((w64 (s12 + 1)), r48)) else some (s12, s13))).bind (fun ((s49, s50) : Int × lru_Cache) => some (s49, s50)))))) r8.length 0 (0, p0)).bind (fun ((s12, s13) : Int × lru_Cache) => some (s12, s13)))
set_option maxHeartbeats 1000000 in
theorem lru_Cache_sweep_ok {E w : World} {I : Mem} {Os : List Mem} {p0 : lru_Cache} {p1 : lru_Entry → plan_Plan → Option Bool} {b_p0 : Nat} {w_p0 : W_lru_Cache} {g_p1 : FuncId} {k_p1 : List Value} (h_p0 : ok_lru_Cache I p0 w_p0) (h_p1 : ∀ {F : List Mem} {I' : Mem} {w : World} {u0 : lru_Entry} {u1 : plan_Plan} {w_u1 : W_plan_Plan}, I.Le I' → St E w I' (F ++ Os) → ok_plan_Plan I' u1 w_u1 → ∀ {r : Bool}, p1 u0 u1 = some r → Calls P g_p1 (([(.agg (cs_lru_Entry u0).toArray), (.agg (cs_plan_Plan u1 w_u1).toArray)] : List Value) ++ k_p1).toArray w (fun e w' => ∃ (I'' : Mem), e = .returned (.bool r) ∧ I'.Le I'' ∧ St E w' I'' (F ++ Os))) (hcall_p1 : Callable P g_p1) (hS : St E w I ((one b_p0 (.cells (cs_lru_Cache p0 w_p0).toArray 68 (0, 0))) :: (w_p0.at_.C) :: Os)) {r : Int × lru_Cache} (hr : lru_Cache_sweep p0 p1 = some r) :
    Calls P 29 #[(.pointer (some ⟨b_p0, 0, none⟩)), (.func (.func g_p1) #[] k_p1.toArray)] w (fun e w' => ∃ (I' : Mem) (w_rp0 : W_lru_Cache), e = .returned (.int .i64 r.1) ∧ I.Le I' ∧ St E w' I' ((one b_p0 (.cells (cs_lru_Cache r.2 w_rp0).toArray 68 (0, 0))) :: w_rp0.at_.C :: Os) ∧ ok_lru_Cache I' r.2 w_rp0) := by
  refine calls_W (args := [(.pointer (some ⟨b_p0, 0, none⟩)), (.func (.func g_p1) #[] k_p1.toArray)]) (fn := Try.f29) rfl rfl rfl ?_
  unfold lru_Cache_sweep at hr
  refine W.seq ?_
  refine W.region (l := [0]) (by kernel_rfl) ?_
  refine WO.vals [(0, 4, (.int .i64 0))] (by kernel_rfl) (fun _ => by kernel_rfl) ?_
  refine WO.nil ?_
  refine En.next ?_
  refine W.seq ?_
  refine W.region (l := [0]) (by kernel_rfl) ?_
  refine WO.vals [(0, 5, (.int .i64 0))] (by kernel_rfl) (fun _ => by kernel_rfl) ?_
  refine WO.nil ?_
  refine En.next ?_
  refine W.seq ?_
  refine W.seq ?_
  refine W.region (l := [0, 1, 2, 3]) (by kernel_rfl) ?_
  refine WO.vals [(0, 8, (.pointer (some ⟨b_p0, 0, none⟩)))] (by kernel_rfl) (fun _ => by kernel_rfl) ?_
  have hS1 := hS.front1
  have hS2 := hS1.front1
  obtain ⟨r8, hx_r3, hr⟩ := bind_some hr
  refine WO.call rfl (by kernel_rfl) rfl (f := 16) (args := #[(.pointer (some ⟨b_p0, 0, none⟩))]) (by kernel_rfl) (lru_Cache_All_ok h_p0 hS2 hx_r3) ?_
  rintro _ w4 ⟨I5, a_r8, c_r8, rfl, hl6, hS7, h_r8⟩
  refine ⟨_, rfl, trivial, ?_⟩
  refine WO.vals [(2, 10, (.int .i64 (r8.length : Int))), (3, 11, (.int .i64 0))] (by kernel_rfl) (fun _ => by kernel_rfl) ?_
  refine WO.nil ?_
  refine En.next ?_
  refine W.block ?_
  obtain ⟨⟨s12, s13⟩, hloop15, hr⟩ := bind_some hr
  have hlt19 := (h_r8).len_lt
  refine W.weaken (fr' := [(0, (.pointer (some ⟨b_p0, 0, none⟩))), (1, (.func (.func g_p1) #[] k_p1.toArray)), (5, (.int .i64 0)), (9, (.slice a_r8 r8.length c_r8)), (10, (.int .i64 (r8.length : Int))), (11, (.int .i64 ((0 : Nat) : Int)))]) (W.forE (m := r8.length) hloop15 (fun (i14 : Nat) => fun (s : Int × lru_Cache) fr w => match s with | (s12, s13) => ∃ (I10 : Mem), ∃ (w_s13 : W_lru_Cache), fr = [(0, (.pointer (some ⟨b_p0, 0, none⟩))), (1, (.func (.func g_p1) #[] k_p1.toArray)), (5, (.int .i64 s12)), (9, (.slice a_r8 r8.length c_r8)), (10, (.int .i64 (r8.length : Int))), (11, (.int .i64 (i14 : Int)))] ∧ I5.Le I10 ∧ St E w I10 ((one b_p0 (.cells (cs_lru_Cache s13 w_s13).toArray 68 (0, 0))) :: (w_s13.at_.C) :: Os) ∧ ok_lru_Cache I10 s13 w_s13) ⟨I5, w_p0, rfl, Mem.Le.refl _, hS7, (h_p0.mono hl6)⟩ ?roundt9 ?lastt9) (Sub.cons rfl (Sub.cons rfl (Sub.cons rfl (Sub.cons rfl (Sub.cons rfl (Sub.cons rfl Sub.nil))))))
  case roundt9 =>
    rintro i14 ⟨s12, s13⟩ _ w16 hi20 ⟨I10, w_s13, rfl, hl11, hS17, h_s13⟩ x18 hr1
    refine W.seq ?_
    refine W.region (l := [0]) (by kernel_rfl) ?_
    refine WO.vals [(0, 12, (.bool (decide ((i14 : Int) < (r8.length : Int)))))] (by kernel_rfl) (fun _ => by kernel_rfl) ?_
    refine WO.nil ?_
    refine En.next ?_
    refine W.seq ?_
    refine W.cond (b := (decide ((i14 : Int) < (r8.length : Int)))) rfl rfl (fun hc => ?_) (fun hc => ?_)
    rotate_left
    · exact absurd hc (by first | (simp; done) | (simp; omega))
    clear hc
    refine W.skip ?_
    refine En.next ?_
    refine W.seq ?_
    refine W.block ?_
    refine W.seq ?_
    refine W.region (l := [0, 1, 2, 3]) (by kernel_rfl) ?_
    obtain ⟨x21, hx_x21, hr1⟩ := bind_some hr1
    obtain ⟨h0_x21, h1_x21, hx_x21⟩ := idx_some hx_x21
    obtain ⟨ha_x21, cs_x21, hn_x21, hr_x21, hc_x21⟩ := ((RSl.mono h_r8 hl11)).el _ _ hx_x21
    obtain rfl := hr_x21
    refine WO.indexAddr (e := 74) (sz := 2) rfl (by kernel_rfl) (by kernel_rfl) (by kernel_rfl) rfl ha_x21 rfl h0_x21 h1_x21 ?_
    refine WO.loadN rfl (by kernel_rfl) (by kernel_rfl) rfl ((cs_lru_Entry x21)) (by kernel_rfl) (fun w' hw' => hc_x21.cells (k := 0) (by kernel_rfl) rfl ((rd_f hS17.im) w' hw')) ?_
    refine WO.new hS17 rfl (by kernel_rfl) rfl (.cells (cs_lru_Entry z_lru_Entry).toArray 74 (0, 0)) (fun b => .pointer (some ⟨b, 0, none⟩)) (by kernel_rfl) (fun _ _ _ => trivial) ?_
    intro b22 w25 hS24
    refine WO.storeBox hS24 rfl (by kernel_rfl) rfl 0 rfl rfl (by kernel_rfl) (by kernel_rfl) (by kernel_rfl) ((cs_lru_Entry x21).toArray) (by kernel_rfl) (fun _ _ => trivial) ?_
    intro w27 hS26
    refine WO.nil ?_
    refine En.next ?_
    refine W.seq ?_
    have hS28 := hS26.drew
    refine W.draw (l := [0, 1, 2, 3, 4, 5, 6, 7, 8, 9]) (by kernel_rfl) 9 (KR I10 [one b22 (.cells (cs_lru_Entry x21).toArray 74 (0, 0)), one b_p0 (.cells (cs_lru_Cache s13 w_s13).toArray 68 (0, 0)), w_s13.at_.C]) qR (.back (by kernel_rfl)) (by kernel_rfl) (KR.cons (hS28.rd (List.Mem.head _)) (KR.cons (hS28.rd (List.Mem.tail _ (List.Mem.head _))) (KR.cons (hS28.rd (List.Mem.tail _ (List.Mem.tail _ (List.Mem.head _)))) (KR.nil hS28.im)))) ?_
    generalize World.drew _ = w29 at *
    refine WO.vals [(0, 15, (.func (.func g_p1) #[] k_p1.toArray))] (by kernel_rfl) (fun _ => by kernel_rfl) ?_
    refine WO.loadN rfl (by kernel_rfl) (by kernel_rfl) rfl ((cs_lru_Entry x21)) (by kernel_rfl) (fun w' hw' => cells_one ((rd_c (List.Mem.head _) (hS28.rd (List.Mem.head _))) w' hw') (by kernel_rfl)) ?_
    refine WO.vals [(2, 17, (.pointer (some ⟨b_p0, 0, none⟩))), (3, 18, (.pointer (some ⟨b_p0, 0, none⟩))), (4, 19, (.pointer (some ⟨b_p0, 0, none⟩)))] (by kernel_rfl) (fun _ => by kernel_rfl) ?_
    refine WO.load rfl (by kernel_rfl) (by kernel_rfl) rfl (v := (.map (some w_s13.at_.m))) (fun w' hw' => cell_one ((rd_c (List.Mem.tail _ (List.Mem.head _)) (hS28.rd (List.Mem.tail _ (List.Mem.head _)))) w' hw') (by kernel_rfl)) ?_
    refine WO.loadN rfl (by kernel_rfl) (by kernel_rfl) rfl ((cs_lru_Entry x21)) (by kernel_rfl) (fun w' hw' => cells_one ((rd_c (List.Mem.head _) (hS28.rd (List.Mem.head _))) w' hw') (by kernel_rfl)) ?_
    obtain ⟨x30, hx_x30, hr1⟩ := bind_some hr1
    obtain ⟨v_x30, hv_x30, hq_x30⟩ := OwnMap.lookup h_s13.at_ (t := 66) (kt := 74) (et := 76) (by kernel_rfl) key_lru_Entry x21 (zv := (.agg (cs_lru_link z_lru_link zw_lru_link).toArray)) (z0 := z_lru_link) (by kernel_rfl) ⟨(cs_lru_link z_lru_link zw_lru_link), rfl, ⟨zw_lru_link, rfl, zok_lru_link⟩⟩
    rw [Option.some.inj hx_x30] at hv_x30
    obtain ⟨_, rfl, hv_x30⟩ := hv_x30
    obtain ⟨w_x30, rfl, h_x30⟩ := hv_x30
    refine WO.lookup rfl (by kernel_rfl) rfl rfl hq_x30 ((rd_c (List.Mem.tail _ (List.Mem.tail _ (List.Mem.head _))) (hS28.rd (List.Mem.tail _ (List.Mem.tail _ (List.Mem.head _)))))) (.agg (cs_lru_link x30 w_x30).toArray) rfl ?_
    refine WO.vals [(8, 23, (.agg (cs_plan_Plan x30.p w_x30.p).toArray))] (by kernel_rfl) (fun _ => by kernel_rfl) ?_
    refine WO.tail rfl ?_
    obtain ⟨r36, hx_r31, hr1⟩ := bind_some hr1
    refine WO.callv rfl (by kernel_rfl) rfl (g := g_p1) (kk := k_p1) (args := [(.agg (cs_lru_Entry x21).toArray), (.agg (cs_plan_Plan x30.p w_x30.p).toArray)]) rfl (by kernel_rfl) hcall_p1 (h_p1 (F := [one b22 (.cells (cs_lru_Entry x21).toArray 74 (0, 0)), one b_p0 (.cells (cs_lru_Cache s13 w_s13).toArray 68 (0, 0)), w_s13.at_.C]) (hl6.trans hl11) hS28 h_x30.p hx_r31) ?_
    rintro _ w32 ⟨I33, rfl, hl34, hS35⟩
    refine ⟨_, rfl, trivial, ?_⟩
    refine WO.nil ?_
    refine En.next ?_
    obtain ⟨j37, hr2, hr1⟩ := bind_some hr1
    refine W.join (J := (fun fr w => ∃ (s49 : Int), ∃ (s50 : lru_Cache), ∃ (I39 : Mem), ∃ (w_s50 : W_lru_Cache), (s49, s50) = j37 ∧ fr = [(0, (.pointer (some ⟨b_p0, 0, none⟩))), (1, (.func (.func g_p1) #[] k_p1.toArray)), (5, (.int .i64 s49)), (9, (.slice a_r8 r8.length c_r8)), (10, (.int .i64 (r8.length : Int))), (11, (.int .i64 (i14 : Int)))] ∧ I33.Le I39 ∧ St E w I39 ((one b_p0 (.cells (cs_lru_Cache s50 w_s50).toArray 68 (0, 0))) :: (w_s50.at_.C) :: Os) ∧ ok_lru_Cache I39 s50 w_s50)) ?restj37 ?waysj37
    case waysj37 =>
      refine W.cond (b := r36) rfl rfl (fun hc => ?_) (fun hc => ?_)
      · replace hr2 := cond_t hc hr2
        refine W.seq ?_
        refine W.region (l := [0, 1, 2]) (by kernel_rfl) ?_
        refine WO.vals [(0, 25, (.pointer (some ⟨b_p0, 0, none⟩)))] (by kernel_rfl) (fun _ => by kernel_rfl) ?_
        refine WO.loadN rfl (by kernel_rfl) (by kernel_rfl) rfl ((cs_lru_Entry x21)) (by kernel_rfl) (fun w' hw' => cells_one ((rd_f (hS35.rd (List.Mem.head _))) w' hw') (by kernel_rfl)) ?_
        have hS41 := hS35.front2
        have hS42 := hS41.front2
        obtain ⟨r48, hx_r43, hr2⟩ := bind_some hr2
        refine WO.call rfl (by kernel_rfl) rfl (f := 26) (args := #[(.pointer (some ⟨b_p0, 0, none⟩)), (.agg (cs_lru_Entry x21).toArray)]) (by kernel_rfl) (lru_Cache_gone_ok (h_s13.mono hl34) hS42 hx_r43) ?_
        rintro _ w44 ⟨I45, w_r48, rfl, hl46, hS47, h_r48⟩
        refine ⟨_, rfl, trivial, ?_⟩
        refine WO.nil ?_
        refine En.next ?_
        refine W.region (l := [0, 1, 2]) (by kernel_rfl) ?_
        refine WO.vals [(0, 28, (.int .i64 s12)), (1, 29, (.int .i64 (w64 (s12 + 1)))), (2, 5, (.int .i64 (w64 (s12 + 1))))] (by kernel_rfl) (fun _ => by kernel_rfl) ?_
        refine WO.nil ?_
        have hS51 := hS47.front2
        have hS52 := hS51.drop
        refine En.weaken (fr' := [(0, (.pointer (some ⟨b_p0, 0, none⟩))), (1, (.func (.func g_p1) #[] k_p1.toArray)), (5, (.int .i64 (w64 (s12 + 1)))), (9, (.slice a_r8 r8.length c_r8)), (10, (.int .i64 (r8.length : Int))), (11, (.int .i64 (i14 : Int)))]) (En.round ⟨(w64 (s12 + 1)), r48, I45, w_r48, Option.some.inj hr2, rfl, hl46, hS52, h_r48⟩) (Sub.cons rfl (Sub.cons rfl (Sub.cons rfl (Sub.cons rfl (Sub.cons rfl (Sub.cons rfl Sub.nil))))))
      · replace hr2 := cond_f hc hr2
        refine W.skip ?_
        have hS53 := hS35.drop
        refine En.weaken (fr' := [(0, (.pointer (some ⟨b_p0, 0, none⟩))), (1, (.func (.func g_p1) #[] k_p1.toArray)), (5, (.int .i64 s12)), (9, (.slice a_r8 r8.length c_r8)), (10, (.int .i64 (r8.length : Int))), (11, (.int .i64 (i14 : Int)))]) (En.round ⟨s12, s13, I33, w_s13, Option.some.inj hr2, rfl, Mem.Le.refl _, hS53, (h_s13.mono hl34)⟩) (Sub.cons rfl (Sub.cons rfl (Sub.cons rfl (Sub.cons rfl (Sub.cons rfl (Sub.cons rfl Sub.nil))))))
    case restj37 =>
      rintro _ w54 ⟨s49, s50, I39, w_s50, rfl, rfl, hl40, hS55, h_s50⟩
      refine En.in_normal ?_
      refine En.next ?_
      refine W.region (l := [0, 1]) (by kernel_rfl) ?_
      refine WO.incr (j := i14) rfl (by kernel_rfl) rfl (by omega) ?_
      refine WO.vals [(1, 11, (.int .i64 ((i14 + 1 : Nat) : Int)))] (by kernel_rfl) (fun _ => by kernel_rfl) ?_
      refine WO.nil ?_
      have he := Option.some.inj hr1
      subst x18
      refine En.weaken (fr' := [(0, (.pointer (some ⟨b_p0, 0, none⟩))), (1, (.func (.func g_p1) #[] k_p1.toArray)), (5, (.int .i64 s49)), (9, (.slice a_r8 r8.length c_r8)), (10, (.int .i64 (r8.length : Int))), (11, (.int .i64 ((i14 + 1 : Nat) : Int)))]) (En.round ⟨I39, w_s50, rfl, ((hl11.trans hl34).trans hl40), hS55, h_s50⟩) (Sub.cons rfl (Sub.cons rfl (Sub.cons rfl (Sub.cons rfl (Sub.cons rfl (Sub.cons rfl Sub.nil))))))
  case lastt9 =>
    rintro _ w56 ⟨I10, w_s13, rfl, hl11, hS57, h_s13⟩
    refine W.seq ?_
    refine W.region (l := [0]) (by kernel_rfl) ?_
    refine WO.vals [(0, 12, (.bool (decide ((r8.length : Int) < (r8.length : Int)))))] (by kernel_rfl) (fun _ => by kernel_rfl) ?_
    refine WO.nil ?_
    refine En.next ?_
    refine W.seq ?_
    refine W.cond (b := (decide ((r8.length : Int) < (r8.length : Int)))) rfl rfl (fun hc => ?_) (fun hc => ?_)
    · exact absurd hc (by first | (simp; done) | (simp; omega))
    clear hc
    refine W.exit ?_
    refine En.nx_exit ?_
    refine En.rd_exit ?_
    refine En.in_hit ?_
    refine En.next ?_
    refine W.seq ?_
    refine W.region (l := [0, 1]) (by kernel_rfl) ?_
    refine WO.vals [(0, 31, (.int .i64 s12)), (1, 4, (.int .i64 s12))] (by kernel_rfl) (fun _ => by kernel_rfl) ?_
    refine WO.nil ?_
    refine En.next ?_
    refine W.ret ?_
    have he := Option.some.inj hr
    subst r
    exact En.ret1 rfl (.int .i64 s12) rfl ⟨I10, w_s13, rfl, (hl6.trans hl11), hS57, h_s13⟩
def lru_Cache_Leave_1 (p0 : lru_Entry) (p1 : plan_Plan) (q2 : Int) : Option Bool := some (p0.Who == q2)
set_option maxHeartbeats 1000000 in
theorem lru_Cache_Leave_1_ok {E w : World} {I : Mem} {Os : List Mem} {p0 : lru_Entry} {p1 : plan_Plan} {q2 : Int} {w_p1 : W_plan_Plan} {kb2 : Nat} (h_p1 : ok_plan_Plan I p1 w_p1) (hm2 : (one kb2 (.cells #[(.int .i64 q2)] 3 (0, 0))) ∈ Os) (hS : St E w I Os) {r : Bool} (hr : lru_Cache_Leave_1 p0 p1 q2 = some r) :
    Calls P 30 #[(.agg (cs_lru_Entry p0).toArray), (.agg (cs_plan_Plan p1 w_p1).toArray), (.pointer (some ⟨kb2, 0, none⟩))] w (fun e w' => ∃ (I' : Mem), e = .returned (.bool r) ∧ I.Le I' ∧ St E w' I' Os) := by
  refine calls_W (args := [(.agg (cs_lru_Entry p0).toArray), (.agg (cs_plan_Plan p1 w_p1).toArray), (.pointer (some ⟨kb2, 0, none⟩))]) (fn := Try.f30) rfl rfl rfl ?_
  unfold lru_Cache_Leave_1 at hr
  refine W.seq ?_
  refine W.region (l := [0, 1, 2]) (by kernel_rfl) ?_
  refine WO.new hS rfl (by kernel_rfl) rfl (.cells (cs_lru_Entry p0).toArray 74 (0, 0)) (fun b => .pointer (some ⟨b, 0, none⟩)) (by kernel_rfl) (fun _ _ _ => trivial) ?_
  intro b1 w4 hS3
  refine WO.new hS3 rfl (by kernel_rfl) rfl (.cells (cs_plan_Plan p1 w_p1).toArray 55 (0, 0)) (fun b => .pointer (some ⟨b, 0, none⟩)) (by kernel_rfl) (fun _ _ _ => trivial) ?_
  intro b5 w8 hS7
  refine WO.vals [(2, 5, (.bool false))] (by kernel_rfl) (fun _ => by kernel_rfl) ?_
  refine WO.nil ?_
  refine En.next ?_
  refine W.seq ?_
  refine W.region (l := [0, 1, 2, 3, 4]) (by kernel_rfl) ?_
  refine WO.vals [(0, 6, (.pointer (some ⟨b1, 0, none⟩)))] (by kernel_rfl) (fun _ => by kernel_rfl) ?_
  refine WO.load rfl (by kernel_rfl) (by kernel_rfl) rfl (v := (.int .i64 p0.Who)) (fun w' hw' => cell_one ((rd_f (hS7.rd (List.Mem.tail _ (List.Mem.head _)))) w' hw') (by kernel_rfl)) ?_
  refine WO.load rfl (by kernel_rfl) (by kernel_rfl) rfl (v := (.int .i64 q2)) (fun w' hw' => cell_one ((rd_f (hS7.rd (List.Mem.tail _ (List.Mem.tail _ hm2)))) w' hw') (by kernel_rfl)) ?_
  refine WO.vals [(3, 9, (.bool (p0.Who == q2))), (4, 5, (.bool (p0.Who == q2)))] (by kernel_rfl) (fun _ => by kernel_rfl) ?_
  refine WO.nil ?_
  refine En.next ?_
  refine W.ret ?_
  have hS9 := hS7.drop
  have hS10 := hS9.drop
  have he := Option.some.inj hr
  subst r
  exact En.ret1 rfl (.bool (p0.Who == q2)) rfl ⟨I, rfl, Mem.Le.refl _, hS10⟩
noncomputable def lru_Cache_Leave (p0 : lru_Cache) (p1 : Int) : Option (Int × lru_Cache) := (lru_Cache_sweep p0 (fun (u0 : lru_Entry) (u1 : plan_Plan) => lru_Cache_Leave_1 u0 u1 p1)).bind (fun ((r12, r13) : Int × lru_Cache) => some (r12, r13))
set_option maxHeartbeats 1000000 in
theorem lru_Cache_Leave_ok {E w : World} {I : Mem} {Os : List Mem} {p0 : lru_Cache} {p1 : Int} {b_p0 : Nat} {w_p0 : W_lru_Cache} (h_p0 : ok_lru_Cache I p0 w_p0) (hS : St E w I ((one b_p0 (.cells (cs_lru_Cache p0 w_p0).toArray 68 (0, 0))) :: (w_p0.at_.C) :: Os)) {r : Int × lru_Cache} (hr : lru_Cache_Leave p0 p1 = some r) :
    Calls P 18 #[(.pointer (some ⟨b_p0, 0, none⟩)), (.int .i64 p1)] w (fun e w' => ∃ (I' : Mem) (w_rp0 : W_lru_Cache), e = .returned (.int .i64 r.1) ∧ I.Le I' ∧ St E w' I' ((one b_p0 (.cells (cs_lru_Cache r.2 w_rp0).toArray 68 (0, 0))) :: w_rp0.at_.C :: Os) ∧ ok_lru_Cache I' r.2 w_rp0) := by
  refine calls_W (args := [(.pointer (some ⟨b_p0, 0, none⟩)), (.int .i64 p1)]) (fn := Try.f18) rfl rfl rfl ?_
  unfold lru_Cache_Leave at hr
  refine W.seq ?_
  refine W.region (l := [0, 1]) (by kernel_rfl) ?_
  refine WO.new hS rfl (by kernel_rfl) rfl (.cells #[(.int .i64 p1)] 3 (0, 0)) (fun b => .pointer (some ⟨b, 0, none⟩)) (by kernel_rfl) (fun _ _ _ => trivial) ?_
  intro b1 w4 hS3
  refine WO.vals [(1, 4, (.int .i64 0))] (by kernel_rfl) (fun _ => by kernel_rfl) ?_
  refine WO.nil ?_
  refine En.next ?_
  refine W.seq ?_
  refine W.region (l := [0, 1, 2, 3]) (by kernel_rfl) ?_
  refine WO.vals [(0, 5, (.pointer (some ⟨b_p0, 0, none⟩))), (1, 6, (.func (.func 30) #[] #[(.pointer (some ⟨b1, 0, none⟩))]))] (by kernel_rfl) (fun _ => by kernel_rfl) ?_
  have hS5 := hS3.front2
  have hS6 := hS5.front2
  obtain ⟨⟨r12, r13⟩, hx_r7, hr⟩ := bind_some hr
  refine WO.call rfl (by kernel_rfl) rfl (f := 29) (args := #[(.pointer (some ⟨b_p0, 0, none⟩)), (.func (.func 30) #[] #[(.pointer (some ⟨b1, 0, none⟩))])]) (by kernel_rfl) (lru_Cache_sweep_ok h_p0 (fun {F Ic wc} {_} {_} {_} hlc hSc h_u1 {rc} hrc => lru_Cache_Leave_1_ok h_u1 (List.mem_append_right _ (List.Mem.head _)) hSc hrc) (fun _ _ => by kernel_rfl) hS6 hx_r7) ?_
  rintro _ w8 ⟨I9, w_r13, rfl, hl10, hS11, h_r13⟩
  refine ⟨_, rfl, trivial, ?_⟩
  refine WO.vals [(3, 4, (.int .i64 r12))] (by kernel_rfl) (fun _ => by kernel_rfl) ?_
  refine WO.nil ?_
  refine En.next ?_
  refine W.ret ?_
  have hS14 := hS11.front2
  have hS15 := hS14.drop
  have he := Option.some.inj hr
  subst r
  exact En.ret1 rfl (.int .i64 r12) rfl ⟨I9, w_r13, rfl, hl10, hS15, h_r13⟩
def registrarref26_Cache_sweep (p0 : registrarref26_Cache) (p1 : Int) (p2 : ByteArray) (p3 : Bool) : Option (Int × registrarref26_Cache) := (forE (fun (i5 : Nat) => fun (s4 : List registrarref26_Entry) => (((bif p3 then (idx p0.L (i5 : Int)).bind (fun (x23 : registrarref26_Entry) => some (sEq x23.Table p2)) else some false)).bind (fun (j19 : Bool) => ((bif j19 then some true else ((bif (!p3) then (idx p0.L (i5 : Int)).bind (fun (x34 : registrarref26_Entry) => some (x34.Who == p1)) else some false)).bind (fun (j30 : Bool) => some j30))).bind (fun (j26 : Bool) => (bif j26 then some s4 else (idx p0.L (i5 : Int)).bind (fun (x39 : registrarref26_Entry) => (app 48 s4 ([x39] : List registrarref26_Entry)).bind (fun (x48 : List registrarref26_Entry) => some x48)))))).bind (fun (j15 : List registrarref26_Entry) => some j15)) p0.L.length 0 ([] : List registrarref26_Entry)).bind (fun (s4 : (List registrarref26_Entry)) => some ((w64 ((p0.L.length : Int) - (s4.length : Int))), { p0 with L := s4 }))
set_option maxHeartbeats 1000000 in
theorem registrarref26_Cache_sweep_ok {E w : World} {I : Mem} {Os : List Mem} {p0 : registrarref26_Cache} {p1 : Int} {p2 : ByteArray} {p3 : Bool} {b_p0 : Nat} {w_p0 : W_registrarref26_Cache} (h_p0 : ok_registrarref26_Cache I p0 w_p0) (hS : St E w I ((one b_p0 (.cells (cs_registrarref26_Cache p0 w_p0).toArray 59 (0, 0))) :: Os)) {r : Int × registrarref26_Cache} (hr : registrarref26_Cache_sweep p0 p1 p2 p3 = some r) :
    Calls P 34 #[(.pointer (some ⟨b_p0, 0, none⟩)), (.int .i64 p1), (.string p2), (.bool p3)] w (fun e w' => ∃ (I' : Mem) (w_rp0 : W_registrarref26_Cache), e = .returned (.int .i64 r.1) ∧ I.Le I' ∧ St E w' I' ((one b_p0 (.cells (cs_registrarref26_Cache r.2 w_rp0).toArray 59 (0, 0))) :: Os) ∧ ok_registrarref26_Cache I' r.2 w_rp0) := by
  refine calls_W (args := [(.pointer (some ⟨b_p0, 0, none⟩)), (.int .i64 p1), (.string p2), (.bool p3)]) (fn := Try.f34) rfl rfl rfl ?_
  unfold registrarref26_Cache_sweep at hr
  refine W.seq ?_
  refine W.region (l := [0]) (by kernel_rfl) ?_
  refine WO.vals [(0, 8, (.int .i64 0))] (by kernel_rfl) (fun _ => by kernel_rfl) ?_
  refine WO.nil ?_
  refine En.next ?_
  refine W.seq ?_
  refine W.region (l := [0]) (by kernel_rfl) ?_
  refine WO.vals [(0, 9, (.slice none 0 0))] (by kernel_rfl) (fun _ => by kernel_rfl) ?_
  refine WO.nil ?_
  refine En.next ?_
  refine W.seq ?_
  refine W.seq ?_
  refine W.region (l := [0]) (by kernel_rfl) ?_
  refine WO.vals [(0, 10, (.int .i64 0))] (by kernel_rfl) (fun _ => by kernel_rfl) ?_
  refine WO.nil ?_
  refine En.next ?_
  refine W.block ?_
  obtain ⟨s4, hloop6, hr⟩ := bind_some hr
  have hS8 := hS.no
  have hS9 := hS8.front1
  have hlt13 := (h_p0.L).len_lt
  refine W.weaken (fr' := [(0, (.pointer (some ⟨b_p0, 0, none⟩))), (1, (.int .i64 p1)), (2, (.string p2)), (3, (.bool p3)), (9, (.slice none ([] : List registrarref26_Entry).length 0)), (10, (.int .i64 ((0 : Nat) : Int)))]) (W.forE (m := p0.L.length) hloop6 (fun (i5 : Nat) => fun (s4 : List registrarref26_Entry) fr w => ∃ (I2 : Mem), ∃ (a_s4 : Option Addr), ∃ (c_s4 : Nat), ∃ (C_s4 : Mem), fr = [(0, (.pointer (some ⟨b_p0, 0, none⟩))), (1, (.int .i64 p1)), (2, (.string p2)), (3, (.bool p3)), (9, (.slice a_s4 s4.length c_s4)), (10, (.int .i64 (i5 : Int)))] ∧ I.Le I2 ∧ St E w I2 ((one b_p0 (.cells (cs_registrarref26_Cache p0 w_p0).toArray 59 (0, 0))) :: (C_s4) :: Os) ∧ OwnSl 79 4 R_registrarref26_Entry I2 C_s4 a_s4 c_s4 s4) ⟨I, none, 0, Mem.no, rfl, Mem.Le.refl _, hS9, OwnSl.nil⟩ ?roundt1 ?lastt1) (Sub.cons rfl (Sub.cons rfl (Sub.cons rfl (Sub.cons rfl (Sub.cons rfl (Sub.cons rfl Sub.nil))))))
  case roundt1 =>
    rintro i5 s4 _ w10 hi14 ⟨I2, a_s4, c_s4, C_s4, rfl, hl3, hS11, h_s4⟩ x12 hr1
    refine W.seq ?_
    refine W.seq ?_
    refine W.region (l := [0, 1, 2, 3, 4, 5, 6]) (by kernel_rfl) ?_
    refine WO.vals [(0, 12, (.int .i64 (i5 : Int))), (1, 13, (.pointer (some ⟨b_p0, 0, none⟩))), (2, 14, (.pointer (some ⟨b_p0, 0, none⟩))), (3, 15, (.pointer (some ⟨b_p0, 0, none⟩)))] (by kernel_rfl) (fun _ => by kernel_rfl) ?_
    refine WO.load rfl (by kernel_rfl) (by kernel_rfl) rfl (v := (.slice w_p0.L.a p0.L.length w_p0.L.c)) (fun w' hw' => cell_one ((rd_f (hS11.rd (List.Mem.head _))) w' hw') (by kernel_rfl)) ?_
    refine WO.vals [(5, 17, (.int .i64 (p0.L.length : Int))), (6, 18, (.bool (decide ((i5 : Int) < (p0.L.length : Int)))))] (by kernel_rfl) (fun _ => by kernel_rfl) ?_
    refine WO.nil ?_
    refine En.next ?_
    refine W.cond (b := (decide ((i5 : Int) < (p0.L.length : Int)))) rfl rfl (fun hc => ?_) (fun hc => ?_)
    rotate_left
    · exact absurd hc (by first | (simp; done) | (simp; omega))
    clear hc
    refine W.skip ?_
    refine En.next ?_
    refine W.seq ?_
    obtain ⟨j15, hr2, hr1⟩ := bind_some hr1
    refine W.join (J := (fun fr w => ∃ (I17 : Mem), ∃ (a_j15 : Option Addr), ∃ (c_j15 : Nat), ∃ (C_j15 : Mem), fr = [(0, (.pointer (some ⟨b_p0, 0, none⟩))), (1, (.int .i64 p1)), (2, (.string p2)), (3, (.bool p3)), (9, (.slice a_j15 j15.length c_j15)), (10, (.int .i64 (i5 : Int)))] ∧ I2.Le I17 ∧ St E w I17 ((one b_p0 (.cells (cs_registrarref26_Cache p0 w_p0).toArray 59 (0, 0))) :: (C_j15) :: Os) ∧ OwnSl 79 4 R_registrarref26_Entry I17 C_j15 a_j15 c_j15 j15)) ?restj15 ?waysj15
    case waysj15 =>
      refine W.block ?_
      refine W.seq ?_
      refine W.seq ?_
      refine W.region (l := [0, 1, 2, 3, 4, 5, 6, 7, 8, 9, 10, 11, 12, 13, 14, 15, 16, 17, 18, 19, 20, 21, 22, 23, 24, 25, 26, 27, 28]) (by kernel_rfl) ?_
      refine WO.vals [(0, 21, (.bool p3)), (1, 22, (.bool p3))] (by kernel_rfl) (fun _ => by kernel_rfl) ?_
      obtain ⟨j19, hr3, hr2⟩ := bind_some hr2
      refine WO.join (l1 := [2, 3, 4, 5, 6, 7, 8, 9, 10, 11, 12]) (l2 := [13, 14, 15, 16, 17, 18, 19, 20, 21, 22, 23, 24, 25, 26, 27, 28]) (J := (fun fr w => ∃ (I21 : Mem), fr = [(0, (.pointer (some ⟨b_p0, 0, none⟩))), (1, (.int .i64 p1)), (2, (.string p2)), (3, (.bool p3)), (9, (.slice a_s4 s4.length c_s4)), (10, (.int .i64 (i5 : Int))), (33, (.bool j19))] ∧ I2.Le I21 ∧ St E w I21 ((one b_p0 (.cells (cs_registrarref26_Cache p0 w_p0).toArray 59 (0, 0))) :: (C_s4) :: Os))) ?restj19 ?waysj19
      case waysj19 =>
        refine WO.caseb p3 (fun hc => ?_) (fun hc => ?_)
        · replace hr3 := cond_t hc hr3
          refine WO.reslot 22 rfl (show Value.bool p3 = Value.bool true by rw [hc]) ?_
          refine WO.vals [(2, 23, (.pointer (some ⟨b_p0, 0, none⟩))), (3, 24, (.pointer (some ⟨b_p0, 0, none⟩))), (4, 25, (.pointer (some ⟨b_p0, 0, none⟩)))] (by kernel_rfl) (fun _ => by kernel_rfl) ?_
          refine WO.load rfl (by kernel_rfl) (by kernel_rfl) rfl (v := (.slice w_p0.L.a p0.L.length w_p0.L.c)) (fun w' hw' => cell_one ((rd_f (hS11.rd (List.Mem.head _))) w' hw') (by kernel_rfl)) ?_
          refine WO.vals [(6, 27, (.int .i64 (i5 : Int)))] (by kernel_rfl) (fun _ => by kernel_rfl) ?_
          obtain ⟨x23, hx_x23, hr3⟩ := bind_some hr3
          obtain ⟨h0_x23, h1_x23, hx_x23⟩ := idx_some hx_x23
          obtain ⟨ha_x23, cs_x23, hn_x23, hr_x23, hc_x23⟩ := ((RSl.mono h_p0.L hl3)).el _ _ hx_x23
          obtain rfl := hr_x23
          refine WO.indexAddr (e := 79) (sz := 4) rfl (by kernel_rfl) (by kernel_rfl) (by kernel_rfl) rfl ha_x23 rfl h0_x23 h1_x23 ?_
          refine WO.vals [(8, 29, (.pointer (some ⟨bl w_p0.L.a, of w_p0.L.a + ((i5 : Int)).toNat * 4 + 2, none⟩)))] (by kernel_rfl) (fun _ => by kernel_rfl) ?_
          refine WO.load rfl (by kernel_rfl) (by kernel_rfl) rfl (v := (.string x23.Table)) (fun w' hw' => hc_x23.cellk 2 (by kernel_rfl) ((rd_f hS11.im) w' hw')) ?_
          refine WO.vals [(10, 31, (.string p2)), (11, 32, (.bool (sEq x23.Table p2))), (12, 33, (.bool (sEq x23.Table p2)))] (by kernel_rfl) (fun _ => by kernel_rfl) ?_
          have he := Option.some.inj hr3
          subst j19
          refine WO.weaken (fr' := [(0, (.pointer (some ⟨b_p0, 0, none⟩))), (1, (.int .i64 p1)), (2, (.string p2)), (3, (.bool p3)), (9, (.slice a_s4 s4.length c_s4)), (10, (.int .i64 (i5 : Int))), (33, (.bool (sEq x23.Table p2)))]) (WO.meet ⟨I2, rfl, Mem.Le.refl _, hS11⟩) (Sub.cons rfl (Sub.cons rfl (Sub.cons rfl (Sub.cons rfl (Sub.cons rfl (Sub.cons rfl (Sub.cons rfl Sub.nil)))))))
        · replace hr3 := cond_f hc hr3
          refine WO.reslot 22 rfl (show Value.bool p3 = Value.bool false by rw [hc]) ?_
          refine WO.pass rfl (by kernel_rfl) rfl ?_
          refine WO.pass rfl (by kernel_rfl) rfl ?_
          refine WO.pass rfl (by kernel_rfl) rfl ?_
          refine WO.pass rfl (by kernel_rfl) rfl ?_
          refine WO.pass rfl (by kernel_rfl) rfl ?_
          refine WO.pass rfl (by kernel_rfl) rfl ?_
          refine WO.pass rfl (by kernel_rfl) rfl ?_
          refine WO.pass rfl (by kernel_rfl) rfl ?_
          refine WO.pass rfl (by kernel_rfl) rfl ?_
          refine WO.pass rfl (by kernel_rfl) rfl ?_
          refine WO.vals [(12, 33, (.bool false))] (by kernel_rfl) (fun _ => by kernel_rfl) ?_
          have he := Option.some.inj hr3
          subst j19
          refine WO.weaken (fr' := [(0, (.pointer (some ⟨b_p0, 0, none⟩))), (1, (.int .i64 p1)), (2, (.string p2)), (3, (.bool p3)), (9, (.slice a_s4 s4.length c_s4)), (10, (.int .i64 (i5 : Int))), (33, (.bool false))]) (WO.meet ⟨I2, rfl, Mem.Le.refl _, hS11⟩) (Sub.cons rfl (Sub.cons rfl (Sub.cons rfl (Sub.cons rfl (Sub.cons rfl (Sub.cons rfl (Sub.cons rfl Sub.nil)))))))
      case restj19 =>
        rintro _ w24 ⟨I21, rfl, hl22, hS25⟩
        refine WO.vals [(13, 34, (.bool j19))] (by kernel_rfl) (fun _ => by kernel_rfl) ?_
        obtain ⟨j26, hr3, hr2⟩ := bind_some hr2
        refine WO.join (l1 := [14, 15, 16, 17, 18, 19, 20, 21, 22, 23, 24, 25, 26, 27, 28]) (l2 := []) (J := (fun fr w => ∃ (I28 : Mem), fr = [(0, (.pointer (some ⟨b_p0, 0, none⟩))), (1, (.int .i64 p1)), (2, (.string p2)), (3, (.bool p3)), (9, (.slice a_s4 s4.length c_s4)), (10, (.int .i64 (i5 : Int))), (49, (.bool j26))] ∧ I21.Le I28 ∧ St E w I28 ((one b_p0 (.cells (cs_registrarref26_Cache p0 w_p0).toArray 59 (0, 0))) :: (C_s4) :: Os))) ?restj26 ?waysj26
        case waysj26 =>
          refine WO.caseb j19 (fun hc => ?_) (fun hc => ?_)
          · replace hr3 := cond_t hc hr3
            refine WO.reslot 34 rfl (show Value.bool j19 = Value.bool true by rw [hc]) ?_
            refine WO.pass rfl (by kernel_rfl) rfl ?_
            refine WO.pass rfl (by kernel_rfl) rfl ?_
            refine WO.pass rfl (by kernel_rfl) rfl ?_
            refine WO.pass rfl (by kernel_rfl) rfl ?_
            refine WO.pass rfl (by kernel_rfl) rfl ?_
            refine WO.pass rfl (by kernel_rfl) rfl ?_
            refine WO.pass rfl (by kernel_rfl) rfl ?_
            refine WO.pass rfl (by kernel_rfl) rfl ?_
            refine WO.pass rfl (by kernel_rfl) rfl ?_
            refine WO.pass rfl (by kernel_rfl) rfl ?_
            refine WO.pass rfl (by kernel_rfl) rfl ?_
            refine WO.pass rfl (by kernel_rfl) rfl ?_
            refine WO.pass rfl (by kernel_rfl) rfl ?_
            refine WO.pass rfl (by kernel_rfl) rfl ?_
            refine WO.vals [(28, 49, (.bool true))] (by kernel_rfl) (fun _ => by kernel_rfl) ?_
            have he := Option.some.inj hr3
            subst j26
            refine WO.weaken (fr' := [(0, (.pointer (some ⟨b_p0, 0, none⟩))), (1, (.int .i64 p1)), (2, (.string p2)), (3, (.bool p3)), (9, (.slice a_s4 s4.length c_s4)), (10, (.int .i64 (i5 : Int))), (49, (.bool true))]) (WO.meet ⟨I21, rfl, Mem.Le.refl _, hS25⟩) (Sub.cons rfl (Sub.cons rfl (Sub.cons rfl (Sub.cons rfl (Sub.cons rfl (Sub.cons rfl (Sub.cons rfl Sub.nil)))))))
          · replace hr3 := cond_f hc hr3
            refine WO.reslot 34 rfl (show Value.bool j19 = Value.bool false by rw [hc]) ?_
            refine WO.vals [(14, 35, (.bool p3)), (15, 36, (.bool (!p3))), (16, 37, (.bool (!p3)))] (by kernel_rfl) (fun _ => by kernel_rfl) ?_
            obtain ⟨j30, hr4, hr3⟩ := bind_some hr3
            refine WO.join (l1 := [17, 18, 19, 20, 21, 22, 23, 24, 25, 26, 27]) (l2 := [28]) (J := (fun fr w => ∃ (I32 : Mem), fr = [(0, (.pointer (some ⟨b_p0, 0, none⟩))), (1, (.int .i64 p1)), (2, (.string p2)), (3, (.bool p3)), (9, (.slice a_s4 s4.length c_s4)), (10, (.int .i64 (i5 : Int))), (34, (.bool false)), (48, (.bool j30))] ∧ I21.Le I32 ∧ St E w I32 ((one b_p0 (.cells (cs_registrarref26_Cache p0 w_p0).toArray 59 (0, 0))) :: (C_s4) :: Os))) ?restj30 ?waysj30
            case waysj30 =>
              refine WO.caseb (!p3) (fun hc => ?_) (fun hc => ?_)
              · replace hr4 := cond_t hc hr4
                refine WO.reslot 37 rfl (show Value.bool (!p3) = Value.bool true by rw [hc]) ?_
                refine WO.vals [(17, 38, (.pointer (some ⟨b_p0, 0, none⟩))), (18, 39, (.pointer (some ⟨b_p0, 0, none⟩))), (19, 40, (.pointer (some ⟨b_p0, 0, none⟩)))] (by kernel_rfl) (fun _ => by kernel_rfl) ?_
                refine WO.load rfl (by kernel_rfl) (by kernel_rfl) rfl (v := (.slice w_p0.L.a p0.L.length w_p0.L.c)) (fun w' hw' => cell_one ((rd_f (hS25.rd (List.Mem.head _))) w' hw') (by kernel_rfl)) ?_
                refine WO.vals [(21, 42, (.int .i64 (i5 : Int)))] (by kernel_rfl) (fun _ => by kernel_rfl) ?_
                obtain ⟨x34, hx_x34, hr4⟩ := bind_some hr4
                obtain ⟨h0_x34, h1_x34, hx_x34⟩ := idx_some hx_x34
                obtain ⟨ha_x34, cs_x34, hn_x34, hr_x34, hc_x34⟩ := ((RSl.mono h_p0.L (hl3.trans hl22))).el _ _ hx_x34
                obtain rfl := hr_x34
                refine WO.indexAddr (e := 79) (sz := 4) rfl (by kernel_rfl) (by kernel_rfl) (by kernel_rfl) rfl ha_x34 rfl h0_x34 h1_x34 ?_
                refine WO.vals [(23, 44, (.pointer (some ⟨bl w_p0.L.a, of w_p0.L.a + ((i5 : Int)).toNat * 4, none⟩)))] (by kernel_rfl) (fun _ => by kernel_rfl) ?_
                refine WO.load rfl (by kernel_rfl) (by kernel_rfl) rfl (v := (.int .i64 x34.Who)) (fun w' hw' => hc_x34.cell0 (by kernel_rfl) ((rd_f hS25.im) w' hw')) ?_
                refine WO.vals [(25, 46, (.int .i64 p1)), (26, 47, (.bool (x34.Who == p1))), (27, 48, (.bool (x34.Who == p1)))] (by kernel_rfl) (fun _ => by kernel_rfl) ?_
                have he := Option.some.inj hr4
                subst j30
                refine WO.weaken (fr' := [(0, (.pointer (some ⟨b_p0, 0, none⟩))), (1, (.int .i64 p1)), (2, (.string p2)), (3, (.bool p3)), (9, (.slice a_s4 s4.length c_s4)), (10, (.int .i64 (i5 : Int))), (34, (.bool false)), (48, (.bool (x34.Who == p1)))]) (WO.meet ⟨I21, rfl, Mem.Le.refl _, hS25⟩) (Sub.cons rfl (Sub.cons rfl (Sub.cons rfl (Sub.cons rfl (Sub.cons rfl (Sub.cons rfl (Sub.cons rfl (Sub.cons rfl Sub.nil))))))))
              · replace hr4 := cond_f hc hr4
                refine WO.reslot 37 rfl (show Value.bool (!p3) = Value.bool false by rw [hc]) ?_
                refine WO.pass rfl (by kernel_rfl) rfl ?_
                refine WO.pass rfl (by kernel_rfl) rfl ?_
                refine WO.pass rfl (by kernel_rfl) rfl ?_
                refine WO.pass rfl (by kernel_rfl) rfl ?_
                refine WO.pass rfl (by kernel_rfl) rfl ?_
                refine WO.pass rfl (by kernel_rfl) rfl ?_
                refine WO.pass rfl (by kernel_rfl) rfl ?_
                refine WO.pass rfl (by kernel_rfl) rfl ?_
                refine WO.pass rfl (by kernel_rfl) rfl ?_
                refine WO.pass rfl (by kernel_rfl) rfl ?_
                refine WO.vals [(27, 48, (.bool false))] (by kernel_rfl) (fun _ => by kernel_rfl) ?_
                have he := Option.some.inj hr4
                subst j30
                refine WO.weaken (fr' := [(0, (.pointer (some ⟨b_p0, 0, none⟩))), (1, (.int .i64 p1)), (2, (.string p2)), (3, (.bool p3)), (9, (.slice a_s4 s4.length c_s4)), (10, (.int .i64 (i5 : Int))), (34, (.bool false)), (48, (.bool false))]) (WO.meet ⟨I21, rfl, Mem.Le.refl _, hS25⟩) (Sub.cons rfl (Sub.cons rfl (Sub.cons rfl (Sub.cons rfl (Sub.cons rfl (Sub.cons rfl (Sub.cons rfl (Sub.cons rfl Sub.nil))))))))
            case restj30 =>
              rintro _ w35 ⟨I32, rfl, hl33, hS36⟩
              refine WO.vals [(28, 49, (.bool j30))] (by kernel_rfl) (fun _ => by kernel_rfl) ?_
              have he := Option.some.inj hr3
              subst j26
              refine WO.weaken (fr' := [(0, (.pointer (some ⟨b_p0, 0, none⟩))), (1, (.int .i64 p1)), (2, (.string p2)), (3, (.bool p3)), (9, (.slice a_s4 s4.length c_s4)), (10, (.int .i64 (i5 : Int))), (49, (.bool j30))]) (WO.meet ⟨I32, rfl, hl33, hS36⟩) (Sub.cons rfl (Sub.cons rfl (Sub.cons rfl (Sub.cons rfl (Sub.cons rfl (Sub.cons rfl (Sub.cons rfl Sub.nil)))))))
        case restj26 =>
          rintro _ w37 ⟨I28, rfl, hl29, hS38⟩
          refine WO.nil ?_
          refine En.next ?_
          refine W.cond (b := j26) rfl rfl (fun hc => ?_) (fun hc => ?_)
          · replace hr2 := cond_t hc hr2
            refine W.exit ?_
            refine En.nx_exit ?_
            refine En.in_hit ?_
            have he := Option.some.inj hr2
            subst j15
            refine En.weaken (fr' := [(0, (.pointer (some ⟨b_p0, 0, none⟩))), (1, (.int .i64 p1)), (2, (.string p2)), (3, (.bool p3)), (9, (.slice a_s4 s4.length c_s4)), (10, (.int .i64 (i5 : Int)))]) (En.round ⟨I28, a_s4, c_s4, C_s4, rfl, (hl22.trans hl29), hS38, (OwnSl.mono h_s4 (hl22.trans hl29))⟩) (Sub.cons rfl (Sub.cons rfl (Sub.cons rfl (Sub.cons rfl (Sub.cons rfl (Sub.cons rfl Sub.nil))))))
          · replace hr2 := cond_f hc hr2
            refine W.skip ?_
            refine En.next ?_
            refine W.region (l := [0, 1, 2, 3, 4, 5, 6, 7, 8, 9, 10]) (by kernel_rfl) ?_
            refine WO.vals [(0, 50, (.slice a_s4 s4.length c_s4)), (1, 51, (.pointer (some ⟨b_p0, 0, none⟩))), (2, 52, (.pointer (some ⟨b_p0, 0, none⟩))), (3, 53, (.pointer (some ⟨b_p0, 0, none⟩)))] (by kernel_rfl) (fun _ => by kernel_rfl) ?_
            refine WO.load rfl (by kernel_rfl) (by kernel_rfl) rfl (v := (.slice w_p0.L.a p0.L.length w_p0.L.c)) (fun w' hw' => cell_one ((rd_f (hS38.rd (List.Mem.head _))) w' hw') (by kernel_rfl)) ?_
            refine WO.vals [(5, 55, (.int .i64 (i5 : Int)))] (by kernel_rfl) (fun _ => by kernel_rfl) ?_
            obtain ⟨x39, hx_x39, hr2⟩ := bind_some hr2
            obtain ⟨h0_x39, h1_x39, hx_x39⟩ := idx_some hx_x39
            obtain ⟨ha_x39, cs_x39, hn_x39, hr_x39, hc_x39⟩ := ((RSl.mono h_p0.L ((hl3.trans hl22).trans hl29))).el _ _ hx_x39
            obtain rfl := hr_x39
            refine WO.indexAddr (e := 79) (sz := 4) rfl (by kernel_rfl) (by kernel_rfl) (by kernel_rfl) rfl ha_x39 rfl h0_x39 h1_x39 ?_
            refine WO.loadN rfl (by kernel_rfl) (by kernel_rfl) rfl ((cs_registrarref26_Entry x39)) (by kernel_rfl) (fun w' hw' => hc_x39.cells (k := 0) (by kernel_rfl) rfl ((rd_f hS38.im) w' hw')) ?_
            refine WO.newSlice (rel := R_registrarref26_Entry) (xs := ([x39] : List registrarref26_Entry)) hS38 rfl (by kernel_rfl) rfl 79 4 [(cs_registrarref26_Entry x39)] (by kernel_rfl) rfl ((Elr.cons rfl Elr.nil)) (fun _ _ _ => trivial) ?_
            intro a43 C41 w45 hS44 ho42
            have hS47 := hS44.front2
            obtain ⟨x48, hx_x48, hr2⟩ := bind_some hr2
            obtain ⟨h0_x48, he_x48⟩ := app_some hx_x48
            refine WO.append (e' := 79) (b := 48) (zs := (cs_registrarref26_Entry z_registrarref26_Entry).toArray) hS47 (OwnSl.mono h_s4 (hl22.trans hl29)) rfl (by kernel_rfl) rfl (by kernel_rfl) (by kernel_rfl) (by kernel_rfl) rfl rfl rfl rfl ho42.sl (hS47.rd (List.Mem.tail _ (List.Mem.head _))) h0_x48 he_x48 (fun _ _ _ => trivial) ?_
            intro a49 c50 w51 C52 hS53 ho54
            have hS55 := hS53.front1
            have hS56 := hS55.drop
            refine WO.vals [(10, 9, (.slice a49 x48.length c50))] (by kernel_rfl) (fun _ => by kernel_rfl) ?_
            refine WO.nil ?_
            refine En.in_normal ?_
            have hS57 := hS56.front1
            have he := Option.some.inj hr2
            subst j15
            refine En.weaken (fr' := [(0, (.pointer (some ⟨b_p0, 0, none⟩))), (1, (.int .i64 p1)), (2, (.string p2)), (3, (.bool p3)), (9, (.slice a49 x48.length c50)), (10, (.int .i64 (i5 : Int)))]) (En.round ⟨I28, a49, c50, C52, rfl, (hl22.trans hl29), hS57, ho54⟩) (Sub.cons rfl (Sub.cons rfl (Sub.cons rfl (Sub.cons rfl (Sub.cons rfl (Sub.cons rfl Sub.nil))))))
    case restj15 =>
      rintro _ w58 ⟨I17, a_j15, c_j15, C_j15, rfl, hl18, hS59, h_j15⟩
      refine En.next ?_
      refine W.region (l := [0, 1, 2]) (by kernel_rfl) ?_
      refine WO.vals [(0, 19, (.int .i64 (i5 : Int)))] (by kernel_rfl) (fun _ => by kernel_rfl) ?_
      refine WO.incr (j := i5) rfl (by kernel_rfl) rfl (by omega) ?_
      refine WO.vals [(2, 10, (.int .i64 ((i5 + 1 : Nat) : Int)))] (by kernel_rfl) (fun _ => by kernel_rfl) ?_
      refine WO.nil ?_
      have he := Option.some.inj hr1
      subst x12
      refine En.weaken (fr' := [(0, (.pointer (some ⟨b_p0, 0, none⟩))), (1, (.int .i64 p1)), (2, (.string p2)), (3, (.bool p3)), (9, (.slice a_j15 j15.length c_j15)), (10, (.int .i64 ((i5 + 1 : Nat) : Int)))]) (En.round ⟨I17, a_j15, c_j15, C_j15, rfl, (hl3.trans hl18), hS59, h_j15⟩) (Sub.cons rfl (Sub.cons rfl (Sub.cons rfl (Sub.cons rfl (Sub.cons rfl (Sub.cons rfl Sub.nil))))))
  case lastt1 =>
    rintro _ w60 ⟨I2, a_s4, c_s4, C_s4, rfl, hl3, hS61, h_s4⟩
    refine W.seq ?_
    refine W.seq ?_
    refine W.region (l := [0, 1, 2, 3, 4, 5, 6]) (by kernel_rfl) ?_
    refine WO.vals [(0, 12, (.int .i64 (p0.L.length : Int))), (1, 13, (.pointer (some ⟨b_p0, 0, none⟩))), (2, 14, (.pointer (some ⟨b_p0, 0, none⟩))), (3, 15, (.pointer (some ⟨b_p0, 0, none⟩)))] (by kernel_rfl) (fun _ => by kernel_rfl) ?_
    refine WO.load rfl (by kernel_rfl) (by kernel_rfl) rfl (v := (.slice w_p0.L.a p0.L.length w_p0.L.c)) (fun w' hw' => cell_one ((rd_f (hS61.rd (List.Mem.head _))) w' hw') (by kernel_rfl)) ?_
    refine WO.vals [(5, 17, (.int .i64 (p0.L.length : Int))), (6, 18, (.bool (decide ((p0.L.length : Int) < (p0.L.length : Int)))))] (by kernel_rfl) (fun _ => by kernel_rfl) ?_
    refine WO.nil ?_
    refine En.next ?_
    refine W.cond (b := (decide ((p0.L.length : Int) < (p0.L.length : Int)))) rfl rfl (fun hc => ?_) (fun hc => ?_)
    · exact absurd hc (by first | (simp; done) | (simp; omega))
    clear hc
    refine W.exit ?_
    refine En.nx_exit ?_
    refine En.rd_exit ?_
    refine En.in_hit ?_
    refine En.next ?_
    refine W.seq ?_
    refine W.region (l := [0, 1, 2, 3, 4, 5, 6, 7, 8]) (by kernel_rfl) ?_
    refine WO.vals [(0, 60, (.pointer (some ⟨b_p0, 0, none⟩))), (1, 61, (.pointer (some ⟨b_p0, 0, none⟩))), (2, 62, (.pointer (some ⟨b_p0, 0, none⟩)))] (by kernel_rfl) (fun _ => by kernel_rfl) ?_
    refine WO.load rfl (by kernel_rfl) (by kernel_rfl) rfl (v := (.slice w_p0.L.a p0.L.length w_p0.L.c)) (fun w' hw' => cell_one ((rd_f (hS61.rd (List.Mem.head _))) w' hw') (by kernel_rfl)) ?_
    refine WO.vals [(4, 64, (.int .i64 (p0.L.length : Int))), (5, 65, (.slice a_s4 s4.length c_s4)), (6, 66, (.int .i64 (s4.length : Int))), (7, 67, (.int .i64 (w64 ((p0.L.length : Int) - (s4.length : Int))))), (8, 11, (.int .i64 (w64 ((p0.L.length : Int) - (s4.length : Int)))))] (by kernel_rfl) (fun _ => by kernel_rfl) ?_
    refine WO.nil ?_
    refine En.next ?_
    refine W.seq ?_
    refine W.region (l := [0, 1, 2, 3, 4]) (by kernel_rfl) ?_
    refine WO.vals [(0, 68, (.pointer (some ⟨b_p0, 0, none⟩))), (1, 69, (.slice a_s4 s4.length c_s4)), (2, 70, (.pointer (some ⟨b_p0, 0, none⟩))), (3, 71, (.pointer (some ⟨b_p0, 0, none⟩)))] (by kernel_rfl) (fun _ => by kernel_rfl) ?_
    have hS62 := hS61.front1
    obtain ⟨I63, hl64, hS66, hp65⟩ := OwnSl.pub h_s4 hS62
    refine WO.storeBox hS66 rfl (by kernel_rfl) rfl 0 rfl rfl (by kernel_rfl) (by kernel_rfl) (by kernel_rfl) ((cs_registrarref26_Cache ({ p0 with L := s4 }) (⟨⟨a_s4, c_s4⟩⟩ : W_registrarref26_Cache)).toArray) (by kernel_rfl) (fun _ _ => trivial) ?_
    intro w68 hS67
    refine WO.nil ?_
    refine En.next ?_
    refine W.seq ?_
    refine W.region (l := [0, 1]) (by kernel_rfl) ?_
    refine WO.vals [(0, 72, (.int .i64 (w64 ((p0.L.length : Int) - (s4.length : Int))))), (1, 8, (.int .i64 (w64 ((p0.L.length : Int) - (s4.length : Int)))))] (by kernel_rfl) (fun _ => by kernel_rfl) ?_
    refine WO.nil ?_
    refine En.next ?_
    refine W.ret ?_
    have hk69 : ok_registrarref26_Cache I63 ({ p0 with L := s4 }) (⟨⟨a_s4, c_s4⟩⟩ : W_registrarref26_Cache) := ⟨hp65⟩
    have he := Option.some.inj hr
    subst r
    exact En.ret1 rfl (.int .i64 (w64 ((p0.L.length : Int) - (s4.length : Int)))) rfl ⟨I63, (⟨⟨a_s4, c_s4⟩⟩ : W_registrarref26_Cache), rfl, (hl3.trans hl64), hS67, hk69⟩
def registrarref26_Cache_Leave (p0 : registrarref26_Cache) (p1 : Int) : Option (Int × registrarref26_Cache) := (registrarref26_Cache_sweep p0 p1 (⟨#[]⟩ : ByteArray) false).bind (fun ((r6, r7) : Int × registrarref26_Cache) => some (r6, r7))
set_option maxHeartbeats 1000000 in
theorem registrarref26_Cache_Leave_ok {E w : World} {I : Mem} {Os : List Mem} {p0 : registrarref26_Cache} {p1 : Int} {b_p0 : Nat} {w_p0 : W_registrarref26_Cache} (h_p0 : ok_registrarref26_Cache I p0 w_p0) (hS : St E w I ((one b_p0 (.cells (cs_registrarref26_Cache p0 w_p0).toArray 59 (0, 0))) :: Os)) {r : Int × registrarref26_Cache} (hr : registrarref26_Cache_Leave p0 p1 = some r) :
    Calls P 23 #[(.pointer (some ⟨b_p0, 0, none⟩)), (.int .i64 p1)] w (fun e w' => ∃ (I' : Mem) (w_rp0 : W_registrarref26_Cache), e = .returned (.int .i64 r.1) ∧ I.Le I' ∧ St E w' I' ((one b_p0 (.cells (cs_registrarref26_Cache r.2 w_rp0).toArray 59 (0, 0))) :: Os) ∧ ok_registrarref26_Cache I' r.2 w_rp0) := by
  refine calls_W (args := [(.pointer (some ⟨b_p0, 0, none⟩)), (.int .i64 p1)]) (fn := Try.f23) rfl rfl rfl ?_
  unfold registrarref26_Cache_Leave at hr
  refine W.seq ?_
  refine W.region (l := [0]) (by kernel_rfl) ?_
  refine WO.vals [(0, 4, (.int .i64 0))] (by kernel_rfl) (fun _ => by kernel_rfl) ?_
  refine WO.nil ?_
  refine En.next ?_
  refine W.seq ?_
  refine W.region (l := [0, 1, 2, 3]) (by kernel_rfl) ?_
  refine WO.vals [(0, 5, (.pointer (some ⟨b_p0, 0, none⟩))), (1, 6, (.int .i64 p1))] (by kernel_rfl) (fun _ => by kernel_rfl) ?_
  obtain ⟨⟨r6, r7⟩, hx_r1, hr⟩ := bind_some hr
  refine WO.call rfl (by kernel_rfl) rfl (f := 34) (args := #[(.pointer (some ⟨b_p0, 0, none⟩)), (.int .i64 p1), (.string (⟨#[]⟩ : ByteArray)), (.bool false)]) (by kernel_rfl) (registrarref26_Cache_sweep_ok h_p0 hS hx_r1) ?_
  rintro _ w2 ⟨I3, w_r7, rfl, hl4, hS5, h_r7⟩
  refine ⟨_, rfl, trivial, ?_⟩
  refine WO.vals [(3, 4, (.int .i64 r6))] (by kernel_rfl) (fun _ => by kernel_rfl) ?_
  refine WO.nil ?_
  refine En.next ?_
  refine W.ret ?_
  have he := Option.some.inj hr
  subst r
  exact En.ret1 rfl (.int .i64 r6) rfl ⟨I3, w_r7, rfl, hl4, hS5, h_r7⟩
end Go.Proofs.Ytmclgkomnpdgjaa
