/- What functions of the program come to, each by a plain one. Conditions: none. -/
import Derived.Test.YthndadengamanaaF3
set_option maxRecDepth 100000
namespace Go.Proofs.Ythndadengamanaa
open Go.Gv
set_option maxHeartbeats 1000000 in
theorem ins41_ok {E w : World} {I C D : Mem} {Os : List Mem} {xs vs : List ByteArray} {a va : Option Addr} {cap vc : Nat} (h : OwnSl 9 1 RStr I C a cap xs) (hv : OwnSl 9 1 RStr I D va vc vs) (hS : St E w I (C :: D :: Os)) {i : Nat} (hi : i ≤ xs.length) (hm : vs ≠ []) (hfit : (xs.length + vs.length) * 16 ≤ 140737488355328) :
    Calls P 41 #[.slice a xs.length cap, .int .i64 (i : Int), .slice va vs.length vc] w (fun e w' => ∃ (a' : Option Addr) (c' : Nat) (C' : Mem), e = .returned (.slice a' (xs.take i ++ vs ++ xs.drop i).length c') ∧ St E w' I (C' :: D :: Os) ∧ OwnSl 9 1 RStr I C' a' c' (xs.take i ++ vs ++ xs.drop i)) := by
  have hxl := h.sl.le
  have hxc := h.sl.lt
  have hvl := List.length_pos_iff.2 hm
  have hlen : (xs.take i ++ vs ++ xs.drop i).length = xs.length + vs.length := by simp; omega
  refine calls_W (args := [.slice a xs.length cap, .int .i64 (i : Int), .slice va vs.length vc]) (fn := Try.f41) rfl rfl rfl ?_
  refine W.seq ?_
  refine W.region (l := [0]) (by kernel_rfl) ?_
  refine WO.vals [(0, 6, (.slice none 0 0))] (by kernel_rfl) (fun _ => by kernel_rfl) ?_
  refine WO.nil ?_
  refine En.next ?_
  refine W.seq ?_
  refine W.region (l := [0, 1, 2]) (by kernel_rfl) ?_
  refine WO.vals [(0, 10, (.slice a xs.length cap)), (1, 11, (.int .i64 (i : Int)))] (by kernel_rfl) (fun _ => by kernel_rfl) ?_
  refine WO.slice (e := 9) (sz := 1) rfl (by kernel_rfl) (by kernel_rfl) (by kernel_rfl) rfl (i : Int) (xs.length : Int) (by omega) (.inr ⟨_, _, rfl, rfl⟩) (.inl ⟨rfl, rfl⟩) (by omega) (by omega) ?_
  refine WO.nil ?_
  refine En.next ?_
  refine W.seq ?_
  refine W.region (l := [0, 1, 2]) (by kernel_rfl) ?_
  refine WO.vals [(0, 13, (.slice va vs.length vc)), (1, 14, (.int .i64 (vs.length : Int))), (2, 7, (.int .i64 (vs.length : Int)))] (by kernel_rfl) (fun _ => by kernel_rfl) ?_
  refine WO.nil ?_
  refine En.next ?_
  refine W.seq ?_
  refine W.seq ?_
  refine W.region (l := [0, 1]) (by kernel_rfl) ?_
  refine WO.vals [(0, 15, (.int .i64 (vs.length : Int))), (1, 16, (.bool ((vs.length : Int) == 0)))] (by kernel_rfl) (fun _ => by kernel_rfl) ?_
  refine WO.nil ?_
  refine En.next ?_
  refine W.cond (b := ((vs.length : Int) == 0)) rfl rfl (fun hc => ?_) (fun hc => ?_)
  · exfalso
    simp at hc
    exact hm hc
  clear hc
  refine W.skip ?_
  refine En.next ?_
  refine W.seq ?_
  refine W.region (l := [0, 1, 2]) (by kernel_rfl) ?_
  refine WO.vals [(0, 18, (.slice a xs.length cap)), (1, 19, (.int .i64 (xs.length : Int))), (2, 8, (.int .i64 (xs.length : Int)))] (by kernel_rfl) (fun _ => by kernel_rfl) ?_
  refine WO.nil ?_
  refine En.next ?_
  refine W.seq ?_
  refine W.seq ?_
  refine W.region (l := [0, 1, 2]) (by kernel_rfl) ?_
  refine WO.vals [(0, 20, (.int .i64 (i : Int))), (1, 21, (.int .i64 (xs.length : Int))), (2, 22, (.bool ((i : Int) == (xs.length : Int))))] (by kernel_rfl) (fun _ => by kernel_rfl) ?_
  refine WO.nil ?_
  refine En.next ?_
  refine W.cond (b := ((i : Int) == (xs.length : Int))) rfl rfl (fun hc => ?_) (fun hc => ?_)
  · have hin : i = xs.length := by simp at hc; omega
    refine W.seq ?_
    refine W.region (l := [0, 1, 2, 3]) (by kernel_rfl) ?_
    refine WO.vals [(0, 23, (.slice a xs.length cap)), (1, 24, (.slice va vs.length vc))] (by kernel_rfl) (fun _ => by kernel_rfl) ?_
    refine WO.append (e' := 9) (b := 16) (zs := #[(.string (⟨#[]⟩ : ByteArray))]) hS h rfl (by kernel_rfl) rfl (by kernel_rfl) (by kernel_rfl) (by kernel_rfl) rfl rfl rfl rfl hv.sl hS.drop.rd0 hfit rfl (fun _ _ _ => trivial) ?_
    intro a' c' w' C' hS' ho'
    refine WO.vals [(3, 6, (.slice a' (xs ++ vs).length c'))] (by kernel_rfl) (fun _ => by kernel_rfl) ?_
    refine WO.nil ?_
    refine En.next ?_
    refine W.ret ?_
    refine En.nx_ret ?_
    have e : xs.take i ++ vs ++ xs.drop i = xs ++ vs := by rw [hin, List.take_length, List.drop_length, List.append_nil]
    rw [e]
    exact En.ret1 rfl (.slice a' (xs ++ vs).length c') rfl ⟨a', c', C', rfl, hS', ho'⟩
  have hin : i < xs.length := by simp at hc; omega
  clear hc
  obtain ⟨b, off, c, rfl, rfl, hcs⟩ := h.block (h.ne (by rintro rfl; simp at hin))
  obtain ⟨b2, o2, c2, rfl, rfl, hcs2⟩ := hv.block (hv.ne hm)
  obtain ⟨csx, hcx, hrx⟩ := h.sl.cel
  obtain ⟨csv, hcv, hrv⟩ := hv.sl.cel
  have hxh : Hol c off csx := Hol.rd (T := 9) hrx hS.rd0
  have hcxl := hcx.len
  have hcvl := hcv.len
  have hbig : xs.length + vs.length < 9223372036854775808 := by omega
  have hw1 : w64 ((xs.length : Int) + (vs.length : Int)) = ((xs.length + vs.length : Nat) : Int) := by rw [w64_id (by omega) (by omega)]; omega
  have hw2 : w64 ((i : Int) + (vs.length : Int)) = ((i + vs.length : Nat) : Int) := by rw [w64_id (by omega) (by omega)]; omega
  refine W.skip ?_
  refine En.next ?_
  refine W.seq ?_
  refine W.seq ?_
  refine W.region (l := [0, 1, 2, 3, 4, 5]) (by kernel_rfl) ?_
  refine WO.vals [(0, 26, (.int .i64 (xs.length : Int))), (1, 27, (.int .i64 (vs.length : Int))), (2, 28, (.int .i64 (w64 ((xs.length : Int) + (vs.length : Int))))), (3, 29, (.slice (some ⟨b, off, none⟩) xs.length cap)), (4, 30, (.int .i64 (cap : Int))), (5, 31, (.bool (decide (w64 ((xs.length : Int) + (vs.length : Int)) > (cap : Int)))))] (by kernel_rfl) (fun _ => by kernel_rfl) ?_
  refine WO.nil ?_
  refine En.next ?_
  refine W.cond (b := decide (w64 ((xs.length : Int) + (vs.length : Int)) > (cap : Int))) rfl rfl (fun hc => ?_) (fun hc => ?_)
  · have hgr : cap < xs.length + vs.length := by rw [hw1] at hc; simp at hc; omega
    clear hc
    have hw3 : w64 ((xs.length + vs.length : Nat) - (i : Int)) = ((xs.length + vs.length - i : Nat) : Int) := by rw [w64_id (by omega) (by omega)]; omega
    have htl : (xs.take i).length = i := by rw [List.length_take]; omega
    refine W.seq ?_
    refine W.region (l := [0, 1, 2, 3, 4, 5, 6, 7, 8, 9]) (by kernel_rfl) ?_
    refine WO.vals [(0, 32, (.slice (some ⟨b, off, none⟩) xs.length cap)), (1, 33, (.int .i64 (i : Int)))] (by kernel_rfl) (fun _ => by kernel_rfl) ?_
    refine WO.sliceB (e := 9) (sz := 1) rfl (by kernel_rfl) (by kernel_rfl) (by kernel_rfl) rfl 0 i (.inl ⟨rfl, rfl⟩) (.inr ⟨_, _, rfl, rfl⟩) (by omega) (by omega) (by omega) ?_
    refine WO.vals [(3, 35, (.int .i64 (xs.length : Int))), (4, 36, (.int .i64 (vs.length : Int))), (5, 37, (.int .i64 (w64 ((xs.length : Int) + (vs.length : Int)))))] (by kernel_rfl) (fun _ => by kernel_rfl) ?_
    refine WO.reslot 37 rfl (congrArg (Value.int .i64) hw1) ?_
    refine WO.vals [(6, 38, (.int .i64 (i : Int))), (7, 39, (.int .i64 (w64 ((xs.length + vs.length : Nat) - (i : Int)))))] (by kernel_rfl) (fun _ => by kernel_rfl) ?_
    refine WO.reslot 39 rfl (congrArg (Value.int .i64) hw3) ?_
    refine WO.appendMake (T := 9) (b := 16) (zs := #[(.string (⟨#[]⟩ : ByteArray))]) (kn := .i64) hS hS.drew.rd0 (h.sl.take i) rfl (by kernel_rfl) rfl (by kernel_rfl) (by kernel_rfl) (by kernel_rfl) rfl rfl rfl (by rw [htl]; rfl) (k := xs.length + vs.length - i) rfl (by omega) (by rw [htl]; omega) (by rw [htl, show i + (xs.length + vs.length - i) = xs.length + vs.length by omega]; exact hfit) (fun _ _ _ => trivial) ?_
    intro w1 nb G d cs1 hS1 hc1 hh1 hG1 hG2 hG3
    have hc1l := hc1.len
    rw [htl] at hG1 hc1l
    refine WO.reslot 40 rfl (v := .slice (some ⟨nb, 0, none⟩) (xs.length + vs.length) G) (by rw [htl, show i + (xs.length + vs.length - i) = xs.length + vs.length by omega]) ?_
    refine WO.vals [(9, 9, (.slice (some ⟨nb, 0, none⟩) (xs.length + vs.length) G))] (by kernel_rfl) (fun _ => by kernel_rfl) ?_
    refine WO.nil ?_
    refine En.next ?_
    have hGn : (xs.length + vs.length) * 1 ≤ G * 1 := Nat.mul_le_mul_right _ (by omega)
    refine W.seq ?_
    refine W.region (l := [0, 1, 2, 3, 4]) (by kernel_rfl) ?_
    refine WO.vals [(0, 41, (.slice (some ⟨nb, 0, none⟩) (xs.length + vs.length) G)), (1, 42, (.int .i64 (i : Int)))] (by kernel_rfl) (fun _ => by kernel_rfl) ?_
    refine WO.sliceB (e := 9) (sz := 1) rfl (by kernel_rfl) (by kernel_rfl) (by kernel_rfl) rfl i (xs.length + vs.length) (.inr ⟨_, _, rfl, rfl⟩) (.inl ⟨rfl, rfl⟩) (by omega) (by omega) (by omega) ?_
    refine WO.vals [(3, 44, (.slice (some ⟨b2, o2, none⟩) vs.length vc))] (by kernel_rfl) (fun _ => by kernel_rfl) ?_
    refine WO.copyN (T := 9) (sz := 1) (e := 9) hS1 rfl (by kernel_rfl) rfl (by kernel_rfl) (by kernel_rfl) rfl rfl csv (by rw [hcvl]; congr 1; simp only [Nat.min_def]; split <;> omega) (fun x hx j v hj => by injection hx with hx; subst hx; rw [add_plain]; exact hrv w1 (hS1.rd (.tail _ (.tail _ (.head _)))) j v hj) (fun hx => by cases hx) hcv.one (by rw [hcvl]; omega) (fun _ _ => trivial) ?_
    intro w2 hS2
    refine WO.nil ?_
    refine En.next ?_
    refine W.seq ?_
    have hS3 := hS2.drew
    refine W.draw (l := [0, 1, 2, 3, 4, 5, 6, 7, 8]) (by kernel_rfl) 8 (KR I []) qR (.back (by kernel_rfl)) (by kernel_rfl) (KR.nil hS3.im) ?_
    generalize World.drew _ = w3 at *
    refine WO.vals [(0, 46, (.slice (some ⟨nb, 0, none⟩) (xs.length + vs.length) G)), (1, 47, (.int .i64 (i : Int))), (2, 48, (.int .i64 (vs.length : Int))), (3, 49, (.int .i64 (w64 ((i : Int) + (vs.length : Int)))))] (by kernel_rfl) (fun _ => by kernel_rfl) ?_
    refine WO.reslot 49 rfl (congrArg (Value.int .i64) hw2) ?_
    refine WO.sliceB (e := 9) (sz := 1) rfl (by kernel_rfl) (by kernel_rfl) (by kernel_rfl) rfl (i + vs.length) (xs.length + vs.length) (.inr ⟨_, _, rfl, rfl⟩) (.inl ⟨rfl, rfl⟩) (by omega) (by omega) (by omega) ?_
    refine WO.vals [(5, 51, (.slice (some ⟨b, off, none⟩) xs.length cap)), (6, 52, (.int .i64 (i : Int)))] (by kernel_rfl) (fun _ => by kernel_rfl) ?_
    refine WO.sliceB (e := 9) (sz := 1) rfl (by kernel_rfl) (by kernel_rfl) (by kernel_rfl) rfl i xs.length (.inr ⟨_, _, rfl, rfl⟩) (.inl ⟨rfl, rfl⟩) (by omega) (by omega) (by omega) ?_
    refine WO.tail rfl ?_
    have hdl : (csx.drop (i * 1)).length = (xs.length - i) * 1 := by rw [List.length_drop, hcxl, Nat.sub_mul]
    refine WO.copyN (T := 9) (sz := 1) (e := 9) hS3 rfl (by kernel_rfl) rfl (by kernel_rfl) (by kernel_rfl) rfl rfl (csx.drop (i * 1)) (by rw [hdl]; congr 1; simp only [Nat.min_def]; split <;> omega) (fun x hx j v hj => by
      injection hx with hx
      subst hx
      rw [List.getElem?_drop] at hj
      have := hrx w3 (hS3.rd (.tail _ (.head _))) _ v hj
      rw [add_plain, Nat.add_assoc]
      exact this) (fun hx => by cases hx) (fun v hv => hcx.one v (List.mem_of_mem_drop hv)) (by rw [hdl, wrt_size]; omega) (fun _ _ => trivial) ?_
    intro w4 hS4
    refine WO.nil ?_
    refine En.next ?_
    refine W.seq ?_
    refine W.region (l := [0, 1]) (by kernel_rfl) ?_
    refine WO.vals [(0, 55, (.slice (some ⟨nb, 0, none⟩) (xs.length + vs.length) G)), (1, 6, (.slice (some ⟨nb, 0, none⟩) (xs.length + vs.length) G))] (by kernel_rfl) (fun _ => by kernel_rfl) ?_
    refine WO.nil ?_
    refine En.next ?_
    refine W.ret ?_
    refine En.nx_ret ?_
    rw [hlen]
    refine En.ret1 rfl (.slice (some ⟨nb, 0, none⟩) (xs.length + vs.length) G) rfl ⟨_, G, _, rfl, hS4.front1.drop, ?_⟩
    refine Cel.own ((hc1.append hcv).append (hcx.drop i)) (Hol.append (Hol.append ((hh1.apart (.inl ?_)).apart (.inl ?_)) ((Hol.apart ?_ (.inl ?_)))) ?_) (by rw [hlen]; exact Nat.le_trans (by omega) hG1) hG2 (by rw [wrt_size, wrt_size]; omega)
    · rw [hc1l]; omega
    · rw [hc1l]; omega
    · rw [hc1l]; exact Hol.wrt _ (by rw [hcvl]; omega)
    · rw [hc1l, hcvl]; omega
    · have e : 0 + (cs1 ++ csv).length = 0 + (i + vs.length) * 1 := by rw [List.length_append, hc1l, hcvl, Nat.add_mul]
      rw [e]
      exact Hol.wrt _ (by rw [hdl, wrt_size]; omega)
  have hroom : xs.length + vs.length ≤ cap := by rw [hw1] at hc; simp at hc; omega
  clear hc
  have hcap : (xs.length + vs.length) * 1 ≤ cap * 1 := Nat.mul_le_mul_right _ hroom
  refine W.skip ?_
  refine En.next ?_
  refine W.seq ?_
  refine W.region (l := [0, 1, 2, 3, 4, 5]) (by kernel_rfl) ?_
  refine WO.vals [(0, 56, (.slice (some ⟨b, off, none⟩) xs.length cap)), (1, 57, (.int .i64 (xs.length : Int))), (2, 58, (.int .i64 (vs.length : Int))), (3, 59, (.int .i64 (w64 ((xs.length : Int) + (vs.length : Int)))))] (by kernel_rfl) (fun _ => by kernel_rfl) ?_
  refine WO.reslot 59 rfl (congrArg (Value.int .i64) hw1) ?_
  refine WO.sliceB (e := 9) (sz := 1) rfl (by kernel_rfl) (by kernel_rfl) (by kernel_rfl) rfl 0 (xs.length + vs.length) (.inl ⟨rfl, rfl⟩) (.inr ⟨_, _, rfl, rfl⟩) (by omega) (by omega) (by omega) ?_
  refine WO.reslot 60 rfl (v := .slice (some ⟨b, off, none⟩) (xs.length + vs.length) cap) (by rw [Nat.zero_mul, Nat.add_zero, Nat.sub_zero, Nat.sub_zero]) ?_
  refine WO.vals [(5, 0, (.slice (some ⟨b, off, none⟩) (xs.length + vs.length) cap))] (by kernel_rfl) (fun _ => by kernel_rfl) ?_
  refine WO.nil ?_
  refine En.next ?_
  refine W.seq ?_
  refine W.seq ?_
  refine W.region (l := [0, 1, 2, 3, 4, 5, 6, 7]) (by kernel_rfl) ?_
  refine WO.vals [(0, 61, (.slice (some ⟨b2, o2, none⟩) vs.length vc)), (1, 62, (.slice (some ⟨b, off, none⟩) (xs.length + vs.length) cap)), (2, 63, (.int .i64 (i : Int))), (3, 64, (.int .i64 (vs.length : Int))), (4, 65, (.int .i64 (w64 ((i : Int) + (vs.length : Int)))))] (by kernel_rfl) (fun _ => by kernel_rfl) ?_
  refine WO.reslot 65 rfl (congrArg (Value.int .i64) hw2) ?_
  refine WO.sliceB (e := 9) (sz := 1) rfl (by kernel_rfl) (by kernel_rfl) (by kernel_rfl) rfl (i + vs.length) (xs.length + vs.length) (.inr ⟨_, _, rfl, rfl⟩) (.inl ⟨rfl, rfl⟩) (by omega) (by omega) (by omega) ?_
  refine WO.extern (f := 59) (fn := Try.f59) (e := Extern.SlicesOverlaps.overlaps #[25, 25] #[4]) rfl (by kernel_rfl) rfl (by kernel_rfl) (by kernel_rfl) (by kernel_rfl) (by rfl) (args := #[.slice (some ⟨b2, o2, none⟩) vs.length vc, .slice (some ⟨b, off + (i + vs.length) * 1, none⟩) (xs.length + vs.length - (i + vs.length)) (cap - (i + vs.length))]) (by kernel_rfl) (.bool false) (fun w' hw' => ?_) ?_
  · rcases hw' with ⟨hw', _⟩ | rfl
    · cases hw'
    · exact run_over (sz := 1) (e := 9) (by kernel_rfl) (by kernel_rfl) hS (by omega) _ _ _ _
  refine WO.vals [(7, 68, (.bool true))] (by kernel_rfl) (fun _ => by kernel_rfl) ?_
  refine WO.nil ?_
  refine En.next ?_
  refine W.cond (b := true) rfl rfl (fun hc => ?_) (fun hc => ?_)
  rotate_left
  · cases hc
  clear hc
  refine W.seq ?_
  have hS1 := hS.drew
  refine W.draw (l := [0, 1, 2, 3, 4, 5, 6, 7, 8]) (by kernel_rfl) 8 (KR I []) qR (.back (by kernel_rfl)) (by kernel_rfl) (KR.nil hS1.im) ?_
  generalize World.drew _ = w1 at *
  refine WO.vals [(0, 69, (.slice (some ⟨b, off, none⟩) (xs.length + vs.length) cap)), (1, 70, (.int .i64 (i : Int))), (2, 71, (.int .i64 (vs.length : Int))), (3, 72, (.int .i64 (w64 ((i : Int) + (vs.length : Int)))))] (by kernel_rfl) (fun _ => by kernel_rfl) ?_
  refine WO.reslot 72 rfl (congrArg (Value.int .i64) hw2) ?_
  refine WO.sliceB (e := 9) (sz := 1) rfl (by kernel_rfl) (by kernel_rfl) (by kernel_rfl) rfl (i + vs.length) (xs.length + vs.length) (.inr ⟨_, _, rfl, rfl⟩) (.inl ⟨rfl, rfl⟩) (by omega) (by omega) (by omega) ?_
  refine WO.vals [(5, 74, (.slice (some ⟨b, off, none⟩) (xs.length + vs.length) cap)), (6, 75, (.int .i64 (i : Int)))] (by kernel_rfl) (fun _ => by kernel_rfl) ?_
  refine WO.sliceB (e := 9) (sz := 1) rfl (by kernel_rfl) (by kernel_rfl) (by kernel_rfl) rfl i (xs.length + vs.length) (.inr ⟨_, _, rfl, rfl⟩) (.inl ⟨rfl, rfl⟩) (by omega) (by omega) (by omega) ?_
  refine WO.tail rfl ?_
  have hdl : (csx.drop (i * 1)).length = (xs.length - i) * 1 := by rw [List.length_drop, hcxl, Nat.sub_mul]
  refine WO.copyN (T := 9) (sz := 1) (e := 9) hS1 rfl (by kernel_rfl) rfl (by kernel_rfl) (by kernel_rfl) rfl rfl (csx.drop (i * 1)) (by rw [hdl]; congr 1; simp only [Nat.min_def]; split <;> omega) (fun x hx j v hj => by
    injection hx with hx
    subst hx
    rw [List.getElem?_drop] at hj
    have := hrx w1 hS1.rd0 _ v hj
    rw [add_plain, Nat.add_assoc]
    exact this) (fun hx => by cases hx) (fun v hv => hcx.one v (List.mem_of_mem_drop hv)) (by rw [hdl]; omega) (fun _ _ => trivial) ?_
  intro w2 hS2
  refine WO.nil ?_
  refine En.next ?_
  refine W.seq ?_
  refine W.region (l := [0, 1, 2, 3, 4]) (by kernel_rfl) ?_
  refine WO.vals [(0, 78, (.slice (some ⟨b, off, none⟩) (xs.length + vs.length) cap)), (1, 79, (.int .i64 (i : Int)))] (by kernel_rfl) (fun _ => by kernel_rfl) ?_
  refine WO.sliceB (e := 9) (sz := 1) rfl (by kernel_rfl) (by kernel_rfl) (by kernel_rfl) rfl i (xs.length + vs.length) (.inr ⟨_, _, rfl, rfl⟩) (.inl ⟨rfl, rfl⟩) (by omega) (by omega) (by omega) ?_
  refine WO.vals [(3, 81, (.slice (some ⟨b2, o2, none⟩) vs.length vc))] (by kernel_rfl) (fun _ => by kernel_rfl) ?_
  refine WO.copyN (T := 9) (sz := 1) (e := 9) hS2 rfl (by kernel_rfl) rfl (by kernel_rfl) (by kernel_rfl) rfl rfl csv (by rw [hcvl]; congr 1; simp only [Nat.min_def]; split <;> omega) (fun x hx j v hj => by injection hx with hx; subst hx; rw [add_plain]; exact hrv w2 (hS2.rd (.tail _ (.head _))) j v hj) (fun hx => by cases hx) hcv.one (by rw [hcvl, wrt_size]; omega) (fun _ _ => trivial) ?_
  intro w3 hS3
  refine WO.nil ?_
  refine En.next ?_
  refine W.seq ?_
  refine W.region (l := [0, 1]) (by kernel_rfl) ?_
  refine WO.vals [(0, 83, (.slice (some ⟨b, off, none⟩) (xs.length + vs.length) cap)), (1, 6, (.slice (some ⟨b, off, none⟩) (xs.length + vs.length) cap))] (by kernel_rfl) (fun _ => by kernel_rfl) ?_
  refine WO.nil ?_
  refine En.next ?_
  refine W.ret ?_
  refine En.nx_ret ?_
  rw [hlen]
  refine En.ret1 rfl (.slice (some ⟨b, off, none⟩) (xs.length + vs.length) cap) rfl ⟨_, cap, _, rfl, hS3, ?_⟩
  have htl : (csx.take (i * 1)).length = i * 1 := by rw [List.length_take, hcxl]; omega
  refine Cel.own (((hcx.take i).append hcv).append (hcx.drop i)) (Hol.append (Hol.append (((hxh.take _).apart (.inl ?_)).apart (.inl ?_)) ?_) (Hol.apart ?_ (.inr ?_))) (by rw [hlen]; exact hroom) h.sl.lt (by rw [wrt_size, wrt_size]; exact hcs)
  · rw [htl]; omega
  · rw [htl]; omega
  · rw [htl]; exact Hol.wrt _ (by rw [hcvl, wrt_size]; omega)
  · have e : off + (csx.take (i * 1) ++ csv).length = off + (i + vs.length) * 1 := by rw [List.length_append, htl, hcvl, Nat.add_mul]
    rw [e]
    exact Hol.wrt _ (by rw [hdl]; omega)
  · rw [List.length_append, htl, hcvl]; omega

noncomputable def grantT (l : List api_Role) (i : Int) (n : ByteArray) : Option (List api_Role × Int) := open Classical in if fits l then (idx l i).bind fun x => (slices_BinarySearch_string x.In n).bind fun (k, _) => (insO 16 x.In k [n]).bind fun y => some (l.set i.toNat { x with In := y }, 0) else none
noncomputable def member_Grant (p0 : List api_Role) (p1 : ByteArray) (p2 : ByteArray) : Option ((List api_Role) × Int) := (member_Check p0).bind (fun (r6 : Int) => (bif (r6 != 0) then some (([] : List api_Role), r6) else (member_at p0 p2).bind (fun (r12 : Int) => ((bif (decide (r12 < 0)) then some true else (member_at p0 p1).bind (fun (r22 : Int) => some (decide (r22 < 0))))).bind (fun (j13 : Bool) => (bif j13 then some (([] : List api_Role), 4) else (idx p0 r12).bind (fun (x25 : api_Role) => (slices_Contains_string x25.In p1).bind (fun (r31 : Bool) => (bif r31 then some (([] : List api_Role), 19) else (member_Is p0 p1 p2).bind (fun (r37 : Bool) => (bif r37 then some (([] : List api_Role), 35) else (grantT p0 r12 p1)))))))))))
set_option maxHeartbeats 1000000 in
theorem member_Grant_ok {E w : World} {I : Mem} {Os : List Mem} {p0 : List api_Role} {p1 : ByteArray} {p2 : ByteArray} {a_p0 : Option Addr} {c_p0 : Nat} (h_p0 : RSl 2 R_api_Role I a_p0 c_p0 p0) (hS : St E w I Os) {r : (List api_Role) × Int} (hr : member_Grant p0 p1 p2 = some r) :
    Calls P 19 #[(.slice a_p0 p0.length c_p0), (.string p1), (.string p2)] w (fun e w' => ∃ (I' : Mem) (ra0 : Option Addr) (rc0 : Nat), e = .returned (.tuple #[(.slice ra0 r.1.length rc0), (.int .i64 r.2)]) ∧ I.Le I' ∧ St E w' I' Os ∧ RSl 2 R_api_Role I' ra0 rc0 r.1) := by
  refine calls_W (args := [(.slice a_p0 p0.length c_p0), (.string p1), (.string p2)]) (fn := Try.f19) rfl rfl rfl ?_
  unfold member_Grant at hr
  refine W.seq ?_
  refine W.region (l := [0, 1]) (by kernel_rfl) ?_
  refine WO.vals [(0, 6, (.slice none 0 0)), (1, 7, (.int .i64 0))] (by kernel_rfl) (fun _ => by kernel_rfl) ?_
  refine WO.nil ?_
  refine En.next ?_
  refine W.seq ?_
  refine W.seq ?_
  refine W.region (l := [0, 1, 2]) (by kernel_rfl) ?_
  refine WO.vals [(0, 13, (.slice a_p0 p0.length c_p0))] (by kernel_rfl) (fun _ => by kernel_rfl) ?_
  obtain ⟨r6, hx_r1, hr⟩ := bind_some hr
  refine WO.call rfl (by kernel_rfl) rfl (f := 18) (args := #[(.slice a_p0 p0.length c_p0)]) (by kernel_rfl) (member_Check_ok h_p0 hS hx_r1) ?_
  rintro _ w2 ⟨I3, rfl, hl4, hS5⟩
  refine ⟨_, rfl, trivial, ?_⟩
  refine WO.vals [(2, 8, (.int .i64 r6))] (by kernel_rfl) (fun _ => by kernel_rfl) ?_
  refine WO.nil ?_
  refine En.next ?_
  refine W.seq ?_
  refine W.region (l := [0, 1]) (by kernel_rfl) ?_
  refine WO.vals [(0, 15, (.int .i64 r6)), (1, 16, (.bool (r6 != 0)))] (by kernel_rfl) (fun _ => by kernel_rfl) ?_
  refine WO.nil ?_
  refine En.next ?_
  refine W.cond (b := (r6 != 0)) rfl rfl (fun hc => ?_) (fun hc => ?_)
  · replace hr := cond_t hc hr
    refine W.seq ?_
    refine W.region (l := [0, 1, 2]) (by kernel_rfl) ?_
    refine WO.vals [(0, 17, (.int .i64 r6)), (1, 6, (.slice none 0 0)), (2, 7, (.int .i64 r6))] (by kernel_rfl) (fun _ => by kernel_rfl) ?_
    refine WO.nil ?_
    refine En.next ?_
    refine W.ret ?_
    refine En.nx_ret ?_
    have he := Option.some.inj hr
    subst r
    exact En.ret2 rfl (.slice none 0 0) (.int .i64 r6) rfl rfl ⟨I3, none, 0, rfl, hl4, hS5, SlAt.nil⟩
  · replace hr := cond_f hc hr
    refine W.skip ?_
    refine En.next ?_
    refine W.seq ?_
    refine W.region (l := [0, 1, 2, 3]) (by kernel_rfl) ?_
    refine WO.vals [(0, 18, (.slice a_p0 p0.length c_p0)), (1, 19, (.string p2))] (by kernel_rfl) (fun _ => by kernel_rfl) ?_
    obtain ⟨r12, hx_r7, hr⟩ := bind_some hr
    refine WO.call rfl (by kernel_rfl) rfl (f := 23) (args := #[(.slice a_p0 p0.length c_p0), (.string p2)]) (by kernel_rfl) (member_at_ok (RSl.mono h_p0 hl4) hS5 hx_r7) ?_
    rintro _ w8 ⟨I9, rfl, hl10, hS11⟩
    refine ⟨_, rfl, trivial, ?_⟩
    refine WO.vals [(3, 9, (.int .i64 r12))] (by kernel_rfl) (fun _ => by kernel_rfl) ?_
    refine WO.nil ?_
    refine En.next ?_
    refine W.seq ?_
    refine W.block ?_
    refine W.seq ?_
    refine W.region (l := [0, 1, 2, 3, 4, 5, 6, 7, 8]) (by kernel_rfl) ?_
    refine WO.vals [(0, 22, (.int .i64 r12)), (1, 23, (.bool (decide (r12 < 0)))), (2, 24, (.bool (decide (r12 < 0))))] (by kernel_rfl) (fun _ => by kernel_rfl) ?_
    obtain ⟨j13, hr1, hr⟩ := bind_some hr
    refine WO.join (l1 := [3, 4, 5, 6, 7]) (l2 := [8]) (J := (fun fr w => ∃ (I15 : Mem), fr = [(0, (.slice a_p0 p0.length c_p0)), (1, (.string p1)), (2, (.string p2)), (9, (.int .i64 r12)), (29, (.bool j13))] ∧ I9.Le I15 ∧ St E w I15 Os)) ?restj13 ?waysj13
    case waysj13 =>
      refine WO.caseb (decide (r12 < 0)) (fun hc => ?_) (fun hc => ?_)
      · replace hr1 := cond_t hc hr1
        refine WO.reslot 24 rfl (show Value.bool (decide (r12 < 0)) = Value.bool true by rw [hc]) ?_
        refine WO.pass rfl (by kernel_rfl) rfl ?_
        refine WO.pass rfl (by kernel_rfl) rfl ?_
        refine WO.pass rfl (by kernel_rfl) rfl ?_
        refine WO.pass rfl (by kernel_rfl) rfl ?_
        refine WO.vals [(7, 29, (.bool true))] (by kernel_rfl) (fun _ => by kernel_rfl) ?_
        have he := Option.some.inj hr1
        subst j13
        refine WO.weaken (fr' := [(0, (.slice a_p0 p0.length c_p0)), (1, (.string p1)), (2, (.string p2)), (9, (.int .i64 r12)), (29, (.bool true))]) (WO.meet ⟨I9, rfl, Mem.Le.refl _, hS11⟩) (Sub.cons rfl (Sub.cons rfl (Sub.cons rfl (Sub.cons rfl (Sub.cons rfl Sub.nil)))))
      · replace hr1 := cond_f hc hr1
        refine WO.reslot 24 rfl (show Value.bool (decide (r12 < 0)) = Value.bool false by rw [hc]) ?_
        refine WO.vals [(3, 25, (.slice a_p0 p0.length c_p0)), (4, 26, (.string p1))] (by kernel_rfl) (fun _ => by kernel_rfl) ?_
        obtain ⟨r22, hx_r17, hr1⟩ := bind_some hr1
        refine WO.call rfl (by kernel_rfl) rfl (f := 23) (args := #[(.slice a_p0 p0.length c_p0), (.string p1)]) (by kernel_rfl) (member_at_ok (RSl.mono h_p0 (hl4.trans hl10)) hS11 hx_r17) ?_
        rintro _ w18 ⟨I19, rfl, hl20, hS21⟩
        refine ⟨_, rfl, trivial, ?_⟩
        refine WO.vals [(6, 28, (.bool (decide (r22 < 0)))), (7, 29, (.bool (decide (r22 < 0))))] (by kernel_rfl) (fun _ => by kernel_rfl) ?_
        have he := Option.some.inj hr1
        subst j13
        refine WO.weaken (fr' := [(0, (.slice a_p0 p0.length c_p0)), (1, (.string p1)), (2, (.string p2)), (9, (.int .i64 r12)), (29, (.bool (decide (r22 < 0))))]) (WO.meet ⟨I19, rfl, hl20, hS21⟩) (Sub.cons rfl (Sub.cons rfl (Sub.cons rfl (Sub.cons rfl (Sub.cons rfl Sub.nil)))))
    case restj13 =>
      rintro _ w23 ⟨I15, rfl, hl16, hS24⟩
      refine WO.vals [(8, 21, (.bool j13))] (by kernel_rfl) (fun _ => by kernel_rfl) ?_
      refine WO.nil ?_
      refine En.next ?_
      refine W.cond (b := j13) rfl rfl (fun hc => ?_) (fun hc => ?_)
      · replace hr := cond_t hc hr
        refine W.seq ?_
        refine W.region (l := [0, 1]) (by kernel_rfl) ?_
        refine WO.vals [(0, 6, (.slice none 0 0)), (1, 7, (.int .i64 4))] (by kernel_rfl) (fun _ => by kernel_rfl) ?_
        refine WO.nil ?_
        refine En.next ?_
        refine W.ret ?_
        refine En.in_ret ?_
        refine En.nx_ret ?_
        have he := Option.some.inj hr
        subst r
        exact En.ret2 rfl (.slice none 0 0) (.int .i64 4) rfl rfl ⟨I15, none, 0, rfl, ((hl4.trans hl10).trans hl16), hS24, SlAt.nil⟩
      · replace hr := cond_f hc hr
        refine W.seq ?_
        refine W.region (l := [0, 1, 2, 3, 4, 5, 6, 7]) (by kernel_rfl) ?_
        refine WO.vals [(0, 31, (.slice a_p0 p0.length c_p0)), (1, 32, (.int .i64 r12))] (by kernel_rfl) (fun _ => by kernel_rfl) ?_
        obtain ⟨x25, hx_x25, hr⟩ := bind_some hr
        obtain ⟨h0_x25, h1_x25, hx_x25⟩ := idx_some hx_x25
        obtain ⟨ha_x25, cs_x25, hn_x25, hr_x25, hc_x25⟩ := ((RSl.mono h_p0 ((hl4.trans hl10).trans hl16))).el _ _ hx_x25
        obtain ⟨w_x25, rfl, h_x25⟩ := hr_x25
        refine WO.indexAddr (e := 27) (sz := 2) rfl (by kernel_rfl) (by kernel_rfl) (by kernel_rfl) rfl ha_x25 rfl h0_x25 h1_x25 ?_
        refine WO.vals [(3, 34, (.pointer (some ⟨bl a_p0, of a_p0 + (r12).toNat * 2 + 1, none⟩)))] (by kernel_rfl) (fun _ => by kernel_rfl) ?_
        refine WO.load rfl (by kernel_rfl) (by kernel_rfl) rfl (v := (.slice w_x25.In.a x25.In.length w_x25.In.c)) (fun w' hw' => hc_x25.cellk 1 (by kernel_rfl) ((rd_f hS24.im) w' hw')) ?_
        refine WO.vals [(5, 36, (.string p1))] (by kernel_rfl) (fun _ => by kernel_rfl) ?_
        obtain ⟨r31, hx_r26, hr⟩ := bind_some hr
        refine WO.call rfl (by kernel_rfl) rfl (f := 29) (args := #[(.slice w_x25.In.a x25.In.length w_x25.In.c), (.string p1)]) (by kernel_rfl) (slices_Contains_string_ok h_x25.In hS24 hx_r26) ?_
        rintro _ w27 ⟨I28, rfl, hl29, hS30⟩
        refine ⟨_, rfl, trivial, ?_⟩
        refine WO.vals [(7, 30, (.bool r31))] (by kernel_rfl) (fun _ => by kernel_rfl) ?_
        refine WO.nil ?_
        refine En.next ?_
        refine W.cond (b := r31) rfl rfl (fun hc => ?_) (fun hc => ?_)
        · replace hr := cond_t hc hr
          refine W.seq ?_
          refine W.region (l := [0, 1]) (by kernel_rfl) ?_
          refine WO.vals [(0, 6, (.slice none 0 0)), (1, 7, (.int .i64 19))] (by kernel_rfl) (fun _ => by kernel_rfl) ?_
          refine WO.nil ?_
          refine En.next ?_
          refine W.ret ?_
          refine En.in_ret ?_
          refine En.nx_ret ?_
          have he := Option.some.inj hr
          subst r
          exact En.ret2 rfl (.slice none 0 0) (.int .i64 19) rfl rfl ⟨I28, none, 0, rfl, (((hl4.trans hl10).trans hl16).trans hl29), hS30, SlAt.nil⟩
        · replace hr := cond_f hc hr
          refine W.seq ?_
          refine W.region (l := [0, 1, 2, 3, 4]) (by kernel_rfl) ?_
          refine WO.vals [(0, 39, (.slice a_p0 p0.length c_p0)), (1, 40, (.string p1)), (2, 41, (.string p2))] (by kernel_rfl) (fun _ => by kernel_rfl) ?_
          obtain ⟨r37, hx_r32, hr⟩ := bind_some hr
          refine WO.call rfl (by kernel_rfl) rfl (f := 14) (args := #[(.slice a_p0 p0.length c_p0), (.string p1), (.string p2)]) (by kernel_rfl) (member_Is_ok (RSl.mono h_p0 (((hl4.trans hl10).trans hl16).trans hl29)) hS30 hx_r32) ?_
          rintro _ w33 ⟨I34, rfl, hl35, hS36⟩
          refine ⟨_, rfl, trivial, ?_⟩
          refine WO.vals [(4, 38, (.bool r37))] (by kernel_rfl) (fun _ => by kernel_rfl) ?_
          refine WO.nil ?_
          refine En.next ?_
          refine W.cond (b := r37) rfl rfl (fun hc => ?_) (fun hc => ?_)
          · replace hr := cond_t hc hr
            refine W.seq ?_
            refine W.region (l := [0, 1]) (by kernel_rfl) ?_
            refine WO.vals [(0, 6, (.slice none 0 0)), (1, 7, (.int .i64 35))] (by kernel_rfl) (fun _ => by kernel_rfl) ?_
            refine WO.nil ?_
            refine En.next ?_
            refine W.ret ?_
            refine En.in_ret ?_
            refine En.nx_ret ?_
            have he := Option.some.inj hr
            subst r
            exact En.ret2 rfl (.slice none 0 0) (.int .i64 35) rfl rfl ⟨I34, none, 0, rfl, ((((hl4.trans hl10).trans hl16).trans hl29).trans hl35), hS36, SlAt.nil⟩
          · replace hr := cond_f hc hr
            refine W.skip ?_
            refine En.in_normal ?_
            refine En.next ?_
            refine W.seq ?_
            refine W.region (l := [0, 1, 2]) (by kernel_rfl) ?_
            refine WO.vals [(0, 43, (.slice a_p0 p0.length c_p0))] (by kernel_rfl) (fun _ => by kernel_rfl) ?_
            have hr0 := hr
            unfold grantT at hr0
            split at hr0
            rotate_left
            · cases hr0
            rename_i hfit
            obtain ⟨x0, hx0, hr0⟩ := bind_some hr0
            obtain ⟨i0, i1, hx0⟩ := idx_some hx0
            obtain ⟨⟨k0, f0⟩, hk0, hr0⟩ := bind_some hr0
            obtain ⟨y0, hy0, hr0⟩ := bind_some hr0
            obtain ⟨kn, rfl, j1, j2, rfl⟩ := insO_some hy0
            have he := Option.some.inj hr0
            subst he
            refine WO.call rfl (by kernel_rfl) rfl (f := 39) (args := #[(.slice a_p0 p0.length c_p0)]) (by kernel_rfl) (clone2_ok (RSl.mono h_p0 ((((hl4.trans hl10).trans hl16).trans hl29).trans hl35)) hS36 hfit) ?_
            rintro _ qw1 ⟨QI1, a, c, C, rs, Ds, rfl, ql1, qS1, ho1, hn1⟩
            refine ⟨_, rfl, trivial, ?_⟩
            refine WO.vals [(2, 10, (.slice a p0.length c))] (by kernel_rfl) (fun _ => by kernel_rfl) ?_
            refine WO.nil ?_
            refine En.next ?_
            refine W.seq ?_
            obtain ⟨r1, D1, e1, e2, g1, g2, g3⟩ := hn1.get hx0
            have hlt := (List.getElem?_eq_some_iff.1 e2).1
            refine W.region (l := [0, 1, 2, 3, 4, 5, 6, 7, 8, 9, 10, 11]) (by kernel_rfl) ?_
            refine WO.vals [(0, 46, (.slice a p0.length c)), (1, 47, (.int .i64 r12))] (by kernel_rfl) (fun _ => by kernel_rfl) ?_
            obtain ⟨ha, cs, hcn, hrr, hcc⟩ := ho1.sl.el _ _ e1
            obtain rfl := hrr
            refine WO.indexAddr (e := 27) (sz := 2) rfl (by kernel_rfl) (by kernel_rfl) (by kernel_rfl) rfl ha rfl i0 i1 ?_
            refine WO.vals [(3, 49, (.pointer (some ⟨bl a, of a + (r12).toNat * 2 + 1, none⟩)))] (by kernel_rfl) (fun _ => by kernel_rfl) ?_
            refine WO.load rfl (by kernel_rfl) (by kernel_rfl) rfl (v := (.slice r1.a r1.n r1.c)) (fun w' hw' => hcc.cellk 1 (by kernel_rfl) ((rd_f (qS1.rd (List.Mem.head _))) w' hw')) ?_
            rw [g2]
            refine WO.vals [(5, 51, (.string p1))] (by kernel_rfl) (fun _ => by kernel_rfl) ?_
            have qS1p := st_pick qS1 e2
            refine WO.call rfl (by kernel_rfl) rfl (f := 40) (args := #[(.slice r1.a x0.In.length r1.c), (.string p1)]) (by kernel_rfl) (slices_BinarySearch_string_ok (g3.publish qS1p) qS1p.publish hk0) ?_
            rintro _ qw2 ⟨QI2, rfl, ql2, qS3⟩
            have qS4 := St.back qS1p ql2 qS3
            refine ⟨_, rfl, trivial, ?_⟩
            refine WO.vals [(7, 45, (.tuple #[(.int .i64 (kn : Int)), (.bool f0)])), (8, 53, (.int .i64 (kn : Int))), (9, 54, (.bool f0)), (10, 11, (.int .i64 (kn : Int))), (11, 12, (.bool f0))] (by kernel_rfl) (fun _ => by kernel_rfl) ?_
            refine WO.nil ?_
            refine En.next ?_
            refine W.seq ?_
            refine W.region (l := [0, 1, 2, 3, 4, 5, 6, 7, 8, 9, 10, 11, 12, 13]) (by kernel_rfl) ?_
            refine WO.vals [(0, 55, (.slice a p0.length c)), (1, 56, (.int .i64 r12)), (2, 57, (.slice a p0.length c)), (3, 58, (.int .i64 r12))] (by kernel_rfl) (fun _ => by kernel_rfl) ?_
            refine WO.indexAddr (e := 27) (sz := 2) rfl (by kernel_rfl) (by kernel_rfl) (by kernel_rfl) rfl ha rfl i0 i1 ?_
            refine WO.vals [(5, 60, (.pointer (some ⟨bl a, of a + (r12).toNat * 2 + 1, none⟩)))] (by kernel_rfl) (fun _ => by kernel_rfl) ?_
            refine WO.load rfl (by kernel_rfl) (by kernel_rfl) rfl (v := (.slice r1.a r1.n r1.c)) (fun w' hw' => hcc.cellk 1 (by kernel_rfl) ((rd_f (qS4.rd (List.Mem.tail _ (List.Mem.head _)))) w' hw')) ?_
            rw [g2]
            refine WO.vals [(7, 62, (.int .i64 (kn : Int))), (8, 63, (.string p1))] (by kernel_rfl) (fun _ => by kernel_rfl) ?_
            refine WO.newSlice (rel := RStr) (xs := ([p1] : List ByteArray)) qS4 rfl (by kernel_rfl) rfl 9 1 [[(.string p1)]] (by kernel_rfl) rfl (Elr.cons rfl Elr.nil) (fun _ _ _ => trivial) ?_
            intro va V qw3 qS5 hv
            refine WO.call rfl (by kernel_rfl) rfl (f := 41) (args := #[(.slice r1.a x0.In.length r1.c), (.int .i64 (kn : Int)), (.slice va ([p1] : List ByteArray).length 1)]) (by kernel_rfl) (ins41_ok g3 hv qS5.front1 (i := kn) j1 (by simp) j2) ?_
            rintro _ qw4 ⟨a2, c2, D2, rfl, qS6, h6⟩
            refine ⟨_, rfl, trivial, ?_⟩
            refine WO.indexAddr (e := 27) (sz := 2) rfl (by kernel_rfl) (by kernel_rfl) (by kernel_rfl) rfl ha rfl i0 i1 ?_
            refine WO.vals [(12, 67, (.pointer (some ⟨bl a, of a + (r12).toNat * 2 + 1, none⟩)))] (by kernel_rfl) (fun _ => by kernel_rfl) ?_
            have qS7 := st_unpick qS6.front1.drop hlt
            refine WO.storeOwn (m := (r12).toNat) qS7 ho1 rfl (by kernel_rfl) rfl e1 (u' := { r1 with a := a2, c := c2, n := (x0.In.take kn ++ [p1] ++ x0.In.drop kn).length }) 1 rfl rfl (by kernel_rfl) rfl rfl (fun cs hrel => (by obtain rfl := hrel; rfl)) (fun _ _ _ => trivial) ?_
            intro qw5 C5 qS8 ho8
            refine WO.nil ?_
            refine En.next ?_
            refine W.seq ?_
            refine W.region (l := [0, 1, 2]) (by kernel_rfl) ?_
            refine WO.vals [(0, 68, (.slice a p0.length c)), (1, 6, (.slice a p0.length c)), (2, 7, (.int .i64 0))] (by kernel_rfl) (fun _ => by kernel_rfl) ?_
            refine WO.nil ?_
            refine En.next ?_
            refine W.ret ?_
            obtain ⟨QI9, ql9, qS9, hp9⟩ := (hn1.set (r12).toNat (r := { r1 with a := a2, c := c2, n := (x0.In.take kn ++ [p1] ++ x0.In.drop kn).length }) (D := D2) (x := { x0 with In := x0.In.take kn ++ [p1] ++ x0.In.drop kn }) g1 rfl h6).pub ho8 qS8
            exact En.ret2 rfl (.slice a p0.length c) (.int .i64 0) rfl rfl ⟨QI9, a, c, by simp only [List.length_set], ((((hl4.trans hl10).trans hl16).trans hl29).trans hl35).trans (ql1.trans ql9), qS9, hp9⟩
noncomputable def registrarlaw18_works  : Option Bool := (member_Grant ([(⟨(⟨#[97]⟩ : ByteArray), ([(⟨#[98]⟩ : ByteArray)] : List ByteArray)⟩ : api_Role), (⟨(⟨#[98]⟩ : ByteArray), ([(⟨#[99]⟩ : ByteArray)] : List ByteArray)⟩ : api_Role), { z_api_Role with Name := (⟨#[99]⟩ : ByteArray) }] : List api_Role) (⟨#[97]⟩ : ByteArray) (⟨#[99]⟩ : ByteArray)).bind (fun ((r42, r43) : (List api_Role) × Int) => (member_Check ([(⟨(⟨#[97]⟩ : ByteArray), ([(⟨#[98]⟩ : ByteArray)] : List ByteArray)⟩ : api_Role), (⟨(⟨#[98]⟩ : ByteArray), ([(⟨#[99]⟩ : ByteArray)] : List ByteArray)⟩ : api_Role), { z_api_Role with Name := (⟨#[99]⟩ : ByteArray) }] : List api_Role)).bind (fun (r49 : Int) => ((bif ((r49 == 0) && (r43 == 35)) then (member_All ([(⟨(⟨#[97]⟩ : ByteArray), ([(⟨#[98]⟩ : ByteArray)] : List ByteArray)⟩ : api_Role), (⟨(⟨#[98]⟩ : ByteArray), ([(⟨#[99]⟩ : ByteArray)] : List ByteArray)⟩ : api_Role), { z_api_Role with Name := (⟨#[99]⟩ : ByteArray) }] : List api_Role) (⟨#[97]⟩ : ByteArray)).bind (fun (r61 : List ByteArray) => some ((r61.length : Int) == 3)) else some false)).bind (fun (j52 : Bool) => ((bif j52 then (member_Is ([(⟨(⟨#[97]⟩ : ByteArray), ([(⟨#[98]⟩ : ByteArray)] : List ByteArray)⟩ : api_Role), (⟨(⟨#[98]⟩ : ByteArray), ([(⟨#[99]⟩ : ByteArray)] : List ByteArray)⟩ : api_Role), { z_api_Role with Name := (⟨#[99]⟩ : ByteArray) }] : List api_Role) (⟨#[97]⟩ : ByteArray) (⟨#[99]⟩ : ByteArray)).bind (fun (r73 : Bool) => some r73) else some false)).bind (fun (j64 : Bool) => ((bif j64 then (member_Is ([(⟨(⟨#[97]⟩ : ByteArray), ([(⟨#[98]⟩ : ByteArray)] : List ByteArray)⟩ : api_Role), (⟨(⟨#[98]⟩ : ByteArray), ([(⟨#[99]⟩ : ByteArray)] : List ByteArray)⟩ : api_Role), { z_api_Role with Name := (⟨#[99]⟩ : ByteArray) }] : List api_Role) (⟨#[99]⟩ : ByteArray) (⟨#[97]⟩ : ByteArray)).bind (fun (r85 : Bool) => some (!r85)) else some false)).bind (fun (j76 : Bool) => some j76)))))
set_option maxHeartbeats 1000000 in
theorem registrarlaw18_works_ok {E w : World} {I : Mem} {Os : List Mem} (hS : St E w I Os) {r : Bool} (hr : registrarlaw18_works = some r) :
    Calls P 7 #[] w (fun e w' => ∃ (I' : Mem), e = .returned (.bool r) ∧ I.Le I' ∧ St E w' I' Os) := by
  refine calls_W (args := []) (fn := Try.f7) rfl rfl rfl ?_
  unfold registrarlaw18_works at hr
  refine W.seq ?_
  refine W.region (l := [0]) (by kernel_rfl) ?_
  refine WO.vals [(0, 0, (.bool false))] (by kernel_rfl) (fun _ => by kernel_rfl) ?_
  refine WO.nil ?_
  refine En.next ?_
  refine W.seq ?_
  refine W.region (l := [0, 1, 2, 3, 4, 5, 6]) (by kernel_rfl) ?_
  refine WO.newSlice (rel := RStr) (xs := ([(⟨#[98]⟩ : ByteArray)] : List ByteArray)) hS rfl (by kernel_rfl) rfl 9 1 [[(.string (⟨#[98]⟩ : ByteArray))]] (by kernel_rfl) rfl ((Elr.cons rfl Elr.nil)) (fun _ _ _ => trivial) ?_
  intro a4 C2 w6 hS5 ho3
  obtain ⟨I8, hl9, hS11, hp10⟩ := OwnSl.pub ho3 hS5
  refine WO.vals [(1, 5, (.agg #[(.string (⟨#[97]⟩ : ByteArray)), (.slice a4 1 1)]))] (by kernel_rfl) (fun _ => by kernel_rfl) ?_
  refine WO.newSlice (rel := RStr) (xs := ([(⟨#[99]⟩ : ByteArray)] : List ByteArray)) hS11 rfl (by kernel_rfl) rfl 9 1 [[(.string (⟨#[99]⟩ : ByteArray))]] (by kernel_rfl) rfl ((Elr.cons rfl Elr.nil)) (fun _ _ _ => trivial) ?_
  intro a15 C13 w17 hS16 ho14
  obtain ⟨I19, hl20, hS22, hp21⟩ := OwnSl.pub ho14 hS16
  refine WO.vals [(3, 7, (.agg #[(.string (⟨#[98]⟩ : ByteArray)), (.slice a15 1 1)])), (4, 8, (.agg (cs_api_Role ({ z_api_Role with Name := (⟨#[99]⟩ : ByteArray) }) zw_api_Role).toArray))] (by kernel_rfl) (fun _ => by kernel_rfl) ?_
  have hk30 : ok_api_Role I19 (⟨(⟨#[97]⟩ : ByteArray), ([(⟨#[98]⟩ : ByteArray)] : List ByteArray)⟩ : api_Role) (⟨⟨a4, 1⟩⟩ : W_api_Role) := ⟨(RSl.mono hp10 hl20)⟩
  have hk31 : ok_api_Role I19 (⟨(⟨#[98]⟩ : ByteArray), ([(⟨#[99]⟩ : ByteArray)] : List ByteArray)⟩ : api_Role) (⟨⟨a15, 1⟩⟩ : W_api_Role) := ⟨hp21⟩
  have hk32 : ok_api_Role I19 ({ z_api_Role with Name := (⟨#[99]⟩ : ByteArray) }) zw_api_Role := ⟨SlAt.nil⟩
  refine WO.newSlice (rel := R_api_Role) (xs := ([(⟨(⟨#[97]⟩ : ByteArray), ([(⟨#[98]⟩ : ByteArray)] : List ByteArray)⟩ : api_Role), (⟨(⟨#[98]⟩ : ByteArray), ([(⟨#[99]⟩ : ByteArray)] : List ByteArray)⟩ : api_Role), { z_api_Role with Name := (⟨#[99]⟩ : ByteArray) }] : List api_Role)) hS22 rfl (by kernel_rfl) rfl 27 2 [[(.string (⟨#[97]⟩ : ByteArray)), (.slice a4 1 1)], [(.string (⟨#[98]⟩ : ByteArray)), (.slice a15 1 1)], (cs_api_Role ({ z_api_Role with Name := (⟨#[99]⟩ : ByteArray) }) zw_api_Role)] (by kernel_rfl) rfl ((Elr.cons ⟨(⟨⟨a4, 1⟩⟩ : W_api_Role), rfl, hk30⟩ (Elr.cons ⟨(⟨⟨a15, 1⟩⟩ : W_api_Role), rfl, hk31⟩ (Elr.cons ⟨zw_api_Role, rfl, hk32⟩ Elr.nil)))) (fun _ _ _ => trivial) ?_
  intro a26 C24 w28 hS27 ho25
  obtain ⟨I33, hl34, hS36, hp35⟩ := OwnSl.pub ho25 hS27
  refine WO.vals [(6, 1, (.slice a26 3 3))] (by kernel_rfl) (fun _ => by kernel_rfl) ?_
  refine WO.nil ?_
  refine En.next ?_
  refine W.seq ?_
  refine W.region (l := [0, 1, 2, 3, 4, 5, 6]) (by kernel_rfl) ?_
  refine WO.vals [(0, 11, (.slice a26 3 3))] (by kernel_rfl) (fun _ => by kernel_rfl) ?_
  obtain ⟨⟨r42, r43⟩, hx_r37, hr⟩ := bind_some hr
  refine WO.call rfl (by kernel_rfl) rfl (f := 19) (args := #[(.slice a26 3 3), (.string (⟨#[97]⟩ : ByteArray)), (.string (⟨#[99]⟩ : ByteArray))]) (by kernel_rfl) (member_Grant_ok hp35 hS36 hx_r37) ?_
  rintro _ w38 ⟨I39, a_r42, c_r42, rfl, hl40, hS41, h_r42⟩
  refine ⟨_, rfl, trivial, ?_⟩
  refine WO.vals [(2, 10, (.tuple #[(.slice a_r42 r42.length c_r42), (.int .i64 r43)])), (3, 13, (.slice a_r42 r42.length c_r42)), (4, 14, (.int .i64 r43)), (5, 2, (.slice a_r42 r42.length c_r42)), (6, 3, (.int .i64 r43))] (by kernel_rfl) (fun _ => by kernel_rfl) ?_
  refine WO.nil ?_
  refine En.next ?_
  refine W.seq ?_
  refine W.region (l := [0, 1, 2, 3, 4, 5, 6, 7, 8, 9, 10, 11, 12, 13, 14, 15, 16, 17, 18, 19, 20, 21, 22]) (by kernel_rfl) ?_
  refine WO.vals [(0, 15, (.slice a26 3 3))] (by kernel_rfl) (fun _ => by kernel_rfl) ?_
  obtain ⟨r49, hx_r44, hr⟩ := bind_some hr
  refine WO.call rfl (by kernel_rfl) rfl (f := 18) (args := #[(.slice a26 3 3)]) (by kernel_rfl) (member_Check_ok (RSl.mono hp35 hl40) hS41 hx_r44) ?_
  rintro _ w45 ⟨I46, rfl, hl47, hS48⟩
  refine ⟨_, rfl, trivial, ?_⟩
  refine WO.vals [(2, 17, (.bool (r49 == 0))), (3, 18, (.bool (r49 == 0)))] (by kernel_rfl) (fun _ => by kernel_rfl) ?_
  refine WO.join (l1 := [4, 5, 6]) (l2 := [7, 8, 9, 10, 11, 12, 13, 14, 15, 16, 17, 18, 19, 20, 21, 22]) (J := fun frx wx => frx = [(21, (.bool ((r49 == 0) && (r43 == 35)))), (1, (.slice a26 3 3))] ∧ w45 = wx) ?restm50 ?waysm50
  case waysm50 =>
    refine WO.caseb (r49 == 0) (fun hc => ?_) (fun hc => ?_)
    · skip
      refine WO.reslot 18 rfl (show Value.bool (r49 == 0) = Value.bool true by rw [hc]) ?_
      refine WO.vals [(4, 19, (.int .i64 r43)), (5, 20, (.bool (r43 == 35))), (6, 21, (.bool (r43 == 35)))] (by kernel_rfl) (fun _ => by kernel_rfl) ?_
      refine WO.weaken (fr' := [(21, (.bool ((r49 == 0) && (r43 == 35)))), (1, (.slice a26 3 3))]) (WO.meet ⟨rfl, rfl⟩) (Sub.cons (by rw [hc]; rfl) (Sub.cons rfl Sub.nil))
    · skip
      refine WO.reslot 18 rfl (show Value.bool (r49 == 0) = Value.bool false by rw [hc]) ?_
      refine WO.pass rfl (by kernel_rfl) rfl ?_
      refine WO.pass rfl (by kernel_rfl) rfl ?_
      refine WO.vals [(6, 21, (.bool false))] (by kernel_rfl) (fun _ => by kernel_rfl) ?_
      refine WO.weaken (fr' := [(21, (.bool ((r49 == 0) && (r43 == 35)))), (1, (.slice a26 3 3))]) (WO.meet ⟨rfl, rfl⟩) (Sub.cons (by rw [hc]; rfl) (Sub.cons rfl Sub.nil))
  case restm50 =>
    rintro _ _ ⟨rfl, rfl⟩
    refine WO.vals [(7, 22, (.bool ((r49 == 0) && (r43 == 35))))] (by kernel_rfl) (fun _ => by kernel_rfl) ?_
    obtain ⟨j52, hr1, hr⟩ := bind_some hr
    refine WO.join (l1 := [8, 9, 10, 11, 12]) (l2 := [13, 14, 15, 16, 17, 18, 19, 20, 21, 22]) (J := (fun fr w => ∃ (I54 : Mem), fr = [(1, (.slice a26 3 3)), (27, (.bool j52))] ∧ I46.Le I54 ∧ St E w I54 Os)) ?restj52 ?waysj52
    case waysj52 =>
      refine WO.caseb ((r49 == 0) && (r43 == 35)) (fun hc => ?_) (fun hc => ?_)
      · replace hr1 := cond_t hc hr1
        refine WO.reslot 22 rfl (show Value.bool ((r49 == 0) && (r43 == 35)) = Value.bool true by rw [hc]) ?_
        refine WO.vals [(8, 23, (.slice a26 3 3))] (by kernel_rfl) (fun _ => by kernel_rfl) ?_
        obtain ⟨r61, hx_r56, hr1⟩ := bind_some hr1
        refine WO.call rfl (by kernel_rfl) rfl (f := 12) (args := #[(.slice a26 3 3), (.string (⟨#[97]⟩ : ByteArray))]) (by kernel_rfl) (member_All_ok (RSl.mono hp35 (hl40.trans hl47)) hS48 hx_r56) ?_
        rintro _ w57 ⟨I58, a_r61, c_r61, rfl, hl59, hS60, h_r61⟩
        refine ⟨_, rfl, trivial, ?_⟩
        refine WO.vals [(10, 25, (.int .i64 (r61.length : Int))), (11, 26, (.bool ((r61.length : Int) == 3))), (12, 27, (.bool ((r61.length : Int) == 3)))] (by kernel_rfl) (fun _ => by kernel_rfl) ?_
        have he := Option.some.inj hr1
        subst j52
        refine WO.weaken (fr' := [(1, (.slice a26 3 3)), (27, (.bool ((r61.length : Int) == 3)))]) (WO.meet ⟨I58, rfl, hl59, hS60⟩) (Sub.cons rfl (Sub.cons rfl Sub.nil))
      · replace hr1 := cond_f hc hr1
        refine WO.reslot 22 rfl (show Value.bool ((r49 == 0) && (r43 == 35)) = Value.bool false by rw [hc]) ?_
        refine WO.pass rfl (by kernel_rfl) rfl ?_
        refine WO.pass rfl (by kernel_rfl) rfl ?_
        refine WO.pass rfl (by kernel_rfl) rfl ?_
        refine WO.pass rfl (by kernel_rfl) rfl ?_
        refine WO.vals [(12, 27, (.bool false))] (by kernel_rfl) (fun _ => by kernel_rfl) ?_
        have he := Option.some.inj hr1
        subst j52
        refine WO.weaken (fr' := [(1, (.slice a26 3 3)), (27, (.bool false))]) (WO.meet ⟨I46, rfl, Mem.Le.refl _, hS48⟩) (Sub.cons rfl (Sub.cons rfl Sub.nil))
    case restj52 =>
      rintro _ w62 ⟨I54, rfl, hl55, hS63⟩
      refine WO.vals [(13, 28, (.bool j52))] (by kernel_rfl) (fun _ => by kernel_rfl) ?_
      obtain ⟨j64, hr1, hr⟩ := bind_some hr
      refine WO.join (l1 := [14, 15, 16]) (l2 := [17, 18, 19, 20, 21, 22]) (J := (fun fr w => ∃ (I66 : Mem), fr = [(1, (.slice a26 3 3)), (31, (.bool j64))] ∧ I54.Le I66 ∧ St E w I66 Os)) ?restj64 ?waysj64
      case waysj64 =>
        refine WO.caseb j52 (fun hc => ?_) (fun hc => ?_)
        · replace hr1 := cond_t hc hr1
          refine WO.reslot 28 rfl (show Value.bool j52 = Value.bool true by rw [hc]) ?_
          refine WO.vals [(14, 29, (.slice a26 3 3))] (by kernel_rfl) (fun _ => by kernel_rfl) ?_
          obtain ⟨r73, hx_r68, hr1⟩ := bind_some hr1
          refine WO.call rfl (by kernel_rfl) rfl (f := 14) (args := #[(.slice a26 3 3), (.string (⟨#[97]⟩ : ByteArray)), (.string (⟨#[99]⟩ : ByteArray))]) (by kernel_rfl) (member_Is_ok (RSl.mono hp35 ((hl40.trans hl47).trans hl55)) hS63 hx_r68) ?_
          rintro _ w69 ⟨I70, rfl, hl71, hS72⟩
          refine ⟨_, rfl, trivial, ?_⟩
          refine WO.vals [(16, 31, (.bool r73))] (by kernel_rfl) (fun _ => by kernel_rfl) ?_
          have he := Option.some.inj hr1
          subst j64
          refine WO.weaken (fr' := [(1, (.slice a26 3 3)), (31, (.bool r73))]) (WO.meet ⟨I70, rfl, hl71, hS72⟩) (Sub.cons rfl (Sub.cons rfl Sub.nil))
        · replace hr1 := cond_f hc hr1
          refine WO.reslot 28 rfl (show Value.bool j52 = Value.bool false by rw [hc]) ?_
          refine WO.pass rfl (by kernel_rfl) rfl ?_
          refine WO.pass rfl (by kernel_rfl) rfl ?_
          refine WO.vals [(16, 31, (.bool false))] (by kernel_rfl) (fun _ => by kernel_rfl) ?_
          have he := Option.some.inj hr1
          subst j64
          refine WO.weaken (fr' := [(1, (.slice a26 3 3)), (31, (.bool false))]) (WO.meet ⟨I54, rfl, Mem.Le.refl _, hS63⟩) (Sub.cons rfl (Sub.cons rfl Sub.nil))
      case restj64 =>
        rintro _ w74 ⟨I66, rfl, hl67, hS75⟩
        refine WO.vals [(17, 32, (.bool j64))] (by kernel_rfl) (fun _ => by kernel_rfl) ?_
        obtain ⟨j76, hr1, hr⟩ := bind_some hr
        refine WO.join (l1 := [18, 19, 20, 21]) (l2 := [22]) (J := (fun fr w => ∃ (I78 : Mem), fr = [(36, (.bool j76))] ∧ I66.Le I78 ∧ St E w I78 Os)) ?restj76 ?waysj76
        case waysj76 =>
          refine WO.caseb j64 (fun hc => ?_) (fun hc => ?_)
          · replace hr1 := cond_t hc hr1
            refine WO.reslot 32 rfl (show Value.bool j64 = Value.bool true by rw [hc]) ?_
            refine WO.vals [(18, 33, (.slice a26 3 3))] (by kernel_rfl) (fun _ => by kernel_rfl) ?_
            obtain ⟨r85, hx_r80, hr1⟩ := bind_some hr1
            refine WO.call rfl (by kernel_rfl) rfl (f := 14) (args := #[(.slice a26 3 3), (.string (⟨#[99]⟩ : ByteArray)), (.string (⟨#[97]⟩ : ByteArray))]) (by kernel_rfl) (member_Is_ok (RSl.mono hp35 (((hl40.trans hl47).trans hl55).trans hl67)) hS75 hx_r80) ?_
            rintro _ w81 ⟨I82, rfl, hl83, hS84⟩
            refine ⟨_, rfl, trivial, ?_⟩
            refine WO.vals [(20, 35, (.bool (!r85))), (21, 36, (.bool (!r85)))] (by kernel_rfl) (fun _ => by kernel_rfl) ?_
            have he := Option.some.inj hr1
            subst j76
            refine WO.weaken (fr' := [(36, (.bool (!r85)))]) (WO.meet ⟨I82, rfl, hl83, hS84⟩) (Sub.cons rfl Sub.nil)
          · replace hr1 := cond_f hc hr1
            refine WO.reslot 32 rfl (show Value.bool j64 = Value.bool false by rw [hc]) ?_
            refine WO.pass rfl (by kernel_rfl) rfl ?_
            refine WO.pass rfl (by kernel_rfl) rfl ?_
            refine WO.pass rfl (by kernel_rfl) rfl ?_
            refine WO.vals [(21, 36, (.bool false))] (by kernel_rfl) (fun _ => by kernel_rfl) ?_
            have he := Option.some.inj hr1
            subst j76
            refine WO.weaken (fr' := [(36, (.bool false))]) (WO.meet ⟨I66, rfl, Mem.Le.refl _, hS75⟩) (Sub.cons rfl Sub.nil)
        case restj76 =>
          rintro _ w86 ⟨I78, rfl, hl79, hS87⟩
          refine WO.vals [(22, 0, (.bool j76))] (by kernel_rfl) (fun _ => by kernel_rfl) ?_
          refine WO.nil ?_
          refine En.next ?_
          refine W.ret ?_
          have he := Option.some.inj hr
          subst r
          exact En.ret1 rfl (.bool j76) rfl ⟨I78, rfl, (((((((hl9.trans hl20).trans hl34).trans hl40).trans hl47).trans hl55).trans hl67).trans hl79), hS87⟩
set_option maxHeartbeats 1000000 in
theorem ins52_ok {E w : World} {I C D : Mem} {Os : List Mem} {xs vs : List api_Role} {a va : Option Addr} {cap vc : Nat} (h : OwnSl 27 2 R_api_Role I C a cap xs) (hv : OwnSl 27 2 R_api_Role I D va vc vs) (hS : St E w I (C :: D :: Os)) {i : Nat} (hi : i ≤ xs.length) (hm : vs ≠ []) (hfit : (xs.length + vs.length) * 40 ≤ 140737488355328) :
    Calls P 52 #[.slice a xs.length cap, .int .i64 (i : Int), .slice va vs.length vc] w (fun e w' => ∃ (a' : Option Addr) (c' : Nat) (C' : Mem), e = .returned (.slice a' (xs.take i ++ vs ++ xs.drop i).length c') ∧ St E w' I (C' :: D :: Os) ∧ OwnSl 27 2 R_api_Role I C' a' c' (xs.take i ++ vs ++ xs.drop i)) := by
  have hxl := h.sl.le
  have hxc := h.sl.lt
  have hvl := List.length_pos_iff.2 hm
  have hlen : (xs.take i ++ vs ++ xs.drop i).length = xs.length + vs.length := by simp; omega
  refine calls_W (args := [.slice a xs.length cap, .int .i64 (i : Int), .slice va vs.length vc]) (fn := Try.f52) rfl rfl rfl ?_
  refine W.seq ?_
  refine W.region (l := [0]) (by kernel_rfl) ?_
  refine WO.vals [(0, 6, (.slice none 0 0))] (by kernel_rfl) (fun _ => by kernel_rfl) ?_
  refine WO.nil ?_
  refine En.next ?_
  refine W.seq ?_
  refine W.region (l := [0, 1, 2]) (by kernel_rfl) ?_
  refine WO.vals [(0, 10, (.slice a xs.length cap)), (1, 11, (.int .i64 (i : Int)))] (by kernel_rfl) (fun _ => by kernel_rfl) ?_
  refine WO.slice (e := 27) (sz := 2) rfl (by kernel_rfl) (by kernel_rfl) (by kernel_rfl) rfl (i : Int) (xs.length : Int) (by omega) (.inr ⟨_, _, rfl, rfl⟩) (.inl ⟨rfl, rfl⟩) (by omega) (by omega) ?_
  refine WO.nil ?_
  refine En.next ?_
  refine W.seq ?_
  refine W.region (l := [0, 1, 2]) (by kernel_rfl) ?_
  refine WO.vals [(0, 13, (.slice va vs.length vc)), (1, 14, (.int .i64 (vs.length : Int))), (2, 7, (.int .i64 (vs.length : Int)))] (by kernel_rfl) (fun _ => by kernel_rfl) ?_
  refine WO.nil ?_
  refine En.next ?_
  refine W.seq ?_
  refine W.seq ?_
  refine W.region (l := [0, 1]) (by kernel_rfl) ?_
  refine WO.vals [(0, 15, (.int .i64 (vs.length : Int))), (1, 16, (.bool ((vs.length : Int) == 0)))] (by kernel_rfl) (fun _ => by kernel_rfl) ?_
  refine WO.nil ?_
  refine En.next ?_
  refine W.cond (b := ((vs.length : Int) == 0)) rfl rfl (fun hc => ?_) (fun hc => ?_)
  · exfalso
    simp at hc
    exact hm hc
  clear hc
  refine W.skip ?_
  refine En.next ?_
  refine W.seq ?_
  refine W.region (l := [0, 1, 2]) (by kernel_rfl) ?_
  refine WO.vals [(0, 18, (.slice a xs.length cap)), (1, 19, (.int .i64 (xs.length : Int))), (2, 8, (.int .i64 (xs.length : Int)))] (by kernel_rfl) (fun _ => by kernel_rfl) ?_
  refine WO.nil ?_
  refine En.next ?_
  refine W.seq ?_
  refine W.seq ?_
  refine W.region (l := [0, 1, 2]) (by kernel_rfl) ?_
  refine WO.vals [(0, 20, (.int .i64 (i : Int))), (1, 21, (.int .i64 (xs.length : Int))), (2, 22, (.bool ((i : Int) == (xs.length : Int))))] (by kernel_rfl) (fun _ => by kernel_rfl) ?_
  refine WO.nil ?_
  refine En.next ?_
  refine W.cond (b := ((i : Int) == (xs.length : Int))) rfl rfl (fun hc => ?_) (fun hc => ?_)
  · have hin : i = xs.length := by simp at hc; omega
    refine W.seq ?_
    refine W.region (l := [0, 1, 2, 3]) (by kernel_rfl) ?_
    refine WO.vals [(0, 23, (.slice a xs.length cap)), (1, 24, (.slice va vs.length vc))] (by kernel_rfl) (fun _ => by kernel_rfl) ?_
    refine WO.append (e' := 27) (b := 40) (zs := #[(.string (⟨#[]⟩ : ByteArray)), (.slice none 0 0)]) hS h rfl (by kernel_rfl) rfl (by kernel_rfl) (by kernel_rfl) (by kernel_rfl) rfl rfl rfl rfl hv.sl hS.drop.rd0 hfit rfl (fun _ _ _ => trivial) ?_
    intro a' c' w' C' hS' ho'
    refine WO.vals [(3, 6, (.slice a' (xs ++ vs).length c'))] (by kernel_rfl) (fun _ => by kernel_rfl) ?_
    refine WO.nil ?_
    refine En.next ?_
    refine W.ret ?_
    refine En.nx_ret ?_
    have e : xs.take i ++ vs ++ xs.drop i = xs ++ vs := by rw [hin, List.take_length, List.drop_length, List.append_nil]
    rw [e]
    exact En.ret1 rfl (.slice a' (xs ++ vs).length c') rfl ⟨a', c', C', rfl, hS', ho'⟩
  have hin : i < xs.length := by simp at hc; omega
  clear hc
  obtain ⟨b, off, c, rfl, rfl, hcs⟩ := h.block (h.ne (by rintro rfl; simp at hin))
  obtain ⟨b2, o2, c2, rfl, rfl, hcs2⟩ := hv.block (hv.ne hm)
  obtain ⟨csx, hcx, hrx⟩ := h.sl.cel
  obtain ⟨csv, hcv, hrv⟩ := hv.sl.cel
  have hxh : Hol c off csx := Hol.rd (T := 27) hrx hS.rd0
  have hcxl := hcx.len
  have hcvl := hcv.len
  have hbig : xs.length + vs.length < 9223372036854775808 := by omega
  have hw1 : w64 ((xs.length : Int) + (vs.length : Int)) = ((xs.length + vs.length : Nat) : Int) := by rw [w64_id (by omega) (by omega)]; omega
  have hw2 : w64 ((i : Int) + (vs.length : Int)) = ((i + vs.length : Nat) : Int) := by rw [w64_id (by omega) (by omega)]; omega
  refine W.skip ?_
  refine En.next ?_
  refine W.seq ?_
  refine W.seq ?_
  refine W.region (l := [0, 1, 2, 3, 4, 5]) (by kernel_rfl) ?_
  refine WO.vals [(0, 26, (.int .i64 (xs.length : Int))), (1, 27, (.int .i64 (vs.length : Int))), (2, 28, (.int .i64 (w64 ((xs.length : Int) + (vs.length : Int))))), (3, 29, (.slice (some ⟨b, off, none⟩) xs.length cap)), (4, 30, (.int .i64 (cap : Int))), (5, 31, (.bool (decide (w64 ((xs.length : Int) + (vs.length : Int)) > (cap : Int)))))] (by kernel_rfl) (fun _ => by kernel_rfl) ?_
  refine WO.nil ?_
  refine En.next ?_
  refine W.cond (b := decide (w64 ((xs.length : Int) + (vs.length : Int)) > (cap : Int))) rfl rfl (fun hc => ?_) (fun hc => ?_)
  · have hgr : cap < xs.length + vs.length := by rw [hw1] at hc; simp at hc; omega
    clear hc
    have hw3 : w64 ((xs.length + vs.length : Nat) - (i : Int)) = ((xs.length + vs.length - i : Nat) : Int) := by rw [w64_id (by omega) (by omega)]; omega
    have htl : (xs.take i).length = i := by rw [List.length_take]; omega
    refine W.seq ?_
    refine W.region (l := [0, 1, 2, 3, 4, 5, 6, 7, 8, 9]) (by kernel_rfl) ?_
    refine WO.vals [(0, 32, (.slice (some ⟨b, off, none⟩) xs.length cap)), (1, 33, (.int .i64 (i : Int)))] (by kernel_rfl) (fun _ => by kernel_rfl) ?_
    refine WO.sliceB (e := 27) (sz := 2) rfl (by kernel_rfl) (by kernel_rfl) (by kernel_rfl) rfl 0 i (.inl ⟨rfl, rfl⟩) (.inr ⟨_, _, rfl, rfl⟩) (by omega) (by omega) (by omega) ?_
    refine WO.vals [(3, 35, (.int .i64 (xs.length : Int))), (4, 36, (.int .i64 (vs.length : Int))), (5, 37, (.int .i64 (w64 ((xs.length : Int) + (vs.length : Int)))))] (by kernel_rfl) (fun _ => by kernel_rfl) ?_
    refine WO.reslot 37 rfl (congrArg (Value.int .i64) hw1) ?_
    refine WO.vals [(6, 38, (.int .i64 (i : Int))), (7, 39, (.int .i64 (w64 ((xs.length + vs.length : Nat) - (i : Int)))))] (by kernel_rfl) (fun _ => by kernel_rfl) ?_
    refine WO.reslot 39 rfl (congrArg (Value.int .i64) hw3) ?_
    refine WO.appendMake (T := 27) (b := 40) (zs := #[(.string (⟨#[]⟩ : ByteArray)), (.slice none 0 0)]) (kn := .i64) hS hS.drew.rd0 (h.sl.take i) rfl (by kernel_rfl) rfl (by kernel_rfl) (by kernel_rfl) (by kernel_rfl) rfl rfl rfl (by rw [htl]; rfl) (k := xs.length + vs.length - i) rfl (by omega) (by rw [htl]; omega) (by rw [htl, show i + (xs.length + vs.length - i) = xs.length + vs.length by omega]; exact hfit) (fun _ _ _ => trivial) ?_
    intro w1 nb G d cs1 hS1 hc1 hh1 hG1 hG2 hG3
    have hc1l := hc1.len
    rw [htl] at hG1 hc1l
    refine WO.reslot 40 rfl (v := .slice (some ⟨nb, 0, none⟩) (xs.length + vs.length) G) (by rw [htl, show i + (xs.length + vs.length - i) = xs.length + vs.length by omega]) ?_
    refine WO.vals [(9, 9, (.slice (some ⟨nb, 0, none⟩) (xs.length + vs.length) G))] (by kernel_rfl) (fun _ => by kernel_rfl) ?_
    refine WO.nil ?_
    refine En.next ?_
    have hGn : (xs.length + vs.length) * 2 ≤ G * 2 := Nat.mul_le_mul_right _ (by omega)
    refine W.seq ?_
    refine W.region (l := [0, 1, 2, 3, 4]) (by kernel_rfl) ?_
    refine WO.vals [(0, 41, (.slice (some ⟨nb, 0, none⟩) (xs.length + vs.length) G)), (1, 42, (.int .i64 (i : Int)))] (by kernel_rfl) (fun _ => by kernel_rfl) ?_
    refine WO.sliceB (e := 27) (sz := 2) rfl (by kernel_rfl) (by kernel_rfl) (by kernel_rfl) rfl i (xs.length + vs.length) (.inr ⟨_, _, rfl, rfl⟩) (.inl ⟨rfl, rfl⟩) (by omega) (by omega) (by omega) ?_
    refine WO.vals [(3, 44, (.slice (some ⟨b2, o2, none⟩) vs.length vc))] (by kernel_rfl) (fun _ => by kernel_rfl) ?_
    refine WO.copyN (T := 27) (sz := 2) (e := 27) hS1 rfl (by kernel_rfl) rfl (by kernel_rfl) (by kernel_rfl) rfl rfl csv (by rw [hcvl]; congr 1; simp only [Nat.min_def]; split <;> omega) (fun x hx j v hj => by injection hx with hx; subst hx; rw [add_plain]; exact hrv w1 (hS1.rd (.tail _ (.tail _ (.head _)))) j v hj) (fun hx => by cases hx) hcv.one (by rw [hcvl]; omega) (fun _ _ => trivial) ?_
    intro w2 hS2
    refine WO.nil ?_
    refine En.next ?_
    refine W.seq ?_
    have hS3 := hS2.drew
    refine W.draw (l := [0, 1, 2, 3, 4, 5, 6, 7, 8]) (by kernel_rfl) 8 (KR I []) qR (.back (by kernel_rfl)) (by kernel_rfl) (KR.nil hS3.im) ?_
    generalize World.drew _ = w3 at *
    refine WO.vals [(0, 46, (.slice (some ⟨nb, 0, none⟩) (xs.length + vs.length) G)), (1, 47, (.int .i64 (i : Int))), (2, 48, (.int .i64 (vs.length : Int))), (3, 49, (.int .i64 (w64 ((i : Int) + (vs.length : Int)))))] (by kernel_rfl) (fun _ => by kernel_rfl) ?_
    refine WO.reslot 49 rfl (congrArg (Value.int .i64) hw2) ?_
    refine WO.sliceB (e := 27) (sz := 2) rfl (by kernel_rfl) (by kernel_rfl) (by kernel_rfl) rfl (i + vs.length) (xs.length + vs.length) (.inr ⟨_, _, rfl, rfl⟩) (.inl ⟨rfl, rfl⟩) (by omega) (by omega) (by omega) ?_
    refine WO.vals [(5, 51, (.slice (some ⟨b, off, none⟩) xs.length cap)), (6, 52, (.int .i64 (i : Int)))] (by kernel_rfl) (fun _ => by kernel_rfl) ?_
    refine WO.sliceB (e := 27) (sz := 2) rfl (by kernel_rfl) (by kernel_rfl) (by kernel_rfl) rfl i xs.length (.inr ⟨_, _, rfl, rfl⟩) (.inl ⟨rfl, rfl⟩) (by omega) (by omega) (by omega) ?_
    refine WO.tail rfl ?_
    have hdl : (csx.drop (i * 2)).length = (xs.length - i) * 2 := by rw [List.length_drop, hcxl, Nat.sub_mul]
    refine WO.copyN (T := 27) (sz := 2) (e := 27) hS3 rfl (by kernel_rfl) rfl (by kernel_rfl) (by kernel_rfl) rfl rfl (csx.drop (i * 2)) (by rw [hdl]; congr 1; simp only [Nat.min_def]; split <;> omega) (fun x hx j v hj => by
      injection hx with hx
      subst hx
      rw [List.getElem?_drop] at hj
      have := hrx w3 (hS3.rd (.tail _ (.head _))) _ v hj
      rw [add_plain, Nat.add_assoc]
      exact this) (fun hx => by cases hx) (fun v hv => hcx.one v (List.mem_of_mem_drop hv)) (by rw [hdl, wrt_size]; omega) (fun _ _ => trivial) ?_
    intro w4 hS4
    refine WO.nil ?_
    refine En.next ?_
    refine W.seq ?_
    refine W.region (l := [0, 1]) (by kernel_rfl) ?_
    refine WO.vals [(0, 55, (.slice (some ⟨nb, 0, none⟩) (xs.length + vs.length) G)), (1, 6, (.slice (some ⟨nb, 0, none⟩) (xs.length + vs.length) G))] (by kernel_rfl) (fun _ => by kernel_rfl) ?_
    refine WO.nil ?_
    refine En.next ?_
    refine W.ret ?_
    refine En.nx_ret ?_
    rw [hlen]
    refine En.ret1 rfl (.slice (some ⟨nb, 0, none⟩) (xs.length + vs.length) G) rfl ⟨_, G, _, rfl, hS4.front1.drop, ?_⟩
    refine Cel.own ((hc1.append hcv).append (hcx.drop i)) (Hol.append (Hol.append ((hh1.apart (.inl ?_)).apart (.inl ?_)) ((Hol.apart ?_ (.inl ?_)))) ?_) (by rw [hlen]; exact Nat.le_trans (by omega) hG1) hG2 (by rw [wrt_size, wrt_size]; omega)
    · rw [hc1l]; omega
    · rw [hc1l]; omega
    · rw [hc1l]; exact Hol.wrt _ (by rw [hcvl]; omega)
    · rw [hc1l, hcvl]; omega
    · have e : 0 + (cs1 ++ csv).length = 0 + (i + vs.length) * 2 := by rw [List.length_append, hc1l, hcvl, Nat.add_mul]
      rw [e]
      exact Hol.wrt _ (by rw [hdl, wrt_size]; omega)
  have hroom : xs.length + vs.length ≤ cap := by rw [hw1] at hc; simp at hc; omega
  clear hc
  have hcap : (xs.length + vs.length) * 2 ≤ cap * 2 := Nat.mul_le_mul_right _ hroom
  refine W.skip ?_
  refine En.next ?_
  refine W.seq ?_
  refine W.region (l := [0, 1, 2, 3, 4, 5]) (by kernel_rfl) ?_
  refine WO.vals [(0, 56, (.slice (some ⟨b, off, none⟩) xs.length cap)), (1, 57, (.int .i64 (xs.length : Int))), (2, 58, (.int .i64 (vs.length : Int))), (3, 59, (.int .i64 (w64 ((xs.length : Int) + (vs.length : Int)))))] (by kernel_rfl) (fun _ => by kernel_rfl) ?_
  refine WO.reslot 59 rfl (congrArg (Value.int .i64) hw1) ?_
  refine WO.sliceB (e := 27) (sz := 2) rfl (by kernel_rfl) (by kernel_rfl) (by kernel_rfl) rfl 0 (xs.length + vs.length) (.inl ⟨rfl, rfl⟩) (.inr ⟨_, _, rfl, rfl⟩) (by omega) (by omega) (by omega) ?_
  refine WO.reslot 60 rfl (v := .slice (some ⟨b, off, none⟩) (xs.length + vs.length) cap) (by rw [Nat.zero_mul, Nat.add_zero, Nat.sub_zero, Nat.sub_zero]) ?_
  refine WO.vals [(5, 0, (.slice (some ⟨b, off, none⟩) (xs.length + vs.length) cap))] (by kernel_rfl) (fun _ => by kernel_rfl) ?_
  refine WO.nil ?_
  refine En.next ?_
  refine W.seq ?_
  refine W.seq ?_
  refine W.region (l := [0, 1, 2, 3, 4, 5, 6, 7]) (by kernel_rfl) ?_
  refine WO.vals [(0, 61, (.slice (some ⟨b2, o2, none⟩) vs.length vc)), (1, 62, (.slice (some ⟨b, off, none⟩) (xs.length + vs.length) cap)), (2, 63, (.int .i64 (i : Int))), (3, 64, (.int .i64 (vs.length : Int))), (4, 65, (.int .i64 (w64 ((i : Int) + (vs.length : Int)))))] (by kernel_rfl) (fun _ => by kernel_rfl) ?_
  refine WO.reslot 65 rfl (congrArg (Value.int .i64) hw2) ?_
  refine WO.sliceB (e := 27) (sz := 2) rfl (by kernel_rfl) (by kernel_rfl) (by kernel_rfl) rfl (i + vs.length) (xs.length + vs.length) (.inr ⟨_, _, rfl, rfl⟩) (.inl ⟨rfl, rfl⟩) (by omega) (by omega) (by omega) ?_
  refine WO.extern (f := 64) (fn := Try.f64) (e := Extern.SlicesOverlaps.overlaps #[22, 22] #[4]) rfl (by kernel_rfl) rfl (by kernel_rfl) (by kernel_rfl) (by kernel_rfl) (by rfl) (args := #[.slice (some ⟨b2, o2, none⟩) vs.length vc, .slice (some ⟨b, off + (i + vs.length) * 2, none⟩) (xs.length + vs.length - (i + vs.length)) (cap - (i + vs.length))]) (by kernel_rfl) (.bool false) (fun w' hw' => ?_) ?_
  · rcases hw' with ⟨hw', _⟩ | rfl
    · cases hw'
    · exact run_over (sz := 2) (e := 27) (by kernel_rfl) (by kernel_rfl) hS (by omega) _ _ _ _
  refine WO.vals [(7, 68, (.bool true))] (by kernel_rfl) (fun _ => by kernel_rfl) ?_
  refine WO.nil ?_
  refine En.next ?_
  refine W.cond (b := true) rfl rfl (fun hc => ?_) (fun hc => ?_)
  rotate_left
  · cases hc
  clear hc
  refine W.seq ?_
  have hS1 := hS.drew
  refine W.draw (l := [0, 1, 2, 3, 4, 5, 6, 7, 8]) (by kernel_rfl) 8 (KR I []) qR (.back (by kernel_rfl)) (by kernel_rfl) (KR.nil hS1.im) ?_
  generalize World.drew _ = w1 at *
  refine WO.vals [(0, 69, (.slice (some ⟨b, off, none⟩) (xs.length + vs.length) cap)), (1, 70, (.int .i64 (i : Int))), (2, 71, (.int .i64 (vs.length : Int))), (3, 72, (.int .i64 (w64 ((i : Int) + (vs.length : Int)))))] (by kernel_rfl) (fun _ => by kernel_rfl) ?_
  refine WO.reslot 72 rfl (congrArg (Value.int .i64) hw2) ?_
  refine WO.sliceB (e := 27) (sz := 2) rfl (by kernel_rfl) (by kernel_rfl) (by kernel_rfl) rfl (i + vs.length) (xs.length + vs.length) (.inr ⟨_, _, rfl, rfl⟩) (.inl ⟨rfl, rfl⟩) (by omega) (by omega) (by omega) ?_
  refine WO.vals [(5, 74, (.slice (some ⟨b, off, none⟩) (xs.length + vs.length) cap)), (6, 75, (.int .i64 (i : Int)))] (by kernel_rfl) (fun _ => by kernel_rfl) ?_
  refine WO.sliceB (e := 27) (sz := 2) rfl (by kernel_rfl) (by kernel_rfl) (by kernel_rfl) rfl i (xs.length + vs.length) (.inr ⟨_, _, rfl, rfl⟩) (.inl ⟨rfl, rfl⟩) (by omega) (by omega) (by omega) ?_
  refine WO.tail rfl ?_
  have hdl : (csx.drop (i * 2)).length = (xs.length - i) * 2 := by rw [List.length_drop, hcxl, Nat.sub_mul]
  refine WO.copyN (T := 27) (sz := 2) (e := 27) hS1 rfl (by kernel_rfl) rfl (by kernel_rfl) (by kernel_rfl) rfl rfl (csx.drop (i * 2)) (by rw [hdl]; congr 1; simp only [Nat.min_def]; split <;> omega) (fun x hx j v hj => by
    injection hx with hx
    subst hx
    rw [List.getElem?_drop] at hj
    have := hrx w1 hS1.rd0 _ v hj
    rw [add_plain, Nat.add_assoc]
    exact this) (fun hx => by cases hx) (fun v hv => hcx.one v (List.mem_of_mem_drop hv)) (by rw [hdl]; omega) (fun _ _ => trivial) ?_
  intro w2 hS2
  refine WO.nil ?_
  refine En.next ?_
  refine W.seq ?_
  refine W.region (l := [0, 1, 2, 3, 4]) (by kernel_rfl) ?_
  refine WO.vals [(0, 78, (.slice (some ⟨b, off, none⟩) (xs.length + vs.length) cap)), (1, 79, (.int .i64 (i : Int)))] (by kernel_rfl) (fun _ => by kernel_rfl) ?_
  refine WO.sliceB (e := 27) (sz := 2) rfl (by kernel_rfl) (by kernel_rfl) (by kernel_rfl) rfl i (xs.length + vs.length) (.inr ⟨_, _, rfl, rfl⟩) (.inl ⟨rfl, rfl⟩) (by omega) (by omega) (by omega) ?_
  refine WO.vals [(3, 81, (.slice (some ⟨b2, o2, none⟩) vs.length vc))] (by kernel_rfl) (fun _ => by kernel_rfl) ?_
  refine WO.copyN (T := 27) (sz := 2) (e := 27) hS2 rfl (by kernel_rfl) rfl (by kernel_rfl) (by kernel_rfl) rfl rfl csv (by rw [hcvl]; congr 1; simp only [Nat.min_def]; split <;> omega) (fun x hx j v hj => by injection hx with hx; subst hx; rw [add_plain]; exact hrv w2 (hS2.rd (.tail _ (.head _))) j v hj) (fun hx => by cases hx) hcv.one (by rw [hcvl, wrt_size]; omega) (fun _ _ => trivial) ?_
  intro w3 hS3
  refine WO.nil ?_
  refine En.next ?_
  refine W.seq ?_
  refine W.region (l := [0, 1]) (by kernel_rfl) ?_
  refine WO.vals [(0, 83, (.slice (some ⟨b, off, none⟩) (xs.length + vs.length) cap)), (1, 6, (.slice (some ⟨b, off, none⟩) (xs.length + vs.length) cap))] (by kernel_rfl) (fun _ => by kernel_rfl) ?_
  refine WO.nil ?_
  refine En.next ?_
  refine W.ret ?_
  refine En.nx_ret ?_
  rw [hlen]
  refine En.ret1 rfl (.slice (some ⟨b, off, none⟩) (xs.length + vs.length) cap) rfl ⟨_, cap, _, rfl, hS3, ?_⟩
  have htl : (csx.take (i * 2)).length = i * 2 := by rw [List.length_take, hcxl]; omega
  refine Cel.own (((hcx.take i).append hcv).append (hcx.drop i)) (Hol.append (Hol.append (((hxh.take _).apart (.inl ?_)).apart (.inl ?_)) ?_) (Hol.apart ?_ (.inr ?_))) (by rw [hlen]; exact hroom) h.sl.lt (by rw [wrt_size, wrt_size]; exact hcs)
  · rw [htl]; omega
  · rw [htl]; omega
  · rw [htl]; exact Hol.wrt _ (by rw [hcvl, wrt_size]; omega)
  · have e : off + (csx.take (i * 2) ++ csv).length = off + (i + vs.length) * 2 := by rw [List.length_append, htl, hcvl, Nat.add_mul]
    rw [e]
    exact Hol.wrt _ (by rw [hdl]; omega)
  · rw [List.length_append, htl, hcvl]; omega

noncomputable def createT (l : List api_Role) (n : ByteArray) : Option (List api_Role × Int) := open Classical in if fits l then (member_names l).bind fun ns => (slices_BinarySearch_string ns n).bind fun (k, _) => (insO 40 l k [{ z_api_Role with Name := n }]).bind fun y => some (y, 0) else none
noncomputable def member_Create (p0 : List api_Role) (p1 : ByteArray) : Option ((List api_Role) × Int) := (member_Check p0).bind (fun (r6 : Int) => (bif (r6 != 0) then some (([] : List api_Role), r6) else (lex_IsName p1).bind (fun (r12 : Bool) => (bif (!r12) then some (([] : List api_Role), 18) else (member_at p0 p1).bind (fun (r18 : Int) => (bif (decide (r18 ≥ 0)) then some (([] : List api_Role), 19) else (bif ((p0.length : Int) == 8) then some (([] : List api_Role), 5) else (createT p0 p1))))))))
set_option maxHeartbeats 1000000 in
theorem member_Create_ok {E w : World} {I : Mem} {Os : List Mem} {p0 : List api_Role} {p1 : ByteArray} {a_p0 : Option Addr} {c_p0 : Nat} (h_p0 : RSl 2 R_api_Role I a_p0 c_p0 p0) (hS : St E w I Os) {r : (List api_Role) × Int} (hr : member_Create p0 p1 = some r) :
    Calls P 30 #[(.slice a_p0 p0.length c_p0), (.string p1)] w (fun e w' => ∃ (I' : Mem) (ra0 : Option Addr) (rc0 : Nat), e = .returned (.tuple #[(.slice ra0 r.1.length rc0), (.int .i64 r.2)]) ∧ I.Le I' ∧ St E w' I' Os ∧ RSl 2 R_api_Role I' ra0 rc0 r.1) := by
  refine calls_W (args := [(.slice a_p0 p0.length c_p0), (.string p1)]) (fn := Try.f30) rfl rfl rfl ?_
  unfold member_Create at hr
  refine W.seq ?_
  refine W.region (l := [0, 1]) (by kernel_rfl) ?_
  refine WO.vals [(0, 4, (.slice none 0 0)), (1, 5, (.int .i64 0))] (by kernel_rfl) (fun _ => by kernel_rfl) ?_
  refine WO.nil ?_
  refine En.next ?_
  refine W.seq ?_
  refine W.seq ?_
  refine W.region (l := [0, 1, 2]) (by kernel_rfl) ?_
  refine WO.vals [(0, 10, (.slice a_p0 p0.length c_p0))] (by kernel_rfl) (fun _ => by kernel_rfl) ?_
  obtain ⟨r6, hx_r1, hr⟩ := bind_some hr
  refine WO.call rfl (by kernel_rfl) rfl (f := 18) (args := #[(.slice a_p0 p0.length c_p0)]) (by kernel_rfl) (member_Check_ok h_p0 hS hx_r1) ?_
  rintro _ w2 ⟨I3, rfl, hl4, hS5⟩
  refine ⟨_, rfl, trivial, ?_⟩
  refine WO.vals [(2, 6, (.int .i64 r6))] (by kernel_rfl) (fun _ => by kernel_rfl) ?_
  refine WO.nil ?_
  refine En.next ?_
  refine W.seq ?_
  refine W.region (l := [0, 1]) (by kernel_rfl) ?_
  refine WO.vals [(0, 12, (.int .i64 r6)), (1, 13, (.bool (r6 != 0)))] (by kernel_rfl) (fun _ => by kernel_rfl) ?_
  refine WO.nil ?_
  refine En.next ?_
  refine W.cond (b := (r6 != 0)) rfl rfl (fun hc => ?_) (fun hc => ?_)
  · replace hr := cond_t hc hr
    refine W.seq ?_
    refine W.region (l := [0, 1, 2]) (by kernel_rfl) ?_
    refine WO.vals [(0, 14, (.int .i64 r6)), (1, 4, (.slice none 0 0)), (2, 5, (.int .i64 r6))] (by kernel_rfl) (fun _ => by kernel_rfl) ?_
    refine WO.nil ?_
    refine En.next ?_
    refine W.ret ?_
    refine En.nx_ret ?_
    have he := Option.some.inj hr
    subst r
    exact En.ret2 rfl (.slice none 0 0) (.int .i64 r6) rfl rfl ⟨I3, none, 0, rfl, hl4, hS5, SlAt.nil⟩
  · replace hr := cond_f hc hr
    refine W.skip ?_
    refine En.next ?_
    refine W.seq ?_
    refine W.block ?_
    refine W.seq ?_
    refine W.region (l := [0, 1, 2, 3]) (by kernel_rfl) ?_
    refine WO.vals [(0, 16, (.string p1))] (by kernel_rfl) (fun _ => by kernel_rfl) ?_
    obtain ⟨r12, hx_r7, hr⟩ := bind_some hr
    refine WO.call rfl (by kernel_rfl) rfl (f := 33) (args := #[(.string p1)]) (by kernel_rfl) (lex_IsName_ok  hS5 hx_r7) ?_
    rintro _ w8 ⟨I9, rfl, hl10, hS11⟩
    refine ⟨_, rfl, trivial, ?_⟩
    refine WO.vals [(2, 18, (.bool (!r12))), (3, 15, (.bool (!r12)))] (by kernel_rfl) (fun _ => by kernel_rfl) ?_
    refine WO.nil ?_
    refine En.next ?_
    refine W.cond (b := (!r12)) rfl rfl (fun hc => ?_) (fun hc => ?_)
    · replace hr := cond_t hc hr
      refine W.seq ?_
      refine W.region (l := [0, 1]) (by kernel_rfl) ?_
      refine WO.vals [(0, 4, (.slice none 0 0)), (1, 5, (.int .i64 18))] (by kernel_rfl) (fun _ => by kernel_rfl) ?_
      refine WO.nil ?_
      refine En.next ?_
      refine W.ret ?_
      refine En.in_ret ?_
      refine En.nx_ret ?_
      have he := Option.some.inj hr
      subst r
      exact En.ret2 rfl (.slice none 0 0) (.int .i64 18) rfl rfl ⟨I9, none, 0, rfl, (hl4.trans hl10), hS11, SlAt.nil⟩
    · replace hr := cond_f hc hr
      refine W.seq ?_
      refine W.region (l := [0, 1, 2, 3, 4]) (by kernel_rfl) ?_
      refine WO.vals [(0, 20, (.slice a_p0 p0.length c_p0)), (1, 21, (.string p1))] (by kernel_rfl) (fun _ => by kernel_rfl) ?_
      obtain ⟨r18, hx_r13, hr⟩ := bind_some hr
      refine WO.call rfl (by kernel_rfl) rfl (f := 23) (args := #[(.slice a_p0 p0.length c_p0), (.string p1)]) (by kernel_rfl) (member_at_ok (RSl.mono h_p0 (hl4.trans hl10)) hS11 hx_r13) ?_
      rintro _ w14 ⟨I15, rfl, hl16, hS17⟩
      refine ⟨_, rfl, trivial, ?_⟩
      refine WO.vals [(3, 23, (.bool (decide (r18 ≥ 0)))), (4, 19, (.bool (decide (r18 ≥ 0))))] (by kernel_rfl) (fun _ => by kernel_rfl) ?_
      refine WO.nil ?_
      refine En.next ?_
      refine W.cond (b := (decide (r18 ≥ 0))) rfl rfl (fun hc => ?_) (fun hc => ?_)
      · replace hr := cond_t hc hr
        refine W.seq ?_
        refine W.region (l := [0, 1]) (by kernel_rfl) ?_
        refine WO.vals [(0, 4, (.slice none 0 0)), (1, 5, (.int .i64 19))] (by kernel_rfl) (fun _ => by kernel_rfl) ?_
        refine WO.nil ?_
        refine En.next ?_
        refine W.ret ?_
        refine En.in_ret ?_
        refine En.nx_ret ?_
        have he := Option.some.inj hr
        subst r
        exact En.ret2 rfl (.slice none 0 0) (.int .i64 19) rfl rfl ⟨I15, none, 0, rfl, ((hl4.trans hl10).trans hl16), hS17, SlAt.nil⟩
      · replace hr := cond_f hc hr
        refine W.seq ?_
        refine W.region (l := [0, 1, 2, 3]) (by kernel_rfl) ?_
        refine WO.vals [(0, 25, (.slice a_p0 p0.length c_p0)), (1, 26, (.int .i64 (p0.length : Int))), (2, 27, (.bool ((p0.length : Int) == 8))), (3, 24, (.bool ((p0.length : Int) == 8)))] (by kernel_rfl) (fun _ => by kernel_rfl) ?_
        refine WO.nil ?_
        refine En.next ?_
        refine W.cond (b := ((p0.length : Int) == 8)) rfl rfl (fun hc => ?_) (fun hc => ?_)
        · replace hr := cond_t hc hr
          refine W.seq ?_
          refine W.region (l := [0, 1]) (by kernel_rfl) ?_
          refine WO.vals [(0, 4, (.slice none 0 0)), (1, 5, (.int .i64 5))] (by kernel_rfl) (fun _ => by kernel_rfl) ?_
          refine WO.nil ?_
          refine En.next ?_
          refine W.ret ?_
          refine En.in_ret ?_
          refine En.nx_ret ?_
          have he := Option.some.inj hr
          subst r
          exact En.ret2 rfl (.slice none 0 0) (.int .i64 5) rfl rfl ⟨I15, none, 0, rfl, ((hl4.trans hl10).trans hl16), hS17, SlAt.nil⟩
        · replace hr := cond_f hc hr
          refine W.skip ?_
          refine En.in_normal ?_
          refine En.next ?_
          refine W.seq ?_
          refine W.region (l := [0, 1, 2]) (by kernel_rfl) ?_
          refine WO.vals [(0, 28, (.slice a_p0 p0.length c_p0))] (by kernel_rfl) (fun _ => by kernel_rfl) ?_
          have hr0 := hr
          unfold createT at hr0
          split at hr0
          rotate_left
          · cases hr0
          rename_i hfit
          obtain ⟨ns, hns, hr0⟩ := bind_some hr0
          obtain ⟨⟨k0, f0⟩, hk0, hr0⟩ := bind_some hr0
          obtain ⟨y0, hy0, hr0⟩ := bind_some hr0
          obtain ⟨kn, rfl, j1, j2, rfl⟩ := insO_some hy0
          have he := Option.some.inj hr0
          subst he
          refine WO.call rfl (by kernel_rfl) rfl (f := 39) (args := #[(.slice a_p0 p0.length c_p0)]) (by kernel_rfl) (clone2_ok (RSl.mono h_p0 ((hl4.trans hl10).trans hl16)) hS17 hfit) ?_
          rintro _ qw1 ⟨QI0, a, c, C, rs, Ds, rfl, ql0, qS0, ho0, hn0⟩
          refine ⟨_, rfl, trivial, ?_⟩
          refine WO.vals [(2, 7, (.slice a p0.length c))] (by kernel_rfl) (fun _ => by kernel_rfl) ?_
          refine WO.nil ?_
          refine En.next ?_
          refine W.seq ?_
          obtain ⟨QI1, ql1, qS1, ho1⟩ := hn0.own ho0 qS0
          refine W.region (l := [0, 1, 2, 3, 4, 5, 6, 7, 8]) (by kernel_rfl) ?_
          refine WO.vals [(0, 31, (.slice a p0.length c))] (by kernel_rfl) (fun _ => by kernel_rfl) ?_
          refine WO.call rfl (by kernel_rfl) rfl (f := 31) (args := #[(.slice a p0.length c)]) (by kernel_rfl) (member_names_ok (ho1.publish qS1) qS1.publish hns) ?_
          rintro _ qw2 ⟨QI2, na, nc, R, rfl, ql2, qS2, hR⟩
          have qS3 := st_back1 qS1 ql2 qS2
          have hR3 : OwnSl 9 1 RStr QI1 R na nc ns := own_str hR
          refine ⟨_, rfl, trivial, ?_⟩
          obtain ⟨QI4, ql4, qS4, hp4⟩ := OwnSl.pub hR3 qS3
          refine WO.vals [(2, 33, (.string p1))] (by kernel_rfl) (fun _ => by kernel_rfl) ?_
          refine WO.call rfl (by kernel_rfl) rfl (f := 40) (args := #[(.slice na ns.length nc), (.string p1)]) (by kernel_rfl) (slices_BinarySearch_string_ok hp4 qS4 hk0) ?_
          rintro _ qw5 ⟨QI5, rfl, ql5, qS5⟩
          refine ⟨_, rfl, trivial, ?_⟩
          refine WO.vals [(4, 30, (.tuple #[(.int .i64 (kn : Int)), (.bool f0)])), (5, 35, (.int .i64 (kn : Int))), (6, 36, (.bool f0)), (7, 8, (.int .i64 (kn : Int))), (8, 9, (.bool f0))] (by kernel_rfl) (fun _ => by kernel_rfl) ?_
          refine WO.nil ?_
          refine En.next ?_
          refine W.seq ?_
          refine W.region (l := [0, 1, 2, 3, 4, 5, 6, 7]) (by kernel_rfl) ?_
          refine WO.vals [(0, 37, (.slice a p0.length c)), (1, 38, (.int .i64 (kn : Int))), (2, 39, (.string p1)), (3, 40, (.agg (cs_api_Role ({ z_api_Role with Name := p1 }) (⟨⟨none, 0⟩⟩ : W_api_Role)).toArray))] (by kernel_rfl) (fun _ => by kernel_rfl) ?_
          refine WO.newSlice (rel := R_api_Role) (xs := ([{ z_api_Role with Name := p1 }] : List api_Role)) qS5 rfl (by kernel_rfl) rfl 27 2 [(cs_api_Role ({ z_api_Role with Name := p1 }) (⟨⟨none, 0⟩⟩ : W_api_Role))] (by kernel_rfl) rfl (Elr.cons ⟨⟨⟨none, 0⟩⟩, rfl, ⟨SlAt.nil⟩⟩ Elr.nil) (fun _ _ _ => trivial) ?_
          intro va V qw6 qS6 hv
          refine WO.call rfl (by kernel_rfl) rfl (f := 52) (args := #[(.slice a p0.length c), (.int .i64 (kn : Int)), (.slice va ([{ z_api_Role with Name := p1 }] : List api_Role).length 1)]) (by kernel_rfl) (ins52_ok (ho1.mono (ql4.trans ql5)) hv qS6.front1 (i := kn) j1 (by simp) j2) ?_
          rintro _ qw7 ⟨a2, c2, C2, rfl, qS7, h7⟩
          refine ⟨_, rfl, trivial, ?_⟩
          obtain ⟨QI9, ql9, qS9, hp9⟩ := OwnSl.pub h7 qS7
          refine WO.vals [(6, 4, (.slice a2 (p0.take kn ++ [{ z_api_Role with Name := p1 }] ++ p0.drop kn).length c2)), (7, 5, (.int .i64 0))] (by kernel_rfl) (fun _ => by kernel_rfl) ?_
          refine WO.nil ?_
          refine En.next ?_
          refine W.ret ?_
          exact En.ret2 rfl (.slice a2 (p0.take kn ++ [{ z_api_Role with Name := p1 }] ++ p0.drop kn).length c2) (.int .i64 0) rfl rfl ⟨QI9, a2, c2, rfl, ((hl4.trans hl10).trans hl16).trans (ql0.trans (ql1.trans (ql4.trans (ql5.trans ql9)))), qS9.drop, hp9⟩
set_option maxHeartbeats 1000000 in
theorem del44_ok {E w : World} {I C : Mem} {Os : List Mem} {xs : List RawRole} {a : Option Addr} {cap : Nat} (h : OwnSl 27 2 R_Raw I C a cap xs) (hS : St E w I (C :: Os)) {p q : Nat} (hpq : p < q) (hq : q ≤ xs.length) :
    Calls P 44 #[.slice a xs.length cap, .int .i64 (p : Int), .int .i64 (q : Int)] w (fun e w' => ∃ (C' : Mem), e = .returned (.slice a (xs.take p ++ xs.drop q).length cap) ∧ St E w' I (C' :: Os) ∧ OwnSl 27 2 R_Raw I C' a cap (xs.take p ++ xs.drop q)) := by
  have hxl := h.sl.le
  have hxc := h.sl.lt
  have hlen : (xs.take p ++ xs.drop q).length = p + (xs.length - q) := by simp; omega
  refine calls_W (args := [.slice a xs.length cap, .int .i64 (p : Int), .int .i64 (q : Int)]) (fn := Try.f44) rfl rfl rfl ?_
  refine W.seq ?_
  refine W.region (l := [0]) (by kernel_rfl) ?_
  refine WO.vals [(0, 6, (.slice none 0 0))] (by kernel_rfl) (fun _ => by kernel_rfl) ?_
  refine WO.nil ?_
  refine En.next ?_
  refine W.seq ?_
  refine W.region (l := [0, 1, 2, 3, 4, 5]) (by kernel_rfl) ?_
  refine WO.vals [(0, 8, (.slice a xs.length cap)), (1, 9, (.int .i64 (p : Int))), (2, 10, (.int .i64 (q : Int))), (3, 11, (.slice a xs.length cap)), (4, 12, (.int .i64 (xs.length : Int)))] (by kernel_rfl) (fun _ => by kernel_rfl) ?_
  refine WO.slice3 (e := 27) (sz := 2) rfl (by kernel_rfl) (by kernel_rfl) (by kernel_rfl) rfl p q xs.length rfl rfl rfl (by omega) hq hxl ?_
  refine WO.nil ?_
  refine En.next ?_
  refine W.seq ?_
  refine W.seq ?_
  refine W.region (l := [0, 1, 2]) (by kernel_rfl) ?_
  refine WO.vals [(0, 14, (.int .i64 (p : Int))), (1, 15, (.int .i64 (q : Int))), (2, 16, (.bool ((p : Int) == (q : Int))))] (by kernel_rfl) (fun _ => by kernel_rfl) ?_
  refine WO.nil ?_
  refine En.next ?_
  refine W.cond (b := ((p : Int) == (q : Int))) rfl rfl (fun hc => ?_) (fun hc => ?_)
  · exfalso
    simp at hc
    omega
  clear hc
  refine W.skip ?_
  refine En.next ?_
  refine W.seq ?_
  refine W.region (l := [0, 1, 2]) (by kernel_rfl) ?_
  refine WO.vals [(0, 18, (.slice a xs.length cap)), (1, 19, (.int .i64 (xs.length : Int))), (2, 7, (.int .i64 (xs.length : Int)))] (by kernel_rfl) (fun _ => by kernel_rfl) ?_
  refine WO.nil ?_
  refine En.next ?_
  refine W.seq ?_
  have hS1 := hS.drew
  refine W.draw (l := [0, 1, 2, 3, 4, 5, 6, 7]) (by kernel_rfl) 6 (KR I []) qR (.back (by kernel_rfl)) (by kernel_rfl) (KR.nil hS1.im) ?_
  generalize World.drew _ = w1 at *
  refine WO.vals [(0, 20, (.slice a xs.length cap)), (1, 21, (.int .i64 (p : Int)))] (by kernel_rfl) (fun _ => by kernel_rfl) ?_
  refine WO.slice (e := 27) (sz := 2) rfl (by kernel_rfl) (by kernel_rfl) (by kernel_rfl) rfl (0 : Int) (p : Int) (by omega) (.inl ⟨rfl, rfl⟩) (.inr ⟨_, _, rfl, rfl⟩) (by omega) (by omega) ?_
  refine WO.vals [(3, 23, (.slice a xs.length cap)), (4, 24, (.int .i64 (q : Int)))] (by kernel_rfl) (fun _ => by kernel_rfl) ?_
  refine WO.slice (e := 27) (sz := 2) rfl (by kernel_rfl) (by kernel_rfl) (by kernel_rfl) rfl (q : Int) (xs.length : Int) (by omega) (.inr ⟨_, _, rfl, rfl⟩) (.inl ⟨rfl, rfl⟩) (by omega) (by omega) ?_
  refine WO.tail rfl ?_
  refine WO.appendSelf (T := 27) (e' := 27) (b := 40) (zs := #[(.string (⟨#[]⟩ : ByteArray)), (.slice none 0 0)]) hS1 h rfl (by kernel_rfl) rfl (by kernel_rfl) (by kernel_rfl) (by kernel_rfl) (Nat.le_of_lt hpq) hq rfl rfl (fun _ _ _ => trivial) ?_
  intro w2 C2 hS2 h2
  refine WO.vals [(7, 0, (.slice a (p + (xs.length - q)) cap))] (by kernel_rfl) (fun _ => by kernel_rfl) ?_
  refine WO.nil ?_
  refine En.next ?_
  have hfl : (xs.take p ++ xs.drop q ++ xs.drop (p + (xs.length - q))).length = xs.length := by simp; omega
  refine W.seq ?_
  refine W.region (l := [0, 1, 2, 3, 4, 5]) (by kernel_rfl) ?_
  refine WO.vals [(0, 27, (.slice a (p + (xs.length - q)) cap)), (1, 28, (.slice a (p + (xs.length - q)) cap)), (2, 29, (.int .i64 ((p + (xs.length - q) : Nat) : Int))), (3, 30, (.int .i64 (xs.length : Int)))] (by kernel_rfl) (fun _ => by kernel_rfl) ?_
  refine WO.slice (e := 27) (sz := 2) rfl (by kernel_rfl) (by kernel_rfl) (by kernel_rfl) rfl ((p + (xs.length - q) : Nat) : Int) (xs.length : Int) (by omega) (.inr ⟨_, _, rfl, rfl⟩) (.inr ⟨_, _, rfl, rfl⟩) (by omega) (by omega) ?_
  refine WO.clear hS2 h2 (e := 27) (by kernel_rfl) (zs := [(.string (⟨#[]⟩ : ByteArray)), (.slice none 0 0)]) (by kernel_rfl) (z0 := (⟨(⟨#[]⟩ : ByteArray), none, 0, 0⟩ : RawRole)) rfl (by kernel_rfl) (by kernel_rfl) (by kernel_rfl) rfl (by kernel_rfl) rfl (lo := p + (xs.length - q)) (by rw [hfl]; omega) (by rw [hfl]; rfl) (fun _ _ _ => trivial) ?_
  intro w3 C3 hS3 h3
  refine WO.nil ?_
  refine En.next ?_
  refine W.seq ?_
  refine W.region (l := [0, 1]) (by kernel_rfl) ?_
  refine WO.vals [(0, 32, (.slice a (p + (xs.length - q)) cap)), (1, 6, (.slice a (p + (xs.length - q)) cap))] (by kernel_rfl) (fun _ => by kernel_rfl) ?_
  refine WO.nil ?_
  refine En.next ?_
  refine W.ret ?_
  rw [hlen]
  refine En.ret1 rfl (.slice a (p + (xs.length - q)) cap) rfl ⟨C3, rfl, hS3, ?_⟩
  have h4 := h3.shorter (p + (xs.length - q))
  rwa [List.take_append_of_le_length (by rw [List.length_take, hfl]; omega), List.take_take, Nat.min_self, List.take_append_of_le_length (by rw [hlen]; exact Nat.le_refl _), List.take_of_length_le (by rw [hlen]; exact Nat.le_refl _)] at h4

noncomputable def slices_DeleteFunc_string (p0 : List ByteArray) (p1 : ByteArray → Option Bool) : Option (List ByteArray) := (slices_IndexFunc_string p0 p1).bind (fun (r8 : Int) => (bif (r8 == (-1)) then some p0 else (loopO (fun (s : Int × Int × (List ByteArray)) => match s with | (s13, s14, s15) => (bif (decide (s14 < (s15.length : Int))) then (idx s15 s14).bind (fun (x20 : ByteArray) => (p1 x20).bind (fun (r26 : Bool) => ((bif (!r26) then (idx s15 s13).bind (fun (x31 : ByteArray) => some ((w64 (s13 + 1)), (s15.set (s13).toNat x20))) else some (s13, s15))).bind (fun ((s36, s37) : Int × (List ByteArray)) => some (.inl (s36, (w64 (s14 + 1)), s37))))) else some (.inr (s13, s15)))) (r8, (w64 (r8 + 1)), p0)).bind (fun ((s41, s42) : Int × (List ByteArray)) => (sub s42 s41 (s42.length : Int)).bind (fun (x43 : List ByteArray) => (sub (s42.take (s41).toNat ++ List.replicate (s42.length - (s41).toNat) (⟨#[]⟩ : ByteArray)) 0 s41).bind (fun (x48 : List ByteArray) => some x48)))))
set_option maxHeartbeats 1000000 in
theorem slices_DeleteFunc_string_ok {E w : World} {I : Mem} {Os : List Mem} {p0 : List ByteArray} {p1 : ByteArray → Option Bool} {a_p0 : Option Addr} {c_p0 : Nat} {C_p0 : Mem} {g_p1 : FuncId} {k_p1 : List Value} (h_p0 : OwnSl 9 1 RStr I C_p0 a_p0 c_p0 p0) (h_p1 : ∀ {F : List Mem} {I' : Mem} {w : World} {u0 : ByteArray}, I.Le I' → St E w I' (F ++ Os) → ∀ {r : Bool}, p1 u0 = some r → Calls P g_p1 (([(.string u0)] : List Value) ++ k_p1).toArray w (fun e w' => ∃ (I'' : Mem), e = .returned (.bool r) ∧ I'.Le I'' ∧ St E w' I'' (F ++ Os))) (hcall_p1 : Callable P g_p1) (hS : St E w I ((C_p0) :: Os)) {r : (List ByteArray)} (hr : slices_DeleteFunc_string p0 p1 = some r) :
    Calls P 42 #[(.slice a_p0 p0.length c_p0), (.func (.func g_p1) #[] k_p1.toArray)] w (fun e w' => ∃ (I' : Mem) (ra0 : Option Addr) (rc0 : Nat) (rC0 : Mem), e = .returned (.slice ra0 r.length rc0) ∧ I.Le I' ∧ St E w' I' (rC0 :: Os) ∧ OwnSl 9 1 RStr I' rC0 ra0 rc0 r) := by
  refine calls_W (args := [(.slice a_p0 p0.length c_p0), (.func (.func g_p1) #[] k_p1.toArray)]) (fn := Try.f42) rfl rfl rfl ?_
  unfold slices_DeleteFunc_string at hr
  refine W.seq ?_
  refine W.region (l := [0]) (by kernel_rfl) ?_
  refine WO.vals [(0, 4, (.slice none 0 0))] (by kernel_rfl) (fun _ => by kernel_rfl) ?_
  refine WO.nil ?_
  refine En.next ?_
  refine W.seq ?_
  refine W.region (l := [0, 1, 2, 3]) (by kernel_rfl) ?_
  refine WO.vals [(0, 8, (.slice a_p0 p0.length c_p0)), (1, 9, (.func (.func g_p1) #[] k_p1.toArray))] (by kernel_rfl) (fun _ => by kernel_rfl) ?_
  have hS1 := hS.publish
  have hp2 := (h_p0).publish hS
  obtain ⟨r8, hx_r3, hr⟩ := bind_some hr
  refine WO.call rfl (by kernel_rfl) rfl (f := 54) (args := #[(.slice a_p0 p0.length c_p0), (.func (.func g_p1) #[] k_p1.toArray)]) (by kernel_rfl) (slices_IndexFunc_string_ok hp2 (fun {F Ic wc} {_} hlc hSc  {rc} hrc => h_p1 ((Mem.le_with I C_p0).trans hlc) hSc  hrc) hcall_p1 hS1 hx_r3) ?_
  rintro _ w4 ⟨I5, rfl, hl6, hS7⟩
  have hS9 := St.back hS hl6 hS7
  refine ⟨_, rfl, trivial, ?_⟩
  refine WO.vals [(3, 5, (.int .i64 r8))] (by kernel_rfl) (fun _ => by kernel_rfl) ?_
  refine WO.nil ?_
  refine En.next ?_
  refine W.seq ?_
  refine W.seq ?_
  refine W.region (l := [0, 1]) (by kernel_rfl) ?_
  refine WO.vals [(0, 11, (.int .i64 r8)), (1, 12, (.bool (r8 == (-1))))] (by kernel_rfl) (fun _ => by kernel_rfl) ?_
  refine WO.nil ?_
  refine En.next ?_
  refine W.cond (b := (r8 == (-1))) rfl rfl (fun hc => ?_) (fun hc => ?_)
  · replace hr := cond_t hc hr
    refine W.seq ?_
    refine W.region (l := [0, 1]) (by kernel_rfl) ?_
    refine WO.vals [(0, 13, (.slice a_p0 p0.length c_p0)), (1, 4, (.slice a_p0 p0.length c_p0))] (by kernel_rfl) (fun _ => by kernel_rfl) ?_
    refine WO.nil ?_
    refine En.next ?_
    refine W.ret ?_
    refine En.nx_ret ?_
    have he := Option.some.inj hr
    subst r
    exact En.ret1 rfl (.slice a_p0 p0.length c_p0) rfl ⟨I, a_p0, c_p0, C_p0, rfl, Mem.Le.refl _, hS9, h_p0⟩
  · replace hr := cond_f hc hr
    refine W.skip ?_
    refine En.next ?_
    refine W.seq ?_
    refine W.seq ?_
    refine W.region (l := [0, 1, 2]) (by kernel_rfl) ?_
    refine WO.vals [(0, 14, (.int .i64 r8)), (1, 15, (.int .i64 (w64 (r8 + 1)))), (2, 6, (.int .i64 (w64 (r8 + 1))))] (by kernel_rfl) (fun _ => by kernel_rfl) ?_
    refine WO.nil ?_
    refine En.next ?_
    refine W.block ?_
    obtain ⟨t10, hloop16, hr⟩ := bind_some hr
    refine W.weaken (fr' := [(0, (.slice a_p0 p0.length c_p0)), (1, (.func (.func g_p1) #[] k_p1.toArray)), (5, (.int .i64 r8)), (6, (.int .i64 (w64 (r8 + 1))))]) (W.loopO hloop16 (fun (s : Int × Int × (List ByteArray)) fr w => match s with | (s13, s14, s15) => ∃ (I11 : Mem), ∃ (C_s15 : Mem), fr = [(0, (.slice a_p0 s15.length c_p0)), (1, (.func (.func g_p1) #[] k_p1.toArray)), (5, (.int .i64 s13)), (6, (.int .i64 s14))] ∧ I.Le I11 ∧ St E w I11 ((C_s15) :: Os) ∧ OwnSl 9 1 RStr I11 C_s15 a_p0 c_p0 s15) ⟨I, C_p0, rfl, Mem.Le.refl _, hS9, h_p0⟩ ?_) (Sub.cons rfl (Sub.cons rfl (Sub.cons rfl (Sub.cons rfl Sub.nil))))
    rintro ⟨s13, s14, s15⟩ _ w17 ⟨I11, C_s15, rfl, hl12, hS18, h_s15⟩ x19 hr1 hext10
    refine W.seq ?_
    refine W.seq ?_
    refine W.region (l := [0, 1, 2, 3]) (by kernel_rfl) ?_
    refine WO.vals [(0, 16, (.int .i64 s14)), (1, 17, (.slice a_p0 s15.length c_p0)), (2, 18, (.int .i64 (s15.length : Int))), (3, 19, (.bool (decide (s14 < (s15.length : Int)))))] (by kernel_rfl) (fun _ => by kernel_rfl) ?_
    refine WO.nil ?_
    refine En.next ?_
    refine W.cond (b := (decide (s14 < (s15.length : Int)))) rfl rfl (fun hc => ?_) (fun hc => ?_)
    · replace hr1 := cond_t hc hr1
      refine W.skip ?_
      refine En.next ?_
      refine W.seq ?_
      refine W.block ?_
      refine W.seq ?_
      refine W.region (l := [0, 1, 2, 3, 4]) (by kernel_rfl) ?_
      refine WO.vals [(0, 22, (.slice a_p0 s15.length c_p0)), (1, 23, (.int .i64 s14))] (by kernel_rfl) (fun _ => by kernel_rfl) ?_
      obtain ⟨x20, hx_x20, hr1⟩ := bind_some hr1
      obtain ⟨h0_x20, h1_x20, hx_x20⟩ := idx_some hx_x20
      obtain ⟨ha_x20, cs_x20, hn_x20, hr_x20, hc_x20⟩ := (h_s15.sl).el _ _ hx_x20
      obtain rfl := hr_x20
      refine WO.indexAddr (e := 9) (sz := 1) rfl (by kernel_rfl) (by kernel_rfl) (by kernel_rfl) rfl ha_x20 rfl h0_x20 h1_x20 ?_
      refine WO.load rfl (by kernel_rfl) (by kernel_rfl) rfl (v := (.string x20)) (fun w' hw' => hc_x20.cell0 (by kernel_rfl) ((rd_f (hS18.rd (List.Mem.head _))) w' hw')) ?_
      refine WO.vals [(4, 7, (.string x20))] (by kernel_rfl) (fun _ => by kernel_rfl) ?_
      refine WO.nil ?_
      refine En.next ?_
      refine W.seq ?_
      refine W.region (l := [0, 1, 2, 3]) (by kernel_rfl) ?_
      refine WO.vals [(0, 26, (.func (.func g_p1) #[] k_p1.toArray)), (1, 27, (.string x20))] (by kernel_rfl) (fun _ => by kernel_rfl) ?_
      obtain ⟨r26, hx_r21, hr1⟩ := bind_some hr1
      refine WO.callv rfl (by kernel_rfl) rfl (g := g_p1) (kk := k_p1) (args := [(.string x20)]) rfl (by kernel_rfl) hcall_p1 (h_p1 (F := [C_s15]) hl12 hS18  hx_r21) ?_
      rintro _ w22 ⟨I23, rfl, hl24, hS25⟩
      refine ⟨_, rfl, trivial, ?_⟩
      refine WO.vals [(3, 29, (.bool (!r26)))] (by kernel_rfl) (fun _ => by kernel_rfl) ?_
      refine WO.nil ?_
      refine En.next ?_
      obtain ⟨j27, hr2, hr1⟩ := bind_some hr1
      refine W.join (J := (fun fr w => ∃ (s36 : Int), ∃ (s37 : List ByteArray), ∃ (I29 : Mem), ∃ (C_s37 : Mem), (s36, s37) = j27 ∧ fr = [(0, (.slice a_p0 s37.length c_p0)), (1, (.func (.func g_p1) #[] k_p1.toArray)), (5, (.int .i64 s36)), (6, (.int .i64 s14))] ∧ I23.Le I29 ∧ St E w I29 ((C_s37) :: Os) ∧ OwnSl 9 1 RStr I29 C_s37 a_p0 c_p0 s37)) ?restj27 ?waysj27
      case waysj27 =>
        refine W.cond (b := (!r26)) rfl rfl (fun hc => ?_) (fun hc => ?_)
        · replace hr2 := cond_t hc hr2
          refine W.seq ?_
          refine W.region (l := [0, 1, 2, 3, 4]) (by kernel_rfl) ?_
          refine WO.vals [(0, 30, (.slice a_p0 s15.length c_p0)), (1, 31, (.int .i64 s13)), (2, 32, (.string x20))] (by kernel_rfl) (fun _ => by kernel_rfl) ?_
          obtain ⟨x31, hx_x31, hr2⟩ := bind_some hr2
          obtain ⟨h0_x31, h1_x31, hx_x31⟩ := idx_some hx_x31
          obtain ⟨ha_x31, cs_x31, hn_x31, hr_x31, hc_x31⟩ := ((h_s15.mono hl24).sl).el _ _ hx_x31
          obtain rfl := hr_x31
          refine WO.indexAddr (e := 9) (sz := 1) rfl (by kernel_rfl) (by kernel_rfl) (by kernel_rfl) rfl ha_x31 rfl h0_x31 h1_x31 ?_
          refine WO.storeOwn hS25 (OwnSl.mono h_s15 hl24) rfl (by kernel_rfl) rfl hx_x31 (u' := x20) 0 rfl rfl (by kernel_rfl) rfl rfl (fun cs hrel => (by obtain rfl := hrel; exact rfl)) (fun _ _ _ => trivial) ?_
          intro w33 C34 hS32 ho35
          refine WO.reslot 0 rfl (show Value.slice a_p0 s15.length c_p0 = Value.slice a_p0 (s15.set (s13).toNat x20).length c_p0 by simp only [List.length_set]) ?_
          refine WO.nil ?_
          refine En.next ?_
          refine W.region (l := [0, 1, 2]) (by kernel_rfl) ?_
          refine WO.vals [(0, 34, (.int .i64 s13)), (1, 35, (.int .i64 (w64 (s13 + 1)))), (2, 5, (.int .i64 (w64 (s13 + 1))))] (by kernel_rfl) (fun _ => by kernel_rfl) ?_
          refine WO.nil ?_
          refine En.weaken (fr' := [(0, (.slice a_p0 (s15.set (s13).toNat x20).length c_p0)), (1, (.func (.func g_p1) #[] k_p1.toArray)), (5, (.int .i64 (w64 (s13 + 1)))), (6, (.int .i64 s14))]) (En.round ⟨(w64 (s13 + 1)), (s15.set (s13).toNat x20), I23, C34, Option.some.inj hr2, rfl, Mem.Le.refl _, hS32, ho35⟩) (Sub.cons rfl (Sub.cons rfl (Sub.cons rfl (Sub.cons rfl Sub.nil))))
        · replace hr2 := cond_f hc hr2
          refine W.skip ?_
          refine En.weaken (fr' := [(0, (.slice a_p0 s15.length c_p0)), (1, (.func (.func g_p1) #[] k_p1.toArray)), (5, (.int .i64 s13)), (6, (.int .i64 s14))]) (En.round ⟨s13, s15, I23, C_s15, Option.some.inj hr2, rfl, Mem.Le.refl _, hS25, (OwnSl.mono h_s15 hl24)⟩) (Sub.cons rfl (Sub.cons rfl (Sub.cons rfl (Sub.cons rfl Sub.nil))))
      case restj27 =>
        rintro _ w38 ⟨s36, s37, I29, C_s37, rfl, rfl, hl30, hS39, h_s37⟩
        refine En.in_normal ?_
        refine En.next ?_
        refine W.region (l := [0, 1, 2]) (by kernel_rfl) ?_
        refine WO.vals [(0, 20, (.int .i64 s14)), (1, 21, (.int .i64 (w64 (s14 + 1)))), (2, 6, (.int .i64 (w64 (s14 + 1))))] (by kernel_rfl) (fun _ => by kernel_rfl) ?_
        refine WO.nil ?_
        refine En.weaken (fr' := [(0, (.slice a_p0 s37.length c_p0)), (1, (.func (.func g_p1) #[] k_p1.toArray)), (5, (.int .i64 s36)), (6, (.int .i64 (w64 (s14 + 1))))]) (En.round ⟨(s36, (w64 (s14 + 1)), s37), (Option.some.inj hr1).symm, I29, C_s37, rfl, ((hl12.trans hl24).trans hl30), hS39, h_s37⟩) (Sub.cons rfl (Sub.cons rfl (Sub.cons rfl (Sub.cons rfl Sub.nil))))
    · replace hr1 := cond_f hc hr1
      refine W.exit ?_
      refine En.nx_exit ?_
      refine En.rd_exit ?_
      have ht := hext10 _ (Option.some.inj hr1).symm
      subst t10
      refine En.in_hit ?_
      refine En.next ?_
      refine W.seq ?_
      refine W.region (l := [0, 1, 2, 3]) (by kernel_rfl) ?_
      refine WO.vals [(0, 36, (.slice a_p0 s15.length c_p0)), (1, 37, (.int .i64 s13))] (by kernel_rfl) (fun _ => by kernel_rfl) ?_
      obtain ⟨x50, hx_x50, hr⟩ := bind_some hr
      obtain ⟨h0_x50, h1_x50, h2_x50, he_x50⟩ := sub_some hx_x50
      have hl_x50 : ((s15.length : Int) : Int) ≤ (c_p0 : Int) := Int.le_trans h2_x50 (Int.ofNat_le.2 (h_s15).sl.le)
      refine WO.slice (e := 9) (sz := 1) rfl (by kernel_rfl) (by kernel_rfl) (by kernel_rfl) rfl (s13 : Int) ((s15.length : Int) : Int) h0_x50 (.inr ⟨_, _, rfl, rfl⟩) (.inl ⟨rfl, rfl⟩) h1_x50 hl_x50 ?_
      refine WO.reslot 38 rfl (show _ = Value.slice (subA a_p0 c_p0 (s13).toNat 1) (s15.length - (s13).toNat) (c_p0 - (s13).toNat) from rfl) ?_
      have hlo_C51 : (s13).toNat ≤ s15.length := by first | omega | (simp only [List.length_set]; omega)
      refine WO.clear hS18 h_s15 (t := 25) (e := 9) (by kernel_rfl) (zs := [(.string (⟨#[]⟩ : ByteArray))]) (by kernel_rfl) (z0 := (⟨#[]⟩ : ByteArray)) rfl (by kernel_rfl) (by kernel_rfl) (by kernel_rfl) rfl (by kernel_rfl) rfl (lo := (s13).toNat) hlo_C51 rfl (fun _ _ _ => trivial) ?_
      intro w53 C51 hS52 ho54
      refine WO.reslot 0 rfl (show Value.slice a_p0 s15.length c_p0 = Value.slice a_p0 (s15.take (s13).toNat ++ List.replicate (s15.length - (s13).toNat) (⟨#[]⟩ : ByteArray)).length c_p0 by congr 1; simp only [List.length_append, List.length_take, List.length_replicate]; omega) ?_
      refine WO.reslot 17 rfl (show Value.slice a_p0 s15.length c_p0 = Value.slice a_p0 (s15.take (s13).toNat ++ List.replicate (s15.length - (s13).toNat) (⟨#[]⟩ : ByteArray)).length c_p0 by congr 1; simp only [List.length_append, List.length_take, List.length_replicate]; omega) ?_
      refine WO.reslot 36 rfl (show Value.slice a_p0 s15.length c_p0 = Value.slice a_p0 (s15.take (s13).toNat ++ List.replicate (s15.length - (s13).toNat) (⟨#[]⟩ : ByteArray)).length c_p0 by congr 1; simp only [List.length_append, List.length_take, List.length_replicate]; omega) ?_
      refine WO.nil ?_
      refine En.next ?_
      refine W.seq ?_
      refine W.region (l := [0, 1, 2, 3]) (by kernel_rfl) ?_
      refine WO.vals [(0, 39, (.slice a_p0 (s15.take (s13).toNat ++ List.replicate (s15.length - (s13).toNat) (⟨#[]⟩ : ByteArray)).length c_p0)), (1, 40, (.int .i64 s13))] (by kernel_rfl) (fun _ => by kernel_rfl) ?_
      obtain ⟨x55, hx_x55, hr⟩ := bind_some hr
      obtain ⟨h0_x55, h1_x55, h2_x55, he_x55⟩ := sub_some hx_x55
      have hl_x55 : (s13 : Int) ≤ (c_p0 : Int) := Int.le_trans h2_x55 (Int.ofNat_le.2 (ho54).sl.le)
      refine WO.slice (e := 9) (sz := 1) rfl (by kernel_rfl) (by kernel_rfl) (by kernel_rfl) rfl (0 : Int) (s13 : Int) h0_x55 (.inl ⟨rfl, rfl⟩) (.inr ⟨_, _, rfl, rfl⟩) h1_x55 hl_x55 ?_
      obtain ⟨ho56, ev_x55⟩ := OwnSl.pre ho54 (Int.le_trans h0_x55 h1_x55) h2_x55 he_x55
      refine WO.reslot 41 rfl ev_x55 ?_
      refine WO.vals [(3, 4, (.slice a_p0 x55.length c_p0))] (by kernel_rfl) (fun _ => by kernel_rfl) ?_
      refine WO.nil ?_
      refine En.next ?_
      refine W.ret ?_
      have he := Option.some.inj hr
      subst r
      exact En.ret1 rfl (.slice a_p0 x55.length c_p0) rfl ⟨I11, a_p0, c_p0, C51, rfl, hl12, hS52, ho56⟩
end Go.Proofs.Ythndadengamanaa
