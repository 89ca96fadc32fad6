/- What a cache of the program is: a ring of entries; what joins, cuts and leads make of it. Conditions: none. -/
import Derived.Test.YtmclgkomnpdgjaaO
namespace Go.Proofs.Ytmclgkomnpdgjaa
open Go.Gv
abbrev En_ := lru_Entry
abbrev M_ := List (lru_Entry × lru_link)
abbrev zE : lru_Entry := z_lru_Entry
theorem kE : KEq eq_lru_Entry := fun a b => eq_lru_Entry_iff
instance : DecidableEq lru_Entry := fun a b => decidable_of_iff (eq_lru_Entry a b = true) eq_lru_Entry_iff
def G (m : M_) (e : En_) : lru_link := (mget eq_lru_Entry m e).getD z_lru_link
theorem G_set (m : M_) (k : En_) (v : lru_link) (e : En_) : G (mset eq_lru_Entry m k v) e = if e = k then v else G m e := by
  unfold G
  rw [mget_mset kE]
  by_cases h : e = k
  · subst h; simp [kE.refl]
  · simp [kE.ne h, h]
theorem G_del {m : M_} (hn : (m.map (·.1)).Nodup) (k e : En_) : G (mdel eq_lru_Entry m k) e = if e = k then z_lru_link else G m e := by
  unfold G
  rw [mget_mdel kE hn]
  by_cases h : e = k
  · subst h; simp [kE.refl]
  · simp [kE.ne h, h]
def lnk (m : M_) (a b : En_) : M_ := mset eq_lru_Entry (mset eq_lru_Entry m a { G m a with behind := b }) b { G (mset eq_lru_Entry m a { G m a with behind := b }) b with ahead := a }
theorem join_eq (c : lru_Cache) (a b : En_) : lru_Cache_join c a b = some { c with at_ := lnk c.at_ a b } := rfl
theorem lnk_behind (m : M_) (a b e : En_) : (G (lnk m a b) e).behind = if e = a then b else (G m e).behind := by
  unfold lnk
  rw [G_set]
  by_cases h : e = b
  · subst h
    simp only [if_true, G_set]
    by_cases h2 : e = a
    · simp [h2]
    · simp [h2]
  · rw [if_neg h, G_set]
    by_cases h2 : e = a
    · simp [h2]
    · simp [h2]
theorem lnk_ahead (m : M_) (a b e : En_) : (G (lnk m a b) e).ahead = if e = b then a else (G m e).ahead := by
  unfold lnk
  rw [G_set]
  by_cases h : e = b
  · simp [h]
  · rw [if_neg h, if_neg h, G_set]
    by_cases h2 : e = a
    · simp [h2]
    · simp [h2]
theorem lnk_p (m : M_) (a b e : En_) : (G (lnk m a b) e).p = (G m e).p := by
  unfold lnk
  rw [G_set]
  by_cases h : e = b
  · subst h
    simp only [if_true, G_set]
    by_cases h2 : e = a
    · simp [h2]
    · simp [h2]
  · rw [if_neg h, G_set]
    by_cases h2 : e = a
    · simp [h2]
    · simp [h2]
theorem lnk_mem (m : M_) (a b e : En_) : e ∈ (lnk m a b).map (·.1) ↔ e = b ∨ e = a ∨ e ∈ m.map (·.1) := by
  unfold lnk
  rw [mset_mem kE, mset_mem kE]
theorem lnk_nodup {m : M_} (h : (m.map (·.1)).Nodup) (a b : En_) : ((lnk m a b).map (·.1)).Nodup := mset_nodup kE (mset_nodup kE h _ _) _ _

/-- Each stands ahead of the next one. -/
def Lk (m : M_) : List En_ → Prop
  | a :: b :: r => (G m a).behind = b ∧ (G m b).ahead = a ∧ Lk m (b :: r)
  | _ => True
theorem Lk.stay {m m' : M_} : ∀ {R : List En_}, Lk m R → (∀ x ∈ R.dropLast, (G m' x).behind = (G m x).behind) → (∀ y ∈ R.tail, (G m' y).ahead = (G m y).ahead) → Lk m' R
  | [], _, _, _ => trivial
  | [a], _, _, _ => trivial
  | a :: b :: r, ⟨h1, h2, h3⟩, hb, ha => by
    refine ⟨?_, ?_, Lk.stay h3 (fun x hx => hb x (by simp [List.dropLast, hx])) (fun y hy => ha y (by simp at hy ⊢; exact .inr hy))⟩
    · rw [hb a (by simp [List.dropLast]), h1]
    · rw [ha b (by simp), h2]
theorem Lk.app {m : M_} {a : En_} {Y : List En_} : ∀ {X : List En_}, Lk m (X ++ a :: Y) ↔ Lk m (X ++ [a]) ∧ Lk m (a :: Y)
  | [] => by simp [Lk]
  | [x] => by simp [Lk, and_assoc]
  | x :: y :: X => by
    have := Lk.app (m := m) (a := a) (Y := Y) (X := y :: X)
    simp only [List.cons_append] at this ⊢
    simp only [Lk, this, and_assoc]
/-- A ring of entries: ahead of the first one, and behind the last one, is nobody. -/
structure Ring (m : M_) (ks : List En_) : Prop where
  nd : (m.map (·.1)).Nodup
  mem : ∀ e, e ∈ m.map (·.1) ↔ e = zE ∨ e ∈ ks
  kn : ks.Nodup
  kz : zE ∉ ks
  lk : Lk m (zE :: (ks ++ [zE]))
section
variable {m : M_} {ks l1 l2 : List En_} {e : En_}
theorem Ring.len (h : Ring m ks) : m.length = ks.length + 1 := by
  have := nodup_len (ks := zE :: ks) h.nd (List.nodup_cons.2 ⟨h.kz, h.kn⟩) (fun e => by rw [h.mem]; simp)
  simpa using this
theorem ends (l : List En_) (a : En_) : ∃ X A, a :: l = X ++ [A] := ⟨(a :: l).dropLast, (a :: l).getLast (by simp), by rw [List.dropLast_concat_getLast]⟩
theorem heads (l : List En_) (a : En_) : ∃ B Y, l ++ [a] = B :: Y := by
  cases l with
  | nil => exact ⟨a, [], rfl⟩
  | cons b r => exact ⟨b, r ++ [a], rfl⟩
/-- What stands about an entry. -/
structure About (m : M_) (l1 l2 : List En_) (e A B : En_) (X Y : List En_) : Prop where
  hX : zE :: l1 = X ++ [A]
  hY : l2 ++ [zE] = B :: Y
  ah : (G m e).ahead = A
  bh : (G m e).behind = B
  l : Lk m (X ++ [A])
  r : Lk m (B :: Y)
  nx : (X ++ [A]).Nodup
  ny : (B :: Y).Nodup
  ap : ∀ x ∈ l1, x ∉ B :: Y
  ap2 : ∀ x ∈ l2, x ∉ X ++ [A]
theorem Ring.about (h : Ring m (l1 ++ e :: l2)) : ∃ A B X Y, About m l1 l2 e A B X Y := by
  obtain ⟨X, A, hX⟩ := ends l1 zE
  obtain ⟨B, Y, hY⟩ := heads l2 zE
  have hk := h.kn
  have hz := h.kz
  simp only [List.mem_append, List.mem_cons, not_or] at hz
  have hn := List.nodup_append.1 hk
  have hn2 := List.nodup_cons.1 hn.2.1
  have hl := h.lk
  have e1 : zE :: ((l1 ++ e :: l2) ++ [zE]) = X ++ A :: (e :: (B :: Y)) := by
    rw [show zE :: ((l1 ++ e :: l2) ++ [zE]) = (zE :: l1) ++ e :: (l2 ++ [zE]) by simp, hX, hY]
    simp
  rw [e1, Lk.app] at hl
  obtain ⟨hl1, h1, h2, h3, h4, h5⟩ := hl
  refine ⟨A, B, X, Y, hX, hY, h2, h3, hl1, h5, ?_, ?_, ?_, ?_⟩
  · rw [← hX]
    exact List.nodup_cons.2 ⟨hz.1, hn.1⟩
  · rw [← hY]
    refine List.nodup_append.2 ⟨hn2.2, by simp, ?_⟩
    intro a ha b hb
    simp at hb
    subst hb
    rintro rfl
    exact hz.2.2 ha
  · intro x hx
    rw [← hY]
    simp only [List.mem_append, List.mem_singleton, not_or]
    exact ⟨fun h2 => hn.2.2 x hx x (by simp [h2]) rfl, fun h2 => hz.1 (h2 ▸ hx)⟩
  · intro x hx
    rw [← hX]
    simp only [List.mem_cons, not_or]
    exact ⟨fun h2 => hz.2.2 (h2 ▸ hx), fun h2 => hn.2.2 x h2 x (by simp [hx]) rfl⟩
theorem nodup_dropLast {X : List En_} {A : En_} (h : (X ++ [A]).Nodup) {x : En_} (hx : x ∈ X) : x ≠ A := by
  have := (List.nodup_append.1 h).2.2 x hx A (by simp)
  exact this
/-- An entry is cut out. -/
theorem About.cut {A B : En_} {X Y : List En_} (h : About m l1 l2 e A B X Y) : Lk (lnk m A B) (zE :: ((l1 ++ l2) ++ [zE])) := by
  rw [show zE :: ((l1 ++ l2) ++ [zE]) = (zE :: l1) ++ (l2 ++ [zE]) by simp, h.hX, h.hY, List.append_assoc, List.singleton_append, Lk.app]
  refine ⟨?_, ?_, ?_, ?_⟩
  · refine h.l.stay (fun x hx => ?_) (fun y hy => ?_)
    · rw [List.dropLast_concat] at hx
      rw [lnk_behind, if_neg (nodup_dropLast h.nx hx)]
    · rw [← h.hX] at hy
      rw [lnk_ahead, if_neg]
      rintro rfl
      exact h.ap y hy (by simp)
  · rw [lnk_behind, if_pos rfl]
  · rw [lnk_ahead, if_pos rfl]
  · refine h.r.stay (fun x hx => ?_) (fun y hy => ?_)
    · rw [← h.hY, List.dropLast_concat] at hx
      rw [lnk_behind, if_neg]
      rintro rfl
      exact h.ap2 x hx (by simp)
    · rw [lnk_ahead, if_neg]
      rintro rfl
      exact (List.nodup_cons.1 h.ny).1 hy
theorem About.A_mem {A B : En_} {X Y : List En_} (h : About m l1 l2 e A B X Y) : A = zE ∨ A ∈ l1 := by
  have : A ∈ zE :: l1 := by rw [h.hX]; simp
  simpa using this
theorem About.B_mem {A B : En_} {X Y : List En_} (h : About m l1 l2 e A B X Y) : B = zE ∨ B ∈ l2 := by
  have : B ∈ l2 ++ [zE] := by rw [h.hY]; simp
  rcases List.mem_append.1 this with h | h
  · exact .inr h
  · exact .inl (by simpa using h)
end
/-- Out of the order, and still there. -/
structure Cut (m : M_) (ks : List En_) (e : En_) : Prop where
  nd : (m.map (·.1)).Nodup
  mem : ∀ x, x ∈ m.map (·.1) ↔ x = zE ∨ x = e ∨ x ∈ ks
  kn : ks.Nodup
  kz : zE ∉ ks
  ke : e ∉ ks
  ez : e ≠ zE
  lk : Lk m (zE :: (ks ++ [zE]))
theorem cut_ok {c : lru_Cache} {l1 l2 : List En_} {e : En_} (h : Ring c.at_ (l1 ++ e :: l2)) : ∃ m', lru_Cache_cut c e = some { c with at_ := m' } ∧ Cut m' (l1 ++ l2) e ∧ ∀ x, (G m' x).p = (G c.at_ x).p := by
  obtain ⟨A, B, X, Y, ha⟩ := h.about
  refine ⟨lnk c.at_ A B, ?_, ⟨lnk_nodup h.nd _ _, fun x => ?_, ?_, ?_, ?_, ?_, ha.cut⟩, fun x => lnk_p ..⟩
  · unfold lru_Cache_cut
    have e1 : (mget eq_lru_Entry c.at_ e).getD z_lru_link = G c.at_ e := rfl
    simp only [e1, Option.bind_some, ha.ah, ha.bh, join_eq]
  · rw [lnk_mem, h.mem]
    have h1 := ha.A_mem
    have h2 := ha.B_mem
    simp only [List.mem_append, List.mem_cons]
    constructor
    · rintro (rfl | rfl | rfl | hx | rfl | hx)
      · rcases h2 with h2 | h2
        · exact .inl h2
        · exact .inr (.inr (.inr h2))
      · rcases h1 with h1 | h1
        · exact .inl h1
        · exact .inr (.inr (.inl h1))
      · exact .inl rfl
      · exact .inr (.inr (.inl hx))
      · exact .inr (.inl rfl)
      · exact .inr (.inr (.inr hx))
    · rintro (rfl | rfl | hx | hx)
      · exact .inr (.inr (.inl rfl))
      · exact .inr (.inr (.inr (.inr (.inl rfl))))
      · exact .inr (.inr (.inr (.inl hx)))
      · exact .inr (.inr (.inr (.inr (.inr hx))))
  · exact h.kn.sublist (by simp)
  · have := h.kz
    simp only [List.mem_append, List.mem_cons, not_or] at this ⊢
    exact ⟨this.1, this.2.2⟩
  · have := List.nodup_append.1 h.kn
    simp only [List.mem_append, not_or]
    exact ⟨fun h2 => this.2.2 e h2 e (by simp) rfl, (List.nodup_cons.1 this.2.1).1⟩
  · rintro rfl
    exact h.kz (by simp)
theorem Cut.del {m : M_} {ks : List En_} {e : En_} (h : Cut m ks e) : Ring (mdel eq_lru_Entry m e) ks := by
  have hg : ∀ x, x ≠ e → G (mdel eq_lru_Entry m e) x = G m x := fun x hx => by rw [G_del h.nd, if_neg hx]
  have hne : ∀ x, x ∈ zE :: (ks ++ [zE]) → x ≠ e := by
    rintro x hx rfl
    simp only [List.mem_cons, List.mem_append, List.not_mem_nil, or_false] at hx
    rcases hx with hx | hx | hx
    · exact h.ez hx
    · exact h.ke hx
    · exact h.ez hx
  refine ⟨mdel_nodup h.nd e, fun x => ?_, h.kn, h.kz, h.lk.stay (fun x hx => ?_) (fun y hy => ?_)⟩
  · rw [mdel_mem kE h.nd, h.mem]
    constructor
    · rintro ⟨h1, h2 | h2 | h2⟩
      · exact .inl h2
      · exact absurd h2 h1
      · exact .inr h2
    · intro h1
      refine ⟨?_, ?_⟩
      · rintro rfl
        rcases h1 with h1 | h1
        · exact h.ez h1
        · exact h.ke h1
      · rcases h1 with h1 | h1
        · exact .inl h1
        · exact .inr (.inr h1)
  · rw [hg x (hne x ((List.dropLast_sublist _).subset hx))]
  · rw [hg y (hne y ((List.tail_sublist _).subset hy))]
theorem gone_ok {c : lru_Cache} {l1 l2 : List En_} {e : En_} (h : Ring c.at_ (l1 ++ e :: l2)) : ∃ m', lru_Cache_gone c e = some { c with at_ := m' } ∧ Ring m' (l1 ++ l2) ∧ ∀ x, x ≠ e → (G m' x).p = (G c.at_ x).p := by
  obtain ⟨m', h1, h2, h3⟩ := cut_ok h
  refine ⟨mdel eq_lru_Entry m' e, ?_, h2.del, fun x hx => ?_⟩
  · unfold lru_Cache_gone
    rw [h1]
    rfl
  · rw [G_del h2.nd, if_neg hx, h3]
/-- An entry becomes the first one. -/
theorem lead_ok {c : lru_Cache} {ks : List En_} {e : En_} (h : Cut c.at_ ks e) : ∃ m', lru_Cache_lead c e = some { c with at_ := m' } ∧ Ring m' (e :: ks) ∧ ∀ x, (G m' x).p = (G c.at_ x).p := by
  obtain ⟨F, Y, hF⟩ := heads ks zE
  have hl := h.lk
  rw [hF] at hl
  have hb : (G c.at_ zE).behind = F := hl.1
  have hFm : F = zE ∨ F ∈ ks := by
    have : F ∈ ks ++ [zE] := by rw [hF]; simp
    rcases List.mem_append.1 this with h | h
    · exact .inr h
    · exact .inl (by simpa using h)
  have hFe : F ≠ e := by
    rintro rfl
    rcases hFm with h1 | h1
    · exact h.ez h1
    · exact h.ke h1
  have hnd : (F :: Y).Nodup := by
    rw [← hF]
    refine List.nodup_append.2 ⟨h.kn, by simp, ?_⟩
    intro a ha b hb
    simp at hb
    subst hb
    rintro rfl
    exact h.kz ha
  refine ⟨lnk (lnk c.at_ zE e) e F, ?_, ⟨lnk_nodup (lnk_nodup h.nd _ _) _ _, fun x => ?_, List.nodup_cons.2 ⟨h.ke, h.kn⟩, ?_, ?_⟩, fun x => by rw [lnk_p, lnk_p]⟩
  · unfold lru_Cache_lead
    have e1 : (mget eq_lru_Entry c.at_ z_lru_Entry).getD z_lru_link = G c.at_ zE := rfl
    simp only [e1, Option.bind_some, hb, join_eq]
  · rw [lnk_mem, lnk_mem, h.mem]
    simp only [List.mem_cons]
    constructor
    · rintro (rfl | rfl | rfl | rfl | rfl | rfl | hx)
      · rcases hFm with h1 | h1
        · exact .inl h1
        · exact .inr (.inr h1)
      · exact .inr (.inl rfl)
      · exact .inr (.inl rfl)
      · exact .inl rfl
      · exact .inl rfl
      · exact .inr (.inl rfl)
      · exact .inr (.inr hx)
    · rintro (rfl | rfl | hx)
      · exact .inr (.inr (.inr (.inl rfl)))
      · exact .inr (.inl rfl)
      · exact .inr (.inr (.inr (.inr (.inr (.inr hx)))))
  · simp only [List.mem_cons, not_or]
    exact ⟨fun h1 => h.ez h1.symm, h.kz⟩
  · rw [List.cons_append, hF]
    refine ⟨?_, ?_, ?_, ?_, ?_⟩
    · rw [lnk_behind, if_neg (fun h1 => h.ez h1.symm), lnk_behind, if_pos rfl]
    · rw [lnk_ahead, if_neg (fun h1 => hFe h1.symm), lnk_ahead, if_pos rfl]
    · rw [lnk_behind, if_pos rfl]
    · rw [lnk_ahead, if_pos rfl]
    · refine hl.2.2.stay (fun x hx => ?_) (fun y hy => ?_)
      · rw [← hF, List.dropLast_concat] at hx
        have hxe : x ≠ e := by rintro rfl; exact h.ke hx
        have hxz : x ≠ zE := by rintro rfl; exact h.kz hx
        rw [lnk_behind, if_neg hxe, lnk_behind, if_neg hxz]
      · have hyF : y ≠ F := by rintro rfl; exact (List.nodup_cons.1 hnd).1 hy
        have hye : y ≠ e := by
          rintro rfl
          have : y ∈ ks ++ [zE] := by rw [hF]; exact List.mem_cons_of_mem _ hy
          rcases List.mem_append.1 this with h1 | h1
          · exact h.ke h1
          · exact h.ez (by simpa using h1)
        rw [lnk_ahead, if_neg hyF, lnk_ahead, if_neg hye]
theorem Ring.first {m : M_} {k : En_} {ks : List En_} (h : Ring m (k :: ks)) : (G m zE).behind = k := h.lk.1
theorem Ring.last {m : M_} {k : En_} {ks : List En_} (h : Ring m (ks ++ [k])) : (G m zE).ahead = k := by
  have := h.lk
  rw [show zE :: ((ks ++ [k]) ++ [zE]) = (zE :: ks) ++ k :: [zE] by simp, Lk.app] at this
  exact this.2.2.1
/-- A link is put in. -/
theorem Ring.put {m : M_} {ks : List En_} {e : En_} (h : Ring m ks) (he : e ∉ ks) (hz : e ≠ zE) (v : lru_link) : Cut (mset eq_lru_Entry m e v) ks e := by
  have hg : ∀ x, x ≠ e → G (mset eq_lru_Entry m e v) x = G m x := fun x hx => by rw [G_set, if_neg hx]
  have hne : ∀ x, x ∈ zE :: (ks ++ [zE]) → x ≠ e := by
    rintro x hx rfl
    simp only [List.mem_cons, List.mem_append, List.not_mem_nil, or_false] at hx
    rcases hx with hx | hx | hx
    · exact hz hx
    · exact he hx
    · exact hz hx
  refine ⟨mset_nodup kE h.nd _ _, fun x => ?_, h.kn, h.kz, he, hz, h.lk.stay (fun x hx => ?_) (fun y hy => ?_)⟩
  · rw [mset_mem kE, h.mem]
    constructor
    · rintro (h1 | h1 | h1)
      · exact .inr (.inl h1)
      · exact .inl h1
      · exact .inr (.inr h1)
    · rintro (h1 | h1 | h1)
      · exact .inr (.inl h1)
      · exact .inl h1
      · exact .inr (.inr h1)
  · rw [hg x (hne x ((List.dropLast_sublist _).subset hx))]
  · rw [hg y (hne y ((List.tail_sublist _).subset hy))]
theorem isz (e : En_) : ((e.Who == 0) && sEq e.Name (⟨#[]⟩ : ByteArray)) = decide (e = zE) := by
  rw [Bool.eq_iff_iff, decide_eq_true_eq]
  exact eq_lru_Entry_iff (a := e) (b := zE)
/-- All entries, in order. -/
theorem all_ok {c : lru_Cache} {ks : List En_} (h : Ring c.at_ ks) (hs : ks.length ≤ 1000) : lru_Cache_All c = some ks := by
  unfold lru_Cache_All lru_Cache_dead
  simp only [Option.bind_some, cond_false]
  have hG : ∀ e, (mget eq_lru_Entry c.at_ e).getD z_lru_link = G c.at_ e := fun _ => rfl
  simp only [hG, isz]
  have key : ∀ (suf pre : List En_) (b f : En_), ks = pre ++ suf → (∃ Y, suf ++ [zE] = b :: Y) →
      loopO (fun (s : (List lru_Entry) × lru_Entry × lru_Entry) => bif (!decide (s.2.1 = zE)) then (app 24 s.1 ([s.2.1] : List lru_Entry)).bind (fun (x40 : List lru_Entry) => some (Sum.inl (x40, (G c.at_ s.2.1).behind, s.2.2))) else some (Sum.inr (s.1, s.2.2))) (pre, b, f) = some (ks, f) := by
    intro suf
    induction suf with
    | nil =>
      intro pre b f e hb
      obtain ⟨Y, hY⟩ := hb
      simp only [List.nil_append, List.cons.injEq] at hY
      obtain ⟨rfl, _⟩ := hY
      refine loopO_stop ?_
      simp [e]
    | cons x r ih =>
      intro pre b f e hb
      obtain ⟨Y, hY⟩ := hb
      simp only [List.cons_append, List.cons.injEq] at hY
      obtain ⟨rfl, hY⟩ := hY
      have hx : x ≠ zE := by rintro rfl; exact h.kz (by rw [e]; simp)
      have hlk := h.lk
      rw [e, show zE :: ((pre ++ x :: r) ++ [zE]) = (zE :: pre) ++ x :: (r ++ [zE]) by simp, Lk.app] at hlk
      obtain ⟨B, Y2, hB⟩ := heads r zE
      rw [hB] at hlk
      have hbh : (G c.at_ x).behind = B := hlk.2.1
      rw [loopO_next (s' := (pre ++ [x], B, f))]
      · exact ih (pre ++ [x]) B f (by rw [e]; simp) ⟨Y2, hB⟩
      · have hlen : pre.length + 1 ≤ 1000 := by rw [e] at hs; simp at hs; omega
        simp only [hx, decide_false, Bool.not_false, cond_true]
        rw [app_le (by simp; omega)]
        simp [hbh]
  have hb : ∃ Y, ks ++ [zE] = (G c.at_ zE).behind :: Y := by
    obtain ⟨B, Y, hB⟩ := heads ks zE
    have := h.lk
    rw [hB] at this
    exact ⟨Y, by rw [hB, this.1]⟩
  rw [key ks [] _ _ rfl hb]
  rfl
end Go.Proofs.Ytmclgkomnpdgjaa
