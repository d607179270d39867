/- numeral/big: the words' functions: mulWords, by three products of halves. -/
import Derived.Test.YtihdnfhclocndaaGreatDoorQs7
import Derived.StillTailTactics
import Derived.Deep.DeepCutAuto
namespace Go.Proofs.YtihdnfhclocndaaGreatDoor
open Go.RowKit W

/-- trim of a slice's head. -/
theorem trim_head {w : World} {A : Option Addr} {xs : List Nat} (h : Rd w A xs) (hs : Small xs) (m c : Nat) (hm : m ≤ xs.length) (hc : m ≤ c) (hcm : c ≤ maxLen) :
    Calls Tryz.prog 194 #[.slice A m c] w fun e w' => e = .returned (.slice A (ofN (wv (xs.take m))).length c) ∧ w = w' :=
  trim_len _ _ m c w (by rw [List.length_take]; omega) (h.take m) (hs.take m) hc hcm

theorem addAt_int (base g n m : Nat) (zs : List Nat) (A2 : Option Addr) (ys : List Nat) (c2 at_ : Nat) (z : Int) (hz : z = (at_ : Int)) (w : World) (hL0 : Loc base w g n m zs) (h2 : Rd w A2 ys) (s2 : Small ys) (hoff : Off A2 g)
    (hm : n ≤ 1099511627776) (hm2 : at_ + ys.length ≤ n) (hfit : wv zs + 4294967296 ^ at_ * wv ys < 4294967296 ^ n) :
    Calls Tryz.prog 235 #[.slice (some ⟨g, 0, none⟩) n m, .slice A2 ys.length c2, .int .i64 z] w fun e w' =>
      e = .returned (.tuple #[]) ∧ w.grownBy w' (some g) ∧ ∃ zs', Loc base w' g n m zs' ∧ wv zs' = wv zs + 4294967296 ^ at_ * wv ys := by
  subst hz; exact addAt_any base g n m zs A2 ys c2 at_ w hL0 h2 s2 hoff hm hm2 hfit

theorem fit_at {n a p : Nat} (h : 4294967296 ^ a * p < 4294967296 ^ n) (ha : a ≤ n) : a + (ofN p).length ≤ n := by
  by_cases h0 : p = 0
  · subst h0; rw [ofN_zero]; simpa using ha
  · exact fit_len h h0

theorem Rd.drew {w : World} {A : Option Addr} {xs : List Nat} (h : Rd w A xs) : Rd w.drew A xs := h

set_option maxRecDepth 100000 in
set_option maxHeartbeats 1000000 in
theorem mul_kara (K : Nat) (ih : Hid (MulSaid K)) (A1 A2 : Option Addr) (xs ys : List Nat) (c1 c2 : Nat) (w : World) (h1 : Rd w A1 xs) (h2 : Rd w A2 ys) (s1 : Norm xs) (s2 : Norm ys)
    (hl : ys.length ≤ xs.length) (hm : xs.length ≤ 274877906944) (hf : 40 ≤ ys.length) (hg : xs.length < 2 * ys.length) (hK : xs.length + ys.length ≤ K + 1) (hc1 : xs.length ≤ c1) (hc2 : ys.length ≤ c2) (hm1 : c1 ≤ maxLen) (hm2 : c2 ≤ maxLen) :
    Calls Tryz.prog 176 #[.slice A1 xs.length c1, .slice A2 ys.length c2] w (Gives w (ofN (wv xs * wv ys))) := by
  have hl' : ¬ ((xs.length : Int) < (ys.length : Int)) := by omega
  have hf' : ¬ ((ys.length : Int) < 40) := by omega
  have hg' : ¬ ((2 : Int) * (ys.length : Int) ≤ (xs.length : Int)) := by omega
  have hmk := fun w : World => make_u32 w ((xs.length : Int) + (ys.length : Int) + 1) (by omega) (by omega)
  have hcm : c1 ≤ 9223372036854775807 := by simpa [maxLen] using hm1
  have hcm2 : c2 ≤ 9223372036854775807 := by simpa [maxLen] using hm2
  obtain ⟨b, o, rfl, hx⟩ := h1 (by omega)
  obtain ⟨b2, o2, rfl, hy⟩ := h2 (by omega)
  clear hx hy
  have hH1 : (xs.length + 1) / 2 ≤ ys.length := by omega
  have hH2 : (xs.length + 1) / 2 ≤ xs.length := by omega
  have sa : Small (xs.take ((xs.length + 1) / 2)) := s1.1.take _
  have sb : Small (ys.take ((xs.length + 1) / 2)) := s2.1.take _
  have la : (ofN (wv (xs.take ((xs.length + 1) / 2)))).length ≤ (xs.length + 1) / 2 := length_ofN_le (by have := wv_lt sa; rwa [List.length_take, Nat.min_eq_left hH2] at this)
  have lb : (ofN (wv (ys.take ((xs.length + 1) / 2)))).length ≤ (xs.length + 1) / 2 := length_ofN_le (by have := wv_lt sb; rwa [List.length_take, Nat.min_eq_left hH1] at this)
  go_enter Tryz.func176, Tryz.ntmps176
  go_wp2
  have hL0 := Loc.new w (Nat.le_refl _) (n := xs.length + ys.length + 1) (by omega)
  have hB0 : Below w.heap.size w (w.alloc (.cells (u32l (List.replicate (xs.length + ys.length + 1) 0)).toArray tU32)) := (Below.refl _ _).alloc (Nat.le_refl _) _
  have h1a := h1.below hB0
  have h2a := h2.below hB0
  generalize hW : w.alloc (.cells (u32l (List.replicate (xs.length + ys.length + 1) 0)).toArray tU32) = w0 at *
  have HW := Lib.hid hW; clear hW
  have HL0 := Lib.hid hL0
  have HB0 := Lib.hid hB0
  have hs0 := hB0.size
  clear hL0 hB0
  have T1 := Lib.hid (trim_head (A := some ⟨b, o, none⟩) (xs := xs) h1a.drew s1.1 ((xs.length + 1) / 2) c1 hH2 (by omega) hm1)
  have T2 := Lib.hid (trim_head (A := some ⟨b2, o2, none⟩) (xs := ys) h2a.drew s2.1 ((xs.length + 1) / 2) c2 hH1 (by omega) hm2)
  have T3 := Lib.hid (ih.out (some ⟨b, o, none⟩) (some ⟨b2, o2, none⟩) _ _ _ _ c1 c2 _ rfl rfl (show (ofN (wv (xs.take ((xs.length + 1) / 2)))).length + (ofN (wv (ys.take ((xs.length + 1) / 2)))).length ≤ K by omega) ((h1a.take _).trimmed sa).drew ((h2a.take _).trimmed sb).drew (norm_ofN _) (norm_ofN _) (by omega) (by omega) hm1 hm2)
  rw [wv_ofN, wv_ofN] at T3
  have q0 : (0 : Int) ≤ ((xs.length : Int) + 1) / 2 := by omega
  have q1 : ((xs.length : Int) + 1) / 2 ≤ (c1 : Int) := by omega
  have q2 : ((xs.length : Int) + 1) / 2 ≤ (c2 : Int) := by omega
  have q3 : (((xs.length : Int) + 1) / 2).toNat = (xs.length + 1) / 2 := by omega
  refine wp_region_still_tail 8 (by kernel_rfl) (by kernel_rfl) ?_
  simp only [List.take_succ_cons, List.take_zero, List.drop_succ_cons, List.drop_zero]
  repeat still_step
  still_call (T1.out.mono (fun _ _ h => ⟨h.1, h.2.symm⟩))
  repeat still_step
  still_call (T2.out.mono (fun _ _ h => ⟨h.1, h.2.symm⟩))
  refine wpStill_nil ?_
  change wpList _ _ _ _ _ w0.drew
  go_wp2_with fail
  with_reducible refine T3.out.mono ?_
  rintro e w1 ⟨Al, cl, rfl, hb1, hr1, hcl1, hcl2, hrd1⟩
  have HB1 := Lib.hid (HB0.out.trans ((Below.drew (Below.refl _ _)).trans (hb1.mono (by simpa using hs0))))
  have HL1 := Lib.hid ((HL0.out.block (w' := w0.drew) rfl).below hb1 HL0.out.lt)
  have h1b := h1a.drew.below hb1
  have h2b := h2a.drew.below hb1
  have ol := hr1.off (g := w.heap.size) (by simpa using HL0.out.lt)
  have OL := Lib.hid ol
  have hs1 : w.heap.size < w1.heap.size := Nat.lt_of_lt_of_le HL0.out.lt (by simpa using hb1.size)
  clear T1 T2 T3 hb1 hr1 h1a h2a ol
  -- the heads of the halves
  have hne1 : ¬ c1 = (xs.length + 1) / 2 := by omega
  obtain ⟨B2, hB2⟩ : ∃ B2, (if c2 = (xs.length + 1) / 2 then some (Addr.mk b2 o2 none) else some (Addr.mk b2 (o2 + (xs.length + 1) / 2) none)) = B2 := ⟨_, rfl⟩
  have hRa : Rd w1 (some ⟨b, o + (xs.length + 1) / 2, none⟩) (xs.drop ((xs.length + 1) / 2)) := by
    have := h1b.sub ((xs.length + 1) / 2) (xs.length - (xs.length + 1) / 2)
    rwa [List.take_of_length_le (by rw [List.length_drop]; omega)] at this
  have hRb : Rd w1 B2 (ys.drop ((xs.length + 1) / 2)) := by
    by_cases hc : c2 = (xs.length + 1) / 2
    · intro hn
      rw [List.length_drop] at hn
      omega
    · have := h2b.sub ((xs.length + 1) / 2) (ys.length - (xs.length + 1) / 2)
      rw [List.take_of_length_le (by rw [List.length_drop]; omega)] at this
      rw [← hB2, if_neg hc]; exact this
  have T4 := Lib.hid (ih.out (some ⟨b, o + (xs.length + 1) / 2, none⟩) B2 _ _ (xs.length - (xs.length + 1) / 2) (ys.length - (xs.length + 1) / 2) (c1 - (xs.length + 1) / 2) (c2 - (xs.length + 1) / 2) _ (List.length_drop ..) (List.length_drop ..) (by omega) hRa.drew hRb.drew (norm_drop s1 _) (norm_drop s2 _) (by omega) (by omega) (by omega) (by omega))
  have q4 : ((xs.length : Int) + 1) / 2 ≤ (xs.length : Int) := by omega
  have q5 : ((xs.length : Int) + 1) / 2 ≤ (ys.length : Int) := by omega
  go_wp2
  refine wp_region_still_tail 6 (by kernel_rfl) (by kernel_rfl) ?_
  simp only [List.take_succ_cons, List.take_zero, List.drop_succ_cons, List.drop_zero]
  repeat still_step
  refine wpStill_nil ?_
  change wpList _ _ _ _ _ w1.drew
  go_wp2_with fail
  with_reducible refine T4.out.mono ?_
  rintro e w2 ⟨Ah, ch, rfl, hb2, hr2, hch1, hch2, hrd2⟩
  have HB2 := Lib.hid (HB1.out.trans ((Below.drew (Below.refl _ _)).trans (hb2.mono (by simp; omega))))
  have HL2 := Lib.hid ((HL1.out.block (w' := w1.drew) rfl).below hb2 (by simpa using hs1))
  have h1c := h1b.drew.below hb2
  have h2c := h2b.drew.below hb2
  have hRa2 := hRa.drew.below hb2
  have hRb2 := hRb.drew.below hb2
  have hrl2 := hrd1.drew.below hb2
  have oh := hr2.off (g := w.heap.size) (by simpa using hs1)
  have OH := Lib.hid oh
  have hs2 : w.heap.size < w2.heap.size := Nat.lt_of_lt_of_le hs1 (by simpa using hb2.size)
  clear T4 hb2 hr2 h1b h2b hRa hRb hrd1 oh
  have x0 := head_lt (H := (xs.length + 1) / 2) s1.1
  have x1 := half_lt (k := (xs.length + 1) / 2) (H := (xs.length + 1) / 2) s1.1 (by omega)
  have y0 := head_lt (H := (xs.length + 1) / 2) s2.1
  have y1 := half_lt (k := (xs.length + 1) / 2) (H := (xs.length + 1) / 2) s2.1 (by omega)
  have lx := sum_len x0 x1
  have ly := sum_len y0 y1
  go_wp2
  go_cut [10] (fun s10 wx => ∃ Am cm, s10 = .slice Am (ofN ((wv (xs.take ((xs.length + 1) / 2)) + wv (xs.drop ((xs.length + 1) / 2))) * (wv (ys.take ((xs.length + 1) / 2)) + wv (ys.drop ((xs.length + 1) / 2))))).length cm ∧
    Below w2.heap.size w2 wx ∧ Rd wx Am (ofN ((wv (xs.take ((xs.length + 1) / 2)) + wv (xs.drop ((xs.length + 1) / 2))) * (wv (ys.take ((xs.length + 1) / 2)) + wv (ys.drop ((xs.length + 1) / 2))))))
  case first =>
    have T1 := Lib.hid (trim_head (A := some ⟨b, o, none⟩) (xs := xs) h1c.drew s1.1 ((xs.length + 1) / 2) c1 hH2 (by omega) hm1)
    have T2 := Lib.hid (addWords_len (some ⟨b, o, none⟩) (some ⟨b, o + (xs.length + 1) / 2, none⟩) _ _ _ (xs.length - (xs.length + 1) / 2) c1 (c1 - (xs.length + 1) / 2) _ rfl (List.length_drop ..) ((h1c.take _).trimmed sa).drew hRa2.drew (small_ofN _) (s1.1.drop _) (by omega) (by omega))
    rw [wv_ofN] at T2
    go_region_with (first
      | (go_at_call 194; (with_reducible refine T1.out.mono ?_); rintro e w' ⟨rfl, rfl⟩)
      | (go_at_call 216; (with_reducible refine T2.out.mono ?_); rintro e w3 ⟨Ax, cx, rfl, hb3, hr3, hcx1, hcx2, hrd3⟩; have h2d := h2c.drew.below hb3; have hRb3 := hRb2.drew.below hb3; have T3 := Lib.hid (trim_head (A := some ⟨b2, o2, none⟩) (xs := ys) h2d s2.1 ((xs.length + 1) / 2) c2 hH1 (by omega) hm2); have T4 := Lib.hid (addWords_len (some ⟨b2, o2, none⟩) B2 _ _ _ (ys.length - (xs.length + 1) / 2) c2 (c2 - (xs.length + 1) / 2) _ rfl (List.length_drop ..) ((h2d.take _).trimmed sb) hRb3 (small_ofN _) (s2.1.drop _) (by omega) (by omega)); rw [wv_ofN] at T4; clear h2d hRb3 T1 T2)
      | (go_at_call 194; (with_reducible refine T3.out.mono ?_); rintro e w' ⟨rfl, rfl⟩)
      | (go_at_call 216; (with_reducible refine T4.out.mono ?_); rintro e w4 ⟨Ay, cy, rfl, hb4, hr4, hcy1, hcy2, hrd4⟩; have hrd3' := hrd3.below hb4; have T5 := Lib.hid (ih.out Ax Ay _ _ _ _ cx cy _ rfl rfl (show (ofN (wv (xs.take ((xs.length + 1) / 2)) + wv (xs.drop ((xs.length + 1) / 2)))).length + (ofN (wv (ys.take ((xs.length + 1) / 2)) + wv (ys.drop ((xs.length + 1) / 2)))).length ≤ K by omega) hrd3' hrd4 (norm_ofN _) (norm_ofN _) hcx1 hcy1 hcx2 hcy2); rw [wv_ofN, wv_ofN] at T5; clear hrd3' T3 T4)
      | (go_at_call 176; (with_reducible refine T5.out.mono ?_); rintro e w5 ⟨Am, cm, rfl, hb5, hr5, hcm1, hcm2, hrd5⟩; clear T5))
    go_wp2_with fail
    go_meet
    exact ⟨Am, cm, rfl, ((Below.drew (Below.refl _ _)).trans (hb3.mono (by simp))).trans ((hb4.mono (by have := hb3.size; simpa using this)).trans (hb5.mono (by have := hb3.size; have := hb4.size; simp at *; omega))), hrd5⟩
  case rest =>
    obtain ⟨Am, cm, rfl, hb3, hrd3⟩ := hcut
    have hrh3 := hrd2.below hb3
    have hrl3 := hrl2.below hb3
    have HB3 := Lib.hid (HB2.out.trans (hb3.mono (by omega)))
    have HL3 := Lib.hid (HL2.out.below hb3 hs2)
    have hs3 : w.heap.size < wc.heap.size := Nat.lt_of_lt_of_le hs2 hb3.size
    have ex := wv_take_drop xs ((xs.length + 1) / 2) hH2
    have ey := wv_take_drop ys ((xs.length + 1) / 2) hH1
    have bx := wv_lt s1.1
    have bY := wv_lt s2.1
    clear hb3 hrl2 hrd2 h1c h2c hRa2 hRb2 HL0 HB0 HB1 HL1 HB2 HL2 HW
    clear hl' hf' hg' la lb sa sb hB2 hne1 q1 q2 q4 q5 hmk h1 h2
    generalize wv (xs.take ((xs.length + 1) / 2)) = P0 at *
    generalize wv (xs.drop ((xs.length + 1) / 2)) = P1 at *
    generalize wv (ys.take ((xs.length + 1) / 2)) = Q0 at *
    generalize wv (ys.drop ((xs.length + 1) / 2)) = Q1 at *
    have hk := kara (P0 := P0) (P1 := P1) (Q0 := Q0) (Q1 := Q1)
    have HK := Lib.hid hk
    have EX := Lib.hid ex
    have EY := Lib.hid ey
    have BX := Lib.hid bx
    have BY := Lib.hid bY
    have lM : (ofN ((P0 + P1) * (Q0 + Q1))).length ≤ 549755813888 := by
      have h1 : (P0 + P1) * (Q0 + Q1) < 4294967296 ^ ((xs.length + 1) / 2 + 1) * 4294967296 ^ ((xs.length + 1) / 2 + 1) := by
        apply Nat.mul_lt_mul''
        · have := wv_lt (small_ofN (P0 + P1)); rw [wv_ofN] at this
          have := Nat.pow_le_pow_right (n := 4294967296) (by omega) lx
          omega
        · have := wv_lt (small_ofN (Q0 + Q1)); rw [wv_ofN] at this
          have := Nat.pow_le_pow_right (n := 4294967296) (by omega) ly
          omega
      rw [← Nat.pow_add] at h1
      have := length_ofN_le h1
      omega
    have lM2 : (ofN ((P0 + P1) * (Q0 + Q1) - P0 * Q0)).length ≤ 549755813888 := Nat.le_trans (ofN_len_mono (by omega)) lM
    clear hk ex ey bx bY
    have S1 := Lib.hid (subWords_any Am Al _ _ cm cl wc hrd3 hrl3 (small_ofN _) (small_ofN _) (ofN_len_mono HK.out.1) lM (by rw [wv_ofN, wv_ofN]; exact HK.out.1))
    rw [wv_ofN, wv_ofN] at S1
    go_wp2_with fail
    with_reducible refine S1.out.mono ?_
    rintro e w4 ⟨Ad, cd, rfl, hb4, hr4, hcd1, hcd2, hrd4⟩
    have hrh4 := hrh3.below hb4
    have hrl4 := hrl3.below hb4
    have HB4 := Lib.hid (HB3.out.trans (hb4.mono (by omega)))
    have HL4 := Lib.hid (HL3.out.below hb4 hs3)
    have hs4 : w.heap.size < w4.heap.size := Nat.lt_of_lt_of_le hs3 hb4.size
    clear S1 hb4 hr4 hrh3 hrl3 HB3 HL3
    have S2 := Lib.hid (subWords_any Ad Ah _ _ cd ch w4 hrd4 hrh4 (small_ofN _) (small_ofN _) (ofN_len_mono HK.out.2.1) lM2 (by rw [wv_ofN, wv_ofN]; exact HK.out.2.1))
    rw [wv_ofN, wv_ofN] at S2
    go_wp2_with fail
    with_reducible refine S2.out.mono ?_
    rintro e w5 ⟨Ae, ce, rfl, hb5, hr5, hce1, hce2, hrd5⟩
    have hrh5 := hrh4.below hb5
    have hrl5 := hrl4.below hb5
    have HB5 := Lib.hid (HB4.out.trans (hb5.mono (by omega)))
    have HL5 := Lib.hid (HL4.out.below hb5 hs4)
    have OE := Lib.hid (hr5.off hs4)
    have hs5 : w.heap.size < w5.heap.size := Nat.lt_of_lt_of_le hs4 hb5.size
    clear S2 hb5 hr5 hrh4 hrl4 HB4 HL4 hrd4
    have hT : wv xs * wv ys = P0 * Q0 + 4294967296 ^ ((xs.length + 1) / 2) * ((P0 + P1) * (Q0 + Q1) - P0 * Q0 - P1 * Q1) + 4294967296 ^ ((xs.length + 1) / 2) * 4294967296 ^ ((xs.length + 1) / 2) * (P1 * Q1) :=
      kara_total EX.out EY.out HK.out.2.2 rfl rfl
    have hF : wv xs * wv ys < 4294967296 ^ (xs.length + ys.length + 1) := by
      have h1 := Nat.mul_lt_mul'' BX.out BY.out
      rw [← Nat.pow_add] at h1
      have := Nat.pow_le_pow_right (n := 4294967296) (by omega) (show xs.length + ys.length ≤ xs.length + ys.length + 1 by omega)
      omega
    rw [← Nat.pow_add] at hT
    clear HK EX EY BX BY x0 x1 y0 y1 lx ly lM lM2 hce2 hcl1 hch1 hcd1
    generalize (P0 + P1) * (Q0 + Q1) - P0 * Q0 - P1 * Q1 = D at *
    generalize P0 * Q0 = L at *
    generalize P1 * Q1 = U at *
    generalize wv xs * wv ys = T at *
    have F1 : 4294967296 ^ 0 * L < 4294967296 ^ (xs.length + ys.length + 1) := by simp only [Nat.pow_zero, Nat.one_mul]; omega
    have F2 : 4294967296 ^ ((xs.length + 1) / 2) * D < 4294967296 ^ (xs.length + ys.length + 1) := by omega
    have F3 : 4294967296 ^ ((xs.length + 1) / 2 + (xs.length + 1) / 2) * U < 4294967296 ^ (xs.length + ys.length + 1) := by omega
    have E1 := fit_at F1 (by omega)
    have E2 := fit_at F2 (by omega)
    have E3 := fit_at F3 (by omega)
    have A1 := Lib.hid (addAt_int w.heap.size w.heap.size _ _ _ Al _ cl 0 0 rfl w5 HL5.out hrl5 (small_ofN _) OL.out (by omega) E1 (by rw [wv_replicate, wv_ofN, Nat.zero_add]; exact F1))
    rw [wv_replicate, wv_ofN, Nat.zero_add, Nat.pow_zero, Nat.one_mul] at A1
    have HT := Lib.hid hT
    have HF := Lib.hid hF
    clear hT hF F1 F2 F3 E1 hrl5
    go_wp2_with fail
    with_reducible refine A1.out.mono ?_
    rintro e w6 ⟨rfl, hg6, z6, hL6, hv6⟩
    have hrd6 := hrd5.grown hg6 OE.out
    have hrh6 := hrh5.grown hg6 OH.out
    have HB6 := Lib.hid (grown_below HB5.out hg6 (by omega) (Nat.le_refl _))
    have A2 := Lib.hid (addAt_int w.heap.size w.heap.size _ _ _ Ae _ ce ((xs.length + 1) / 2) (((xs.length : Int) + 1) / 2) (by omega) w6 hL6 hrd6 (small_ofN _) OE.out (by omega) E2 (by rw [hv6, wv_ofN]; have := HF.out; have := HT.out; omega))
    rw [hv6, wv_ofN] at A2
    have hs6 : w.heap.size < w6.heap.size := Nat.lt_of_lt_of_le hs5 hg6.size
    clear A1 hg6 hL6 hv6 hrd6 hrh5 HB5 HL5
    go_wp2_with fail
    with_reducible refine A2.out.mono ?_
    rintro e w7 ⟨rfl, hg7, z7, hL7, hv7⟩
    have hrh7 := hrh6.grown hg7 OH.out
    have HB7 := Lib.hid (grown_below HB6.out hg7 (by omega) (Nat.le_refl _))
    have A3 := Lib.hid (addAt_int w.heap.size w.heap.size _ _ _ Ah _ ch ((xs.length + 1) / 2 + (xs.length + 1) / 2) (2 * (((xs.length : Int) + 1) / 2)) (by omega) w7 hL7 hrh7 (small_ofN _) OH.out (by omega) E3 (by rw [hv7, wv_ofN]; have := HF.out; have := HT.out; omega))
    rw [hv7, wv_ofN, ← HT.out] at A3
    have hs7 : w.heap.size < w7.heap.size := Nat.lt_of_lt_of_le hs6 hg7.size
    clear A2 hg7 hL7 hv7 hrh7 hrh6 HB6
    go_wp2_with fail
    with_reducible refine A3.out.mono ?_
    rintro e w8 ⟨rfl, hg8, z8, hL8, hv8⟩
    have HB8 := Lib.hid (grown_below HB7.out hg8 (by omega) (Nat.le_refl _))
    have hTr := Lib.hid (trim_len _ _ (xs.length + ys.length + 1) (xs.length + ys.length + 1) _ hL8.len hL8.rd hL8.small (Nat.le_refl _) (by simp [maxLen]; omega))
    have HV := Lib.hid hv8
    have HL8 := Lib.hid hL8
    clear A3 hg8 hL8 hv8 HB7
    go_wp2_with fail
    with_reducible refine hTr.out.mono ?_
    rintro e w9 ⟨rfl, rfl⟩
    go_wp2
    go_ret
    rw [← HV.out]
    exact Gives.of HB8.out HL8.out.trim

end Go.Proofs.YtihdnfhclocndaaGreatDoor
