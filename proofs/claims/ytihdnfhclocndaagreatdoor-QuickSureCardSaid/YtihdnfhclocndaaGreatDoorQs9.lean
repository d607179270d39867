/- numeral/big: the words' functions: mulWords, the second argument the longer one (printed by wip/gen13.py); the whole contract. -/
import Derived.Test.YtihdnfhclocndaaGreatDoorQs8
namespace Go.Proofs.YtihdnfhclocndaaGreatDoor
open Go.RowKit W

set_option maxRecDepth 100000 in
set_option maxHeartbeats 400000 in
theorem mul_few_lt (A2 A1 : Option Addr) (ys xs : List Nat) (c2 c1 : Nat) (w : World) (h2 : Rd w A2 ys) (h1 : Rd w A1 xs) (s2 : Small ys) (s1 : Small xs)
    (hlt0 : xs.length < ys.length) (hm : ys.length ≤ 549755813888) (hf : xs.length < 40) :
    Calls Tryz.prog 176 #[.slice A1 xs.length c1, .slice A2 ys.length c2] w (Gives w (ofN (wv ys * wv xs))) := by
  have hl : xs.length ≤ ys.length := Nat.le_of_lt hlt0
  have hl' : ((xs.length : Int) < (ys.length : Int)) := by omega
  go_enter Tryz.func176, Tryz.ntmps176
  go_wp2_with (go_at_call 234; refine (plain_any _ _ ys xs _ _ _ h2 h1 s2 s1 hm (by omega)).mono ?_; rintro e w' ⟨A, c, rfl, hb, hr⟩)
  go_ret
  exact ⟨_, _, rfl, hb, hr⟩

set_option maxRecDepth 100000 in
set_option maxHeartbeats 400000 in
theorem mul_long_lt (K : Nat) (ih : Hid (MulSaid K)) (A2 A1 : Option Addr) (ys xs : List Nat) (c2 c1 : Nat) (w : World) (h2 : Rd w A2 ys) (h1 : Rd w A1 xs) (s2 : Norm ys) (s1 : Norm xs)
    (hlt0 : xs.length < ys.length) (hm : ys.length ≤ 549755813888) (hf : 40 ≤ xs.length) (hg : 2 * xs.length ≤ ys.length) (hK : ys.length + xs.length ≤ K + 1) (hc2 : ys.length ≤ c2) (hc1 : xs.length ≤ c1) (hm2 : c2 ≤ maxLen) (hm1 : c1 ≤ maxLen) :
    Calls Tryz.prog 176 #[.slice A1 xs.length c1, .slice A2 ys.length c2] w (Gives w (ofN (wv ys * wv xs))) := by
  have hl : xs.length ≤ ys.length := Nat.le_of_lt hlt0
  have hl' : ((xs.length : Int) < (ys.length : Int)) := by omega
  have hf' : ¬ ((xs.length : Int) < 40) := by omega
  have hg' : (2 : Int) * (xs.length : Int) ≤ (ys.length : Int) := by omega
  have hmk := fun w : World => make_u32 w ((ys.length : Int) + (xs.length : Int) + 1) (by omega) (by omega)
  have hcm2 : c2 ≤ 9223372036854775807 := by simpa [maxLen] using hm2
  obtain ⟨b, o, rfl, hx⟩ := h2 (by omega)
  clear hx
  go_enter Tryz.func176, Tryz.ntmps176
  go_wp2
  go_loopw [6] (fun i wr => ∃ (k : Nat) (zs : List Nat), k ≤ ys.length + xs.length ∧ i = .int .i64 k ∧
      Loc w.heap.size wr w.heap.size (ys.length + xs.length + 1) (ys.length + xs.length + 1) zs ∧ Below w.heap.size w wr ∧
      Hid (wv zs = wv (ys.take k) * wv xs)) (fun i _ => ys.length - (intOf i).toNat)
  case atStart => exact ⟨0, _, by omega, rfl, Loc.new w (Nat.le_refl _) (by omega), (Below.refl _ _).alloc (Nat.le_refl _) _, by show wv _ = wv _ * wv _; rw [wv_replicate]; simp [wv]⟩
  case round =>
    obtain ⟨k, zs, hk, rfl, hL, hB, hI⟩ := hrel
    by_cases hlt : k < ys.length
    · by_cases hfit : k + xs.length ≤ ys.length
      · have hmin : min ((k : Int) + (xs.length : Int)) (ys.length : Int) = (k : Int) + (xs.length : Int) := by omega
        have hle : xs.length ≤ xs.length := by omega
        have hkm : k + xs.length ≤ ys.length := by omega
        have hpos : 1 ≤ xs.length := by omega
        have HM := Lib.hid (show xs.length = xs.length ∨ k + xs.length = ys.length from .inl rfl)
        have hR := h2.below hB
        have hT := trim_part hR s2.1 k (xs.length) (c2 - k) hkm (by omega) (by simp [maxLen]; omega)
        have sp : Small ((ys.drop k).take (xs.length)) := (s2.1.drop k).take _
        have hlp : (ofN (wv ((ys.drop k).take (xs.length)))).length ≤ xs.length := length_ofN_le (by have := wv_lt sp; rwa [List.length_take, List.length_drop, Nat.min_eq_left (by omega)] at this)
        have hMul := ih.out _ _ _ _ _ _ (c2 - k) c1 wr rfl rfl (show (ofN (wv ((ys.drop k).take (xs.length)))).length + xs.length ≤ K by omega) ((hR.sub k (xs.length)).trimmed sp) (h1.below hB) (norm_ofN _) s1 (by omega) hc1 (by simp [maxLen]; omega) hm1
        rw [wv_ofN] at hMul
        have hP := Lib.hid (piece_step (ys := xs) hkm HM.out)
        generalize wv ((ys.drop k).take (xs.length)) = V at hT hMul hlp hP
        have hfitN : wv zs + 4294967296 ^ k * (V * wv xs) < 4294967296 ^ (ys.length + xs.length + 1) := by
          have h3 := hP.out
          rw [← hI.out] at h3
          rcases h3 with h3 | h3
          · rw [h3]
            have h4 := wv_lt (s2.1.take (k + xs.length))
            have h5 := wv_lt s1.1
            have h6 : 4294967296 ^ (ys.take (k + xs.length)).length ≤ 4294967296 ^ ys.length := Nat.pow_le_pow_right (by omega) (by rw [List.length_take]; omega)
            have h7 : wv (ys.take (k + xs.length)) * wv xs < 4294967296 ^ ys.length * 4294967296 ^ xs.length := Nat.mul_lt_mul'' (by omega) h5
            rw [← Nat.pow_add] at h7
            have h8 := Nat.pow_le_pow_right (n := 4294967296) (by omega) (show ys.length + xs.length ≤ ys.length + xs.length + 1 by omega)
            omega
          · omega
        have HF := Lib.hid hfitN
        have HLw := hL.lt
        have HL := Lib.hid hL
        have HB := Lib.hid hB
        have hlp2 : k + (ofN (V * wv xs)).length ≤ ys.length + xs.length + 1 := by
          by_cases h0 : V * wv xs = 0
          · rw [h0, ofN_zero]; simp; omega
          · exact fit_len (by have := hfitN; omega) h0
        clear hfitN hL hB
        go_wp2_with fail
        refine hT.mono ?_; rintro e w' ⟨rfl, rfl⟩
        go_wp2_with fail
        refine hMul.mono ?_; rintro e w2 ⟨A, c, rfl, hb2, hr2, hc3, hc4, hrd2⟩
        have hL2 := HL.out.below hb2 HLw
        have hA := addAt_any w.heap.size w.heap.size _ _ _ A _ c k w2 hL2 hrd2 (small_ofN _) (hr2.off HLw) (by omega) hlp2 (by rw [wv_ofN]; exact HF.out)
        rw [wv_ofN] at hA
        have HB2 := Lib.hid ((HB.out.trans (hb2.mono HB.out.size)))
        have HS := HB.out.size
        have hs2 := hb2.size
        clear hb2 hr2 hrd2 hL2
        go_wp2_with fail
        refine hA.mono ?_; rintro e w3 ⟨rfl, hg3, zs3, hL3, hv3⟩
        have HV := Lib.hid hv3
        have HL3 := Lib.hid hL3
        have HB3 := Lib.hid (grown_below HB2.out hg3 (by omega) (Nat.le_refl _))
        clear hv3 hL3 hg3
        go_wp2
        go_roundw
        case rel =>
          refine ⟨k + xs.length, zs3, by omega, by go_num, HL3.out, HB3.out, ?_⟩
          show wv zs3 = _
          rw [HV.out, hI.out]
          rcases hP.out with h | h
          · exact h
          · omega
        case measure => simp [intOf]; omega
      · have hfit' : (ys.length : Int) < (k : Int) + (xs.length : Int) := by omega
        have hmin : min ((k : Int) + (xs.length : Int)) (ys.length : Int) = (ys.length : Int) := by omega
        have hle : (ys.length - k) ≤ xs.length := by omega
        have hkm : k + (ys.length - k) ≤ ys.length := by omega
        have hpos : 1 ≤ (ys.length - k) := by omega
        have HM := Lib.hid (show (ys.length - k) = xs.length ∨ k + (ys.length - k) = ys.length from .inr (by omega))
        have hR := h2.below hB
        have hT := trim_part hR s2.1 k ((ys.length - k)) (c2 - k) hkm (by omega) (by simp [maxLen]; omega)
        have sp : Small ((ys.drop k).take ((ys.length - k))) := (s2.1.drop k).take _
        have hlp : (ofN (wv ((ys.drop k).take ((ys.length - k))))).length ≤ (ys.length - k) := length_ofN_le (by have := wv_lt sp; rwa [List.length_take, List.length_drop, Nat.min_eq_left (by omega)] at this)
        have hMul := ih.out _ _ _ _ _ _ (c2 - k) c1 wr rfl rfl (show (ofN (wv ((ys.drop k).take ((ys.length - k))))).length + xs.length ≤ K by omega) ((hR.sub k ((ys.length - k))).trimmed sp) (h1.below hB) (norm_ofN _) s1 (by omega) hc1 (by simp [maxLen]; omega) hm1
        rw [wv_ofN] at hMul
        have hP := Lib.hid (piece_step (ys := xs) hkm HM.out)
        generalize wv ((ys.drop k).take ((ys.length - k))) = V at hT hMul hlp hP
        have hfitN : wv zs + 4294967296 ^ k * (V * wv xs) < 4294967296 ^ (ys.length + xs.length + 1) := by
          have h3 := hP.out
          rw [← hI.out] at h3
          rcases h3 with h3 | h3
          · rw [h3]
            have h4 := wv_lt (s2.1.take (k + xs.length))
            have h5 := wv_lt s1.1
            have h6 : 4294967296 ^ (ys.take (k + xs.length)).length ≤ 4294967296 ^ ys.length := Nat.pow_le_pow_right (by omega) (by rw [List.length_take]; omega)
            have h7 : wv (ys.take (k + xs.length)) * wv xs < 4294967296 ^ ys.length * 4294967296 ^ xs.length := Nat.mul_lt_mul'' (by omega) h5
            rw [← Nat.pow_add] at h7
            have h8 := Nat.pow_le_pow_right (n := 4294967296) (by omega) (show ys.length + xs.length ≤ ys.length + xs.length + 1 by omega)
            omega
          · omega
        have HF := Lib.hid hfitN
        have HLw := hL.lt
        have HL := Lib.hid hL
        have HB := Lib.hid hB
        have hlp2 : k + (ofN (V * wv xs)).length ≤ ys.length + xs.length + 1 := by
          by_cases h0 : V * wv xs = 0
          · rw [h0, ofN_zero]; simp; omega
          · exact fit_len (by have := hfitN; omega) h0
        clear hfitN hL hB
        go_wp2_with fail
        refine hT.mono ?_; rintro e w' ⟨rfl, rfl⟩
        go_wp2_with fail
        refine hMul.mono ?_; rintro e w2 ⟨A, c, rfl, hb2, hr2, hc3, hc4, hrd2⟩
        have hL2 := HL.out.below hb2 HLw
        have hA := addAt_any w.heap.size w.heap.size _ _ _ A _ c k w2 hL2 hrd2 (small_ofN _) (hr2.off HLw) (by omega) hlp2 (by rw [wv_ofN]; exact HF.out)
        rw [wv_ofN] at hA
        have HB2 := Lib.hid ((HB.out.trans (hb2.mono HB.out.size)))
        have HS := HB.out.size
        have hs2 := hb2.size
        clear hb2 hr2 hrd2 hL2
        go_wp2_with fail
        refine hA.mono ?_; rintro e w3 ⟨rfl, hg3, zs3, hL3, hv3⟩
        have HV := Lib.hid hv3
        have HL3 := Lib.hid hL3
        have HB3 := Lib.hid (grown_below HB2.out hg3 (by omega) (Nat.le_refl _))
        clear hv3 hL3 hg3
        go_wp2
        go_roundw
        case rel =>
          refine ⟨k + xs.length, zs3, by omega, by go_num, HL3.out, HB3.out, ?_⟩
          show wv zs3 = _
          rw [HV.out, hI.out]
          rcases hP.out with h | h
          · exact h
          · omega
        case measure => simp [intOf]; omega
    · have hT := trim_any _ _ (ys.length + xs.length + 1) _ hL.rd hL.2.1 (by rw [hL.1]; omega) (by simp [maxLen]; omega)
      rw [hL.1] at hT
      have hv : wv zs = wv ys * wv xs := by rw [hI.out, wv_take_all (by omega)]
      have HV := Lib.hid hv
      have HB := Lib.hid hB
      have HL := Lib.hid hL
      clear hv hL hB hI
      go_wp2_with (go_at_call 194; refine hT.mono ?_; rintro e w' ⟨rfl, rfl⟩)
      go_ret
      rw [← HV.out]
      exact Gives.of HB.out HL.out.trim

set_option maxRecDepth 100000 in
set_option maxHeartbeats 1000000 in
theorem mul_kara_lt (K : Nat) (ih : Hid (MulSaid K)) (A2 A1 : Option Addr) (ys xs : List Nat) (c2 c1 : Nat) (w : World) (h2 : Rd w A2 ys) (h1 : Rd w A1 xs) (s2 : Norm ys) (s1 : Norm xs)
    (hlt0 : xs.length < ys.length) (hm : ys.length ≤ 274877906944) (hf : 40 ≤ xs.length) (hg : ys.length < 2 * xs.length) (hK : ys.length + xs.length ≤ K + 1) (hc2 : ys.length ≤ c2) (hc1 : xs.length ≤ c1) (hm2 : c2 ≤ maxLen) (hm1 : c1 ≤ maxLen) :
    Calls Tryz.prog 176 #[.slice A1 xs.length c1, .slice A2 ys.length c2] w (Gives w (ofN (wv ys * wv xs))) := by
  have hl : xs.length ≤ ys.length := Nat.le_of_lt hlt0
  have hl' : ((xs.length : Int) < (ys.length : Int)) := by omega
  have hf' : ¬ ((xs.length : Int) < 40) := by omega
  have hg' : ¬ ((2 : Int) * (xs.length : Int) ≤ (ys.length : Int)) := by omega
  have hmk := fun w : World => make_u32 w ((ys.length : Int) + (xs.length : Int) + 1) (by omega) (by omega)
  have hcm2 : c2 ≤ 9223372036854775807 := by simpa [maxLen] using hm2
  have hcm : c1 ≤ 9223372036854775807 := by simpa [maxLen] using hm1
  obtain ⟨b, o, rfl, hx⟩ := h2 (by omega)
  obtain ⟨b2, o2, rfl, hy⟩ := h1 (by omega)
  clear hx hy
  have hH1 : (ys.length + 1) / 2 ≤ xs.length := by omega
  have hH2 : (ys.length + 1) / 2 ≤ ys.length := by omega
  have sa : Small (ys.take ((ys.length + 1) / 2)) := s2.1.take _
  have sb : Small (xs.take ((ys.length + 1) / 2)) := s1.1.take _
  have la : (ofN (wv (ys.take ((ys.length + 1) / 2)))).length ≤ (ys.length + 1) / 2 := length_ofN_le (by have := wv_lt sa; rwa [List.length_take, Nat.min_eq_left hH2] at this)
  have lb : (ofN (wv (xs.take ((ys.length + 1) / 2)))).length ≤ (ys.length + 1) / 2 := length_ofN_le (by have := wv_lt sb; rwa [List.length_take, Nat.min_eq_left hH1] at this)
  go_enter Tryz.func176, Tryz.ntmps176
  go_wp2
  have hL0 := Loc.new w (Nat.le_refl _) (n := ys.length + xs.length + 1) (by omega)
  have hB0 : Below w.heap.size w (w.alloc (.cells (u32l (List.replicate (ys.length + xs.length + 1) 0)).toArray tU32)) := (Below.refl _ _).alloc (Nat.le_refl _) _
  have h1a := h2.below hB0
  have h2a := h1.below hB0
  generalize hW : w.alloc (.cells (u32l (List.replicate (ys.length + xs.length + 1) 0)).toArray tU32) = w0 at *
  have HW := Lib.hid hW; clear hW
  have HL0 := Lib.hid hL0
  have HB0 := Lib.hid hB0
  have hs0 := hB0.size
  clear hL0 hB0
  have T1 := Lib.hid (trim_head (A := some ⟨b, o, none⟩) (xs := ys) h1a.drew s2.1 ((ys.length + 1) / 2) c2 hH2 (by omega) hm2)
  have T2 := Lib.hid (trim_head (A := some ⟨b2, o2, none⟩) (xs := xs) h2a.drew s1.1 ((ys.length + 1) / 2) c1 hH1 (by omega) hm1)
  have T3 := Lib.hid (ih.out (some ⟨b, o, none⟩) (some ⟨b2, o2, none⟩) _ _ _ _ c2 c1 _ rfl rfl (show (ofN (wv (ys.take ((ys.length + 1) / 2)))).length + (ofN (wv (xs.take ((ys.length + 1) / 2)))).length ≤ K by omega) ((h1a.take _).trimmed sa).drew ((h2a.take _).trimmed sb).drew (norm_ofN _) (norm_ofN _) (by omega) (by omega) hm2 hm1)
  rw [wv_ofN, wv_ofN] at T3
  have q0 : (0 : Int) ≤ ((ys.length : Int) + 1) / 2 := by omega
  have q1 : ((ys.length : Int) + 1) / 2 ≤ (c2 : Int) := by omega
  have q2 : ((ys.length : Int) + 1) / 2 ≤ (c1 : Int) := by omega
  have q3 : (((ys.length : Int) + 1) / 2).toNat = (ys.length + 1) / 2 := by omega
  refine wp_region_still_tail 8 (by kernel_rfl) (by kernel_rfl) ?_
  simp only [List.take_succ_cons, List.take_zero, List.drop_succ_cons, List.drop_zero]
  repeat still_step
  still_call (T1.out.mono (fun _ _ h => ⟨h.1, h.2.symm⟩))
  repeat still_step
  still_call (T2.out.mono (fun _ _ h => ⟨h.1, h.2.symm⟩))
  refine wpStill_nil ?_
  change wpList _ _ _ _ _ w0.drew
  go_wp2_with fail
  with_reducible refine T3.out.mono ?_
  rintro e w1 ⟨Al, cl, rfl, hb1, hr1, hcl1, hcl2, hrd1⟩
  have HB1 := Lib.hid (HB0.out.trans ((Below.drew (Below.refl _ _)).trans (hb1.mono (by simpa using hs0))))
  have HL1 := Lib.hid ((HL0.out.block (w' := w0.drew) rfl).below hb1 HL0.out.lt)
  have h1b := h1a.drew.below hb1
  have h2b := h2a.drew.below hb1
  have ol := hr1.off (g := w.heap.size) (by simpa using HL0.out.lt)
  have OL := Lib.hid ol
  have hs1 : w.heap.size < w1.heap.size := Nat.lt_of_lt_of_le HL0.out.lt (by simpa using hb1.size)
  clear T1 T2 T3 hb1 hr1 h1a h2a ol
  -- the heads of the halves
  have hne1 : ¬ c2 = (ys.length + 1) / 2 := by omega
  obtain ⟨B2, hB2⟩ : ∃ B2, (if c1 = (ys.length + 1) / 2 then some (Addr.mk b2 o2 none) else some (Addr.mk b2 (o2 + (ys.length + 1) / 2) none)) = B2 := ⟨_, rfl⟩
  have hRa : Rd w1 (some ⟨b, o + (ys.length + 1) / 2, none⟩) (ys.drop ((ys.length + 1) / 2)) := by
    have := h1b.sub ((ys.length + 1) / 2) (ys.length - (ys.length + 1) / 2)
    rwa [List.take_of_length_le (by rw [List.length_drop]; omega)] at this
  have hRb : Rd w1 B2 (xs.drop ((ys.length + 1) / 2)) := by
    by_cases hc : c1 = (ys.length + 1) / 2
    · intro hn
      rw [List.length_drop] at hn
      omega
    · have := h2b.sub ((ys.length + 1) / 2) (xs.length - (ys.length + 1) / 2)
      rw [List.take_of_length_le (by rw [List.length_drop]; omega)] at this
      rw [← hB2, if_neg hc]; exact this
  have T4 := Lib.hid (ih.out (some ⟨b, o + (ys.length + 1) / 2, none⟩) B2 _ _ (ys.length - (ys.length + 1) / 2) (xs.length - (ys.length + 1) / 2) (c2 - (ys.length + 1) / 2) (c1 - (ys.length + 1) / 2) _ (List.length_drop ..) (List.length_drop ..) (by omega) hRa.drew hRb.drew (norm_drop s2 _) (norm_drop s1 _) (by omega) (by omega) (by omega) (by omega))
  have q4 : ((ys.length : Int) + 1) / 2 ≤ (ys.length : Int) := by omega
  have q5 : ((ys.length : Int) + 1) / 2 ≤ (xs.length : Int) := by omega
  go_wp2
  refine wp_region_still_tail 6 (by kernel_rfl) (by kernel_rfl) ?_
  simp only [List.take_succ_cons, List.take_zero, List.drop_succ_cons, List.drop_zero]
  repeat still_step
  refine wpStill_nil ?_
  change wpList _ _ _ _ _ w1.drew
  go_wp2_with fail
  with_reducible refine T4.out.mono ?_
  rintro e w2 ⟨Ah, ch, rfl, hb2, hr2, hch1, hch2, hrd2⟩
  have HB2 := Lib.hid (HB1.out.trans ((Below.drew (Below.refl _ _)).trans (hb2.mono (by simp; omega))))
  have HL2 := Lib.hid ((HL1.out.block (w' := w1.drew) rfl).below hb2 (by simpa using hs1))
  have h1c := h1b.drew.below hb2
  have h2c := h2b.drew.below hb2
  have hRa2 := hRa.drew.below hb2
  have hRb2 := hRb.drew.below hb2
  have hrl2 := hrd1.drew.below hb2
  have oh := hr2.off (g := w.heap.size) (by simpa using hs1)
  have OH := Lib.hid oh
  have hs2 : w.heap.size < w2.heap.size := Nat.lt_of_lt_of_le hs1 (by simpa using hb2.size)
  clear T4 hb2 hr2 h1b h2b hRa hRb hrd1 oh
  have x0 := head_lt (H := (ys.length + 1) / 2) s2.1
  have x1 := half_lt (k := (ys.length + 1) / 2) (H := (ys.length + 1) / 2) s2.1 (by omega)
  have y0 := head_lt (H := (ys.length + 1) / 2) s1.1
  have y1 := half_lt (k := (ys.length + 1) / 2) (H := (ys.length + 1) / 2) s1.1 (by omega)
  have lx := sum_len x0 x1
  have ly := sum_len y0 y1
  go_wp2
  go_cut [10] (fun s10 wx => ∃ Am cm, s10 = .slice Am (ofN ((wv (ys.take ((ys.length + 1) / 2)) + wv (ys.drop ((ys.length + 1) / 2))) * (wv (xs.take ((ys.length + 1) / 2)) + wv (xs.drop ((ys.length + 1) / 2))))).length cm ∧
    Below w2.heap.size w2 wx ∧ Rd wx Am (ofN ((wv (ys.take ((ys.length + 1) / 2)) + wv (ys.drop ((ys.length + 1) / 2))) * (wv (xs.take ((ys.length + 1) / 2)) + wv (xs.drop ((ys.length + 1) / 2))))))
  case first =>
    have T1 := Lib.hid (trim_head (A := some ⟨b, o, none⟩) (xs := ys) h1c.drew s2.1 ((ys.length + 1) / 2) c2 hH2 (by omega) hm2)
    have T2 := Lib.hid (addWords_len (some ⟨b, o, none⟩) (some ⟨b, o + (ys.length + 1) / 2, none⟩) _ _ _ (ys.length - (ys.length + 1) / 2) c2 (c2 - (ys.length + 1) / 2) _ rfl (List.length_drop ..) ((h1c.take _).trimmed sa).drew hRa2.drew (small_ofN _) (s2.1.drop _) (by omega) (by omega))
    rw [wv_ofN] at T2
    go_region_with (first
      | (go_at_call 194; (with_reducible refine T1.out.mono ?_); rintro e w' ⟨rfl, rfl⟩)
      | (go_at_call 216; (with_reducible refine T2.out.mono ?_); rintro e w3 ⟨Ax, cx, rfl, hb3, hr3, hcx1, hcx2, hrd3⟩; have h2d := h2c.drew.below hb3; have hRb3 := hRb2.drew.below hb3; have T3 := Lib.hid (trim_head (A := some ⟨b2, o2, none⟩) (xs := xs) h2d s1.1 ((ys.length + 1) / 2) c1 hH1 (by omega) hm1); have T4 := Lib.hid (addWords_len (some ⟨b2, o2, none⟩) B2 _ _ _ (xs.length - (ys.length + 1) / 2) c1 (c1 - (ys.length + 1) / 2) _ rfl (List.length_drop ..) ((h2d.take _).trimmed sb) hRb3 (small_ofN _) (s1.1.drop _) (by omega) (by omega)); rw [wv_ofN] at T4; clear h2d hRb3 T1 T2)
      | (go_at_call 194; (with_reducible refine T3.out.mono ?_); rintro e w' ⟨rfl, rfl⟩)
      | (go_at_call 216; (with_reducible refine T4.out.mono ?_); rintro e w4 ⟨Ay, cy, rfl, hb4, hr4, hcy1, hcy2, hrd4⟩; have hrd3' := hrd3.below hb4; have T5 := Lib.hid (ih.out Ax Ay _ _ _ _ cx cy _ rfl rfl (show (ofN (wv (ys.take ((ys.length + 1) / 2)) + wv (ys.drop ((ys.length + 1) / 2)))).length + (ofN (wv (xs.take ((ys.length + 1) / 2)) + wv (xs.drop ((ys.length + 1) / 2)))).length ≤ K by omega) hrd3' hrd4 (norm_ofN _) (norm_ofN _) hcx1 hcy1 hcx2 hcy2); rw [wv_ofN, wv_ofN] at T5; clear hrd3' T3 T4)
      | (go_at_call 176; (with_reducible refine T5.out.mono ?_); rintro e w5 ⟨Am, cm, rfl, hb5, hr5, hcm1, hcm, hrd5⟩; clear T5))
    go_wp2_with fail
    go_meet
    exact ⟨Am, cm, rfl, ((Below.drew (Below.refl _ _)).trans (hb3.mono (by simp))).trans ((hb4.mono (by have := hb3.size; simpa using this)).trans (hb5.mono (by have := hb3.size; have := hb4.size; simp at *; omega))), hrd5⟩
  case rest =>
    obtain ⟨Am, cm, rfl, hb3, hrd3⟩ := hcut
    have hrh3 := hrd2.below hb3
    have hrl3 := hrl2.below hb3
    have HB3 := Lib.hid (HB2.out.trans (hb3.mono (by omega)))
    have HL3 := Lib.hid (HL2.out.below hb3 hs2)
    have hs3 : w.heap.size < wc.heap.size := Nat.lt_of_lt_of_le hs2 hb3.size
    have ex := wv_take_drop ys ((ys.length + 1) / 2) hH2
    have ey := wv_take_drop xs ((ys.length + 1) / 2) hH1
    have bx := wv_lt s2.1
    have bY := wv_lt s1.1
    clear hb3 hrl2 hrd2 h1c h2c hRa2 hRb2 HL0 HB0 HB1 HL1 HB2 HL2 HW
    clear hl' hf' hg' la lb sa sb hB2 hne1 q1 q2 q4 q5 hmk h2 h1
    generalize wv (ys.take ((ys.length + 1) / 2)) = P0 at *
    generalize wv (ys.drop ((ys.length + 1) / 2)) = P1 at *
    generalize wv (xs.take ((ys.length + 1) / 2)) = Q0 at *
    generalize wv (xs.drop ((ys.length + 1) / 2)) = Q1 at *
    have hk := kara (P0 := P0) (P1 := P1) (Q0 := Q0) (Q1 := Q1)
    have HK := Lib.hid hk
    have EX := Lib.hid ex
    have EY := Lib.hid ey
    have BX := Lib.hid bx
    have BY := Lib.hid bY
    have lM : (ofN ((P0 + P1) * (Q0 + Q1))).length ≤ 549755813888 := by
      have h2 : (P0 + P1) * (Q0 + Q1) < 4294967296 ^ ((ys.length + 1) / 2 + 1) * 4294967296 ^ ((ys.length + 1) / 2 + 1) := by
        apply Nat.mul_lt_mul''
        · have := wv_lt (small_ofN (P0 + P1)); rw [wv_ofN] at this
          have := Nat.pow_le_pow_right (n := 4294967296) (by omega) lx
          omega
        · have := wv_lt (small_ofN (Q0 + Q1)); rw [wv_ofN] at this
          have := Nat.pow_le_pow_right (n := 4294967296) (by omega) ly
          omega
      rw [← Nat.pow_add] at h2
      have := length_ofN_le h2
      omega
    have lM2 : (ofN ((P0 + P1) * (Q0 + Q1) - P0 * Q0)).length ≤ 549755813888 := Nat.le_trans (ofN_len_mono (by omega)) lM
    clear hk ex ey bx bY
    have S1 := Lib.hid (subWords_any Am Al _ _ cm cl wc hrd3 hrl3 (small_ofN _) (small_ofN _) (ofN_len_mono HK.out.1) lM (by rw [wv_ofN, wv_ofN]; exact HK.out.1))
    rw [wv_ofN, wv_ofN] at S1
    go_wp2_with fail
    with_reducible refine S1.out.mono ?_
    rintro e w4 ⟨Ad, cd, rfl, hb4, hr4, hcd1, hcd2, hrd4⟩
    have hrh4 := hrh3.below hb4
    have hrl4 := hrl3.below hb4
    have HB4 := Lib.hid (HB3.out.trans (hb4.mono (by omega)))
    have HL4 := Lib.hid (HL3.out.below hb4 hs3)
    have hs4 : w.heap.size < w4.heap.size := Nat.lt_of_lt_of_le hs3 hb4.size
    clear S1 hb4 hr4 hrh3 hrl3 HB3 HL3
    have S2 := Lib.hid (subWords_any Ad Ah _ _ cd ch w4 hrd4 hrh4 (small_ofN _) (small_ofN _) (ofN_len_mono HK.out.2.1) lM2 (by rw [wv_ofN, wv_ofN]; exact HK.out.2.1))
    rw [wv_ofN, wv_ofN] at S2
    go_wp2_with fail
    with_reducible refine S2.out.mono ?_
    rintro e w5 ⟨Ae, ce, rfl, hb5, hr5, hce1, hce2, hrd5⟩
    have hrh5 := hrh4.below hb5
    have hrl5 := hrl4.below hb5
    have HB5 := Lib.hid (HB4.out.trans (hb5.mono (by omega)))
    have HL5 := Lib.hid (HL4.out.below hb5 hs4)
    have OE := Lib.hid (hr5.off hs4)
    have hs5 : w.heap.size < w5.heap.size := Nat.lt_of_lt_of_le hs4 hb5.size
    clear S2 hb5 hr5 hrh4 hrl4 HB4 HL4 hrd4
    have hT : wv ys * wv xs = P0 * Q0 + 4294967296 ^ ((ys.length + 1) / 2) * ((P0 + P1) * (Q0 + Q1) - P0 * Q0 - P1 * Q1) + 4294967296 ^ ((ys.length + 1) / 2) * 4294967296 ^ ((ys.length + 1) / 2) * (P1 * Q1) :=
      kara_total EX.out EY.out HK.out.2.2 rfl rfl
    have hF : wv ys * wv xs < 4294967296 ^ (ys.length + xs.length + 1) := by
      have h2 := Nat.mul_lt_mul'' BX.out BY.out
      rw [← Nat.pow_add] at h2
      have := Nat.pow_le_pow_right (n := 4294967296) (by omega) (show ys.length + xs.length ≤ ys.length + xs.length + 1 by omega)
      omega
    rw [← Nat.pow_add] at hT
    clear HK EX EY BX BY x0 x1 y0 y1 lx ly lM lM2 hce2 hcl1 hch1 hcd1
    generalize (P0 + P1) * (Q0 + Q1) - P0 * Q0 - P1 * Q1 = D at *
    generalize P0 * Q0 = L at *
    generalize P1 * Q1 = U at *
    generalize wv ys * wv xs = T at *
    have F1 : 4294967296 ^ 0 * L < 4294967296 ^ (ys.length + xs.length + 1) := by simp only [Nat.pow_zero, Nat.one_mul]; omega
    have F2 : 4294967296 ^ ((ys.length + 1) / 2) * D < 4294967296 ^ (ys.length + xs.length + 1) := by omega
    have F3 : 4294967296 ^ ((ys.length + 1) / 2 + (ys.length + 1) / 2) * U < 4294967296 ^ (ys.length + xs.length + 1) := by omega
    have E1 := fit_at F1 (by omega)
    have E2 := fit_at F2 (by omega)
    have E3 := fit_at F3 (by omega)
    have A2 := Lib.hid (addAt_int w.heap.size w.heap.size _ _ _ Al _ cl 0 0 rfl w5 HL5.out hrl5 (small_ofN _) OL.out (by omega) E1 (by rw [wv_replicate, wv_ofN, Nat.zero_add]; exact F1))
    rw [wv_replicate, wv_ofN, Nat.zero_add, Nat.pow_zero, Nat.one_mul] at A2
    have HT := Lib.hid hT
    have HF := Lib.hid hF
    clear hT hF F1 F2 F3 E1 hrl5
    go_wp2_with fail
    with_reducible refine A2.out.mono ?_
    rintro e w6 ⟨rfl, hg6, z6, hL6, hv6⟩
    have hrd6 := hrd5.grown hg6 OE.out
    have hrh6 := hrh5.grown hg6 OH.out
    have HB6 := Lib.hid (grown_below HB5.out hg6 (by omega) (Nat.le_refl _))
    have A1 := Lib.hid (addAt_int w.heap.size w.heap.size _ _ _ Ae _ ce ((ys.length + 1) / 2) (((ys.length : Int) + 1) / 2) (by omega) w6 hL6 hrd6 (small_ofN _) OE.out (by omega) E2 (by rw [hv6, wv_ofN]; have := HF.out; have := HT.out; omega))
    rw [hv6, wv_ofN] at A1
    have hs6 : w.heap.size < w6.heap.size := Nat.lt_of_lt_of_le hs5 hg6.size
    clear A2 hg6 hL6 hv6 hrd6 hrh5 HB5 HL5
    go_wp2_with fail
    with_reducible refine A1.out.mono ?_
    rintro e w7 ⟨rfl, hg7, z7, hL7, hv7⟩
    have hrh7 := hrh6.grown hg7 OH.out
    have HB7 := Lib.hid (grown_below HB6.out hg7 (by omega) (Nat.le_refl _))
    have A3 := Lib.hid (addAt_int w.heap.size w.heap.size _ _ _ Ah _ ch ((ys.length + 1) / 2 + (ys.length + 1) / 2) (2 * (((ys.length : Int) + 1) / 2)) (by omega) w7 hL7 hrh7 (small_ofN _) OH.out (by omega) E3 (by rw [hv7, wv_ofN]; have := HF.out; have := HT.out; omega))
    rw [hv7, wv_ofN, ← HT.out] at A3
    have hs7 : w.heap.size < w7.heap.size := Nat.lt_of_lt_of_le hs6 hg7.size
    clear A1 hg7 hL7 hv7 hrh7 hrh6 HB6
    go_wp2_with fail
    with_reducible refine A3.out.mono ?_
    rintro e w8 ⟨rfl, hg8, z8, hL8, hv8⟩
    have HB8 := Lib.hid (grown_below HB7.out hg8 (by omega) (Nat.le_refl _))
    have hTr := Lib.hid (trim_len _ _ (ys.length + xs.length + 1) (ys.length + xs.length + 1) _ hL8.len hL8.rd hL8.small (Nat.le_refl _) (by simp [maxLen]; omega))
    have HV := Lib.hid hv8
    have HL8 := Lib.hid hL8
    clear A3 hg8 hL8 hv8 HB7
    go_wp2_with fail
    with_reducible refine hTr.out.mono ?_
    rintro e w9 ⟨rfl, rfl⟩
    go_wp2
    go_ret
    rw [← HV.out]
    exact Gives.of HB8.out HL8.out.trim

theorem mulWords_all (K : Nat) (hK : K ≤ 274877906944) : MulSaid K := by
  induction K with
  | zero =>
    intro A1 A2 xs ys n1 n2 c1 c2 w e1 e2 hk h1 h2 s1 s2 hc1 hc2 hm1 hm2
    subst e1; subst e2
    exact mul_few A1 A2 xs ys c1 c2 w h1 h2 s1.1 s2.1 (by omega) (by omega) (by omega)
  | succ K ih0 =>
    have ih := Lib.hid (ih0 (by omega))
    intro A1 A2 xs ys n1 n2 c1 c2 w e1 e2 hk h1 h2 s1 s2 hc1 hc2 hm1 hm2
    subst e1; subst e2
    rcases Nat.lt_or_ge xs.length ys.length with hl | hl
    · rw [Nat.mul_comm]
      rcases Nat.lt_or_ge xs.length 40 with hf | hf
      · exact mul_few_lt (A1 := A1) (A2 := A2) (xs := xs) (ys := ys) (c1 := c1) (c2 := c2) (w := w) (h1 := h1) (h2 := h2) (s1 := s1.1) (s2 := s2.1) (hlt0 := hl) (hm := by omega) (hf := hf)
      · rcases Nat.lt_or_ge ys.length (2 * xs.length) with hg | hg
        · exact mul_kara_lt (K := K) (ih := ih) (A1 := A1) (A2 := A2) (xs := xs) (ys := ys) (c1 := c1) (c2 := c2) (w := w) (h1 := h1) (h2 := h2) (s1 := s1) (s2 := s2) (hlt0 := hl) (hm := by omega) (hf := hf) (hg := hg) (hK := by omega) (hc1 := hc1) (hc2 := hc2) (hm1 := hm1) (hm2 := hm2)
        · exact mul_long_lt (K := K) (ih := ih) (A1 := A1) (A2 := A2) (xs := xs) (ys := ys) (c1 := c1) (c2 := c2) (w := w) (h1 := h1) (h2 := h2) (s1 := s1) (s2 := s2) (hlt0 := hl) (hm := by omega) (hf := hf) (hg := hg) (hK := by omega) (hc1 := hc1) (hc2 := hc2) (hm1 := hm1) (hm2 := hm2)
    · rcases Nat.lt_or_ge ys.length 40 with hf | hf
      · exact mul_few A1 A2 xs ys c1 c2 w h1 h2 s1.1 s2.1 hl (by omega) hf
      · rcases Nat.lt_or_ge xs.length (2 * ys.length) with hg | hg
        · exact mul_kara K ih A1 A2 xs ys c1 c2 w h1 h2 s1 s2 hl (by omega) hf hg (by omega) hc1 hc2 hm1 hm2
        · exact mul_long K ih A1 A2 xs ys c1 c2 w h1 h2 s1 s2 hl (by omega) hf hg (by omega) hc1 hc2 hm1 hm2

theorem mulWords_any (A1 A2 : Option Addr) (xs ys : List Nat) (c1 c2 : Nat) (w : World) (hk : xs.length + ys.length ≤ 274877906944) (h1 : Rd w A1 xs) (h2 : Rd w A2 ys) (s1 : Norm xs) (s2 : Norm ys)
    (hc1 : xs.length ≤ c1) (hc2 : ys.length ≤ c2) (hm1 : c1 ≤ maxLen) (hm2 : c2 ≤ maxLen) :
    Calls Tryz.prog 176 #[.slice A1 xs.length c1, .slice A2 ys.length c2] w (Gives w (ofN (wv xs * wv ys))) :=
  mulWords_all _ hk A1 A2 xs ys _ _ c1 c2 w rfl rfl (Nat.le_refl _) h1 h2 s1 s2 hc1 hc2 hm1 hm2

end Go.Proofs.YtihdnfhclocndaaGreatDoor
