/- numeral/big: numbers' methods: Sign, Cmp, BitLen, TrailingZeroBits, Uint64, Bit. numeral/big: numbers' methods: added, Add, Sub. -/
import Derived.Test.YtihdnfhclocndaaGreatDoorQs13
import Derived.StillTailTactics
namespace Go.Proofs.YtihdnfhclocndaaGreatDoor
open Go.RowKit W

theorem Calls.quiet_of2 {P : Program} {f : FuncId} {args : Array Value} {w : World} {n k : Nat} {v : Value}
    (h : Calls P f args (w.drewN (n + k)) fun e w' => e = .returned v ∧ ∃ m, w' = (w.drewN (n + k)).drewN m) : Calls P f args (w.drewN (n + k)) fun e w'' => e = .returned v ∧ ∃ m, w'' = w.drewN (n + m) :=
  h.mono fun _ _ ⟨he, m, hm⟩ => ⟨he, k + m, by rw [hm, World.drewN_drewN, Nat.add_assoc]⟩

def sgnI (z : Int) : Int := if z = 0 then 0 else if z < 0 then -1 else 1

theorem len_zero {n : Nat} : ((ofN n).length : Int) = 0 ↔ n = 0 := by
  constructor
  · intro h; exact ofN_eq_nil.1 (List.eq_nil_of_length_eq_zero (by omega))
  · rintro rfl; rw [ofN_zero]; rfl

set_option maxRecDepth 100000 in
theorem intSign_any (base gx ox : Nat) (x : Int) (w : World) (hx : IntAt base w gx ox x) :
    Calls Tryz.prog 83 #[.pointer (some ⟨gx, ox, none⟩)] w fun e w' => e = .returned (.int .i64 (sgnI x)) ∧ w = w' := by
  obtain ⟨A, c, c1, c2, hrd, hc, hm⟩ := hx.rd
  have HZ := Lib.hid (len_zero (n := x.natAbs))
  clear hrd hx
  rcases Int.lt_trichotomy x 0 with h | h | h
  · have e1 : (((ofN x.natAbs).length : Int) == 0) = false := by rw [beq_eq_false_iff_ne]; intro h'; have := HZ.out.1 h'; omega
    have e2 : decide (x < 0) = true := by simpa using h
    have e3 : sgnI x = -1 := by unfold sgnI; rw [if_neg (by omega), if_pos h]
    rw [e2] at c1
    rw [e3]
    go_enter Tryz.func83, Tryz.ntmps83
    go_wp2
    go_ret
    exact ⟨rfl, rfl⟩
  · subst h
    have e1 : (ofN (0 : Int).natAbs).length = 0 := by have := HZ.out.2 rfl; omega
    rw [e1] at c2
    have e0 : decide ((0 : Int) < 0) = false := by decide
    rw [e0] at c1
    clear e1 hc HZ
    go_enter Tryz.func83, Tryz.ntmps83
    go_wp2
    go_ret
    exact ⟨rfl, rfl⟩
  · have e1 : (((ofN x.natAbs).length : Int) == 0) = false := by rw [beq_eq_false_iff_ne]; intro h'; have := HZ.out.1 h'; omega
    have e2 : decide (x < 0) = false := by simp; omega
    have e3 : sgnI x = 1 := by unfold sgnI; rw [if_neg (by omega), if_neg (by omega)]
    rw [e2] at c1
    rw [e3]
    go_enter Tryz.func83, Tryz.ntmps83
    go_wp2
    go_ret
    exact ⟨rfl, rfl⟩

set_option maxRecDepth 100000 in
theorem intBitLen_any (base gx ox : Nat) (x : Int) (w : World) (hx : IntAt base w gx ox x) (hl : (ofN x.natAbs).length ≤ 274877906944) :
    Calls Tryz.prog 108 #[.pointer (some ⟨gx, ox, none⟩)] w fun e w' => e = .returned (.int .i64 (nbits x.natAbs : Int)) ∧ w = w' := by
  obtain ⟨A, c, c1, c2, hrd, hc, hm⟩ := hx.rd
  have T := Lib.hid (bitLen_any A (ofN x.natAbs) c w hrd (norm_ofN _) (by omega))
  rw [wv_ofN] at T
  clear hrd hx
  go_enter Tryz.func108, Tryz.ntmps108
  go_wp2_with fail
  with_reducible refine T.out.mono ?_
  rintro e w1 ⟨rfl, rfl⟩
  go_wp2
  go_ret
  exact ⟨rfl, rfl⟩

set_option maxRecDepth 100000 in
theorem intUint64_any (base gx ox : Nat) (x : Int) (w : World) (hx : IntAt base w gx ox x) (hl : (ofN x.natAbs).length ≤ 274877906944) :
    Calls Tryz.prog 240 #[.pointer (some ⟨gx, ox, none⟩)] w fun e w' => e = .returned (.int .u64 (u64v x.natAbs)) ∧ w = w' := by
  obtain ⟨A, c, c1, c2, hrd, hc, hm⟩ := hx.rd
  have T := Lib.hid (toUint_any A (ofN x.natAbs) c w hrd (small_ofN _) (by omega))
  rw [wv_ofN] at T
  clear hrd hx
  go_enter Tryz.func240, Tryz.ntmps240
  go_wp2_with fail
  with_reducible refine T.out.mono ?_
  rintro e w1 ⟨rfl, rfl⟩
  go_wp2
  go_ret
  exact ⟨rfl, rfl⟩

set_option maxRecDepth 100000 in
theorem intTz_any (base gx ox : Nat) (x : Int) (w : World) (hG : Glob w) (hx : IntAt base w gx ox x) (hl : (ofN x.natAbs).length ≤ 274877906944) (ht : tz x.natAbs < 18446744073709551616) :
    Calls Tryz.prog 185 #[.pointer (some ⟨gx, ox, none⟩)] w fun e w' => e = .returned (.int .u64 (tz x.natAbs : Int)) ∧ w = w' := by
  obtain ⟨A, c, c1, c2, hrd, hc, hm⟩ := hx.rd
  have T := Lib.hid (zeros_any A (ofN x.natAbs) c w hG hrd (small_ofN _) (by omega))
  rw [wv_ofN] at T
  have e1 : IntKind.u64.wrap (tz x.natAbs : Int) = (tz x.natAbs : Int) := by simp only [IntKind.wrap_u64]; omega
  clear hrd hx hG
  go_enter Tryz.func185, Tryz.ntmps185
  go_wp2_with fail
  with_reducible refine T.out.mono ?_
  rintro e w1 ⟨rfl, rfl⟩
  go_wp2
  go_ret
  exact ⟨rfl, rfl⟩

theorem ofN_bit0 {n : Nat} (h : 0 < (ofN n).length) : (nth (ofN n) 0 : Int) % 2 = ((n % 2 : Nat) : Int) ∧ nth (ofN n) 0 < 4294967296 := by
  have h0 : n ≠ 0 := by rintro rfl; rw [ofN_zero] at h; simp at h
  have e : nth (ofN n) 0 = n % 4294967296 := by rw [ofN_pos h0]; rfl
  rw [e]
  exact ⟨by omega, by omega⟩

set_option maxRecDepth 100000 in
theorem intBit0_any (base gx ox : Nat) (x : Int) (w : World) (hx : IntAt base w gx ox x) (hl : (ofN x.natAbs).length ≤ 274877906944) :
    Calls Tryz.prog 279 #[.pointer (some ⟨gx, ox, none⟩), .int .i64 0] w fun e w' => e = .returned (.int .u64 ((x.natAbs % 2 : Nat) : Int)) ∧ ∃ n, w' = w.drewN n := by
  obtain ⟨A, c, c1, c2, hrd, hc, hm⟩ := hx.rd
  have HZ := Lib.hid (len_zero (n := x.natAbs))
  clear hx
  rcases Nat.eq_zero_or_pos (ofN x.natAbs).length with h | h
  · have h0 : x.natAbs = 0 := HZ.out.1 (by omega)
    rw [h] at c2
    rw [h0]
    clear hrd hc h h0 HZ
    go_enter Tryz.func279, Tryz.ntmps279
    go_wp2
    go_ret
    exact ⟨rfl, 0, rfl⟩
  · obtain ⟨b, o, rfl, hcell⟩ := hrd h
    have hx0 := hcell 0 h
    obtain ⟨e1, b0⟩ := ofN_bit0 h
    rw [Nat.add_zero] at hx0
    have HE := Lib.hid e1
    clear hcell HZ e1 hrd
    generalize nth (ofN x.natAbs) 0 = v at *
    generalize (ofN x.natAbs).length = L at *
    have hle : ¬ ((L : Int) ≤ 0) := by omega
    have hlt : 0 < L := h
    go_enter Tryz.func279, Tryz.ntmps279
    go_wp2
    go_ret
    have e2 : bits BinOp.and IntKind.u32 (v : Int) 1 = ((x.natAbs % 2 : Nat) : Int) := by
      have h := u32_and_nat v 1 b0 (by omega)
      rw [show ((1 : Nat) : Int) = 1 from rfl] at h
      rw [h, Nat.and_one_is_mod]
      have := HE.out; omega
    exact ⟨by rw [e2]; exact congrArg (fun z => Ending.returned (Value.int IntKind.u64 z)) (by simp only [IntKind.wrap_u64]; omega), 0, rfl⟩

theorem cmp_sign (x y : Int) (h : (decide (x < 0)) = (decide (y < 0))) : (if x < 0 then -cmpI x.natAbs y.natAbs else cmpI x.natAbs y.natAbs) = sgnI (x - y) := by
  unfold sgnI cmpI
  by_cases h1 : x < 0
  · have h2 : y < 0 := by simpa [h1] using h.symm
    simp only [h1, if_true]
    split <;> (try split) <;> (try split) <;> (try split) <;> omega
  · have h2 : ¬ y < 0 := by simpa [h1] using h.symm
    simp only [h1, if_false]
    split <;> (try split) <;> (try split) <;> (try split) <;> omega

set_option maxRecDepth 100000 in
theorem intCmp_any (base gx ox gy oy : Nat) (x y : Int) (w : World) (hx : IntAt base w gx ox x) (hy : IntAt base w gy oy y) (hl : (ofN x.natAbs).length ≤ 274877906944) (hl2 : (ofN y.natAbs).length ≤ 274877906944) :
    Calls Tryz.prog 230 #[.pointer (some ⟨gx, ox, none⟩), .pointer (some ⟨gy, oy, none⟩)] w fun e w' => e = .returned (.int .i64 (sgnI (x - y))) ∧ ∃ n, w' = w.drewN n := by
  obtain ⟨A, c, c1, c2, hrd, hc, hm⟩ := hx.rd
  obtain ⟨A2, d, d1, d2, hrd2, hd, hm2⟩ := hy.rd
  have hs := cmp_sign x y
  have T := Lib.hid (fun n => cmpWords_any A A2 (ofN x.natAbs) (ofN y.natAbs) c d (w.drewN n) (hrd.keep fun _ _ => rfl) (hrd2.keep fun _ _ => rfl) (norm_ofN _) (norm_ofN _) (by omega) (by omega))
  simp only [wv_ofN] at T
  clear hrd hrd2 hx hy
  have hq := cmpI_bd x.natAbs y.natAbs
  by_cases h1 : x < 0
  · have e1 : decide (x < 0) = true := by simpa using h1
    rw [e1] at c1
    by_cases h2 : y < 0
    · have e2 : decide (y < 0) = true := by simpa using h2
      rw [e2] at d1
      have h3 := hs (by rw [e1, e2])
      rw [if_pos h1] at h3
      rw [← h3]
      clear hs h3
      generalize cmpI x.natAbs y.natAbs = q at *
      have hw : IntKind.i64.wrap (-q) = -q := by simp only [IntKind.wrap_i64]; omega
      go_enter Tryz.func230, Tryz.ntmps230
      go_wp2
      go_quiet (fail)
      go_wp2
      go_quiet ((go_at_call 268; exact Calls.quiet_of2 (T.out _)))
      go_wp2
      go_ret
      exact ⟨by first | rfl | (rw [← hw]; rfl), by first | exact ⟨_, rfl⟩ | (simp only [World.drewN_drewN]; exact ⟨_, rfl⟩)⟩
    · have e2 : decide (y < 0) = false := by simpa using h2
      rw [e2] at d1
      have h3 : sgnI (x - y) = -1 := by unfold sgnI; rw [if_neg (by omega), if_pos (by omega)]
      rw [h3]
      go_enter Tryz.func230, Tryz.ntmps230
      go_wp2
      go_quiet (fail)
      go_wp2
      go_ret
      exact ⟨rfl, by first | exact ⟨_, rfl⟩ | (simp only [World.drewN_drewN]; exact ⟨_, rfl⟩)⟩
  · have e1 : decide (x < 0) = false := by simpa using h1
    rw [e1] at c1
    by_cases h2 : y < 0
    · have e2 : decide (y < 0) = true := by simpa using h2
      rw [e2] at d1
      have h3 : sgnI (x - y) = 1 := by unfold sgnI; rw [if_neg (by omega), if_neg (by omega)]
      rw [h3]
      go_enter Tryz.func230, Tryz.ntmps230
      go_wp2
      go_quiet (fail)
      go_wp2
      go_ret
      exact ⟨rfl, by first | exact ⟨_, rfl⟩ | (simp only [World.drewN_drewN]; exact ⟨_, rfl⟩)⟩
    · have e2 : decide (y < 0) = false := by simpa using h2
      rw [e2] at d1
      have h3 := hs (by rw [e1, e2])
      rw [if_neg h1] at h3
      rw [← h3]
      clear hs h3
      generalize cmpI x.natAbs y.natAbs = q at *
      go_enter Tryz.func230, Tryz.ntmps230
      go_wp2
      go_quiet (fail)
      go_wp2
      go_quiet ((go_at_call 268; exact Calls.quiet_of2 (T.out _)))
      go_wp2
      go_ret
      exact ⟨rfl, by first | exact ⟨_, rfl⟩ | (simp only [World.drewN_drewN]; exact ⟨_, rfl⟩)⟩

end Go.Proofs.YtihdnfhclocndaaGreatDoor
namespace Go.Proofs.YtihdnfhclocndaaGreatDoor
open Go.RowKit W

theorem norm_len_le {xs ys : List Nat} (hx : Norm xs) (hy : Norm ys) (h : wv ys ≤ wv xs) : ys.length ≤ xs.length := by
  rcases Nat.lt_or_ge xs.length ys.length with h1 | h1
  · have := norm_length_lt hx.1 hy h1; omega
  · exact h1

theorem SetsInt.undrewN {base : Nat} {w : World} {n g o : Nat} {z : Int} {e : Ending} {w' : World} (h : SetsInt base (w.drewN n) g o z e w') : SetsInt base w g o z e w' :=
  ⟨h.1, ⟨h.2.1.os, h.2.1.tape, h.2.1.output, h.2.1.size, h.2.1.block⟩, h.2.2.1, h.2.2.2⟩

theorem Spot.drewN {base : Nat} {w : World} {g o : Nat} (h : Spot base w g o) (n : Nat) : Spot base (w.drewN n) g o := h
theorem Rd.drewN {w : World} {A : Option Addr} {xs : List Nat} (h : Rd w A xs) (n : Nat) : Rd (w.drewN n) A xs := h.keep fun _ _ => rfl

set_option maxRecDepth 100000 in
set_option maxHeartbeats 400000 in
theorem added_any (base g o : Nat) (A1 A2 : Option Addr) (xs ys : List Nat) (c1 c2 : Nat) (b1 b2 : Bool) (w : World) (hs : Spot base w g o) (h1 : Rd w A1 xs) (h2 : Rd w A2 ys) (s1 : Norm xs) (s2 : Norm ys) (hb : base ≤ w.heap.size)
    (hl1 : xs.length ≤ 274877906944) (hl2 : ys.length ≤ 274877906944) :
    Calls Tryz.prog 298 #[.pointer (some ⟨g, o, none⟩), .slice A1 xs.length c1, .bool b1, .slice A2 ys.length c2, .bool b2] w (SetsInt base w g o (sg b1 (wv xs) + sg b2 (wv ys))) := by
  have HS := Lib.hid hs
  by_cases hbb : b1 = b2
  · subst hbb
    have T := Lib.hid (addWords_any A1 A2 xs ys c1 c2 w h1 h2 s1.1 s2.1 (by omega) (by omega))
    have HZ := Lib.hid (show sg b1 (wv (ofN (wv xs + wv ys))) = sg b1 (wv xs) + sg b1 (wv ys) by rw [wv_ofN]; unfold sg; split <;> omega)
    clear h1 h2 s1 s2 hs
    go_enter Tryz.func298, Tryz.ntmps298
    go_wp2_with fail
    with_reducible refine T.out.mono ?_
    rintro e w1 ⟨A3, n3, rfl, hb1, hr1, k1, k2, k3⟩
    have S := Lib.hid (sets_new (base := base) (w := w) HS.out hb1 hr1 (small_ofN _) b1 _ HZ.out rfl hb)
    clear hb1 hr1 k1 k2 k3 T
    go_wp2_with fail
    with_reducible refine S.out.mono ?_
    rintro e w2 ⟨rfl, hS⟩
    go_wp2
    go_ret
    exact ⟨rfl, hS⟩
  · have hbe : (b1 == b2) = false := by simpa using hbb
    have C := Lib.hid (cmpWords_any A1 A2 xs ys c1 c2 w h1 h2 s1 s2 (by omega) (by omega))
    rcases Nat.lt_or_ge (wv xs) (wv ys) with hlt | hge
    · rw [cmpI_lt hlt] at C
      have T := Lib.hid (fun n => subWords_any A2 A1 ys xs c2 c1 (w.drewN n) (h2.drewN n) (h1.drewN n) s2.1 s1.1 (norm_len_le s2 s1 (by omega)) (by omega) (by omega))
      have HZ := Lib.hid (show sg b2 (wv (ofN (wv ys - wv xs))) = sg b1 (wv xs) + sg b2 (wv ys) by rw [wv_ofN]; cases b1 <;> cases b2 <;> simp [sg] at * <;> omega)
      clear h1 h2 s1 s2 hs
      go_enter Tryz.func298, Tryz.ntmps298
      go_wp2_with fail
      with_reducible refine C.out.mono ?_
      rintro e w1 ⟨rfl, n, rfl⟩
      go_wp2_with fail
      with_reducible refine (T.out n).mono ?_
      rintro e w1 ⟨A3, n3, rfl, hb1, hr1, k1, k2, k3⟩
      have S := Lib.hid (sets_new (base := base) (w := w.drewN n) (HS.out.drewN n) hb1 hr1 (small_ofN _) b2 _ HZ.out rfl hb)
      clear hb1 hr1 k1 k2 k3 T
      go_wp2_with fail
      with_reducible refine S.out.mono ?_
      rintro e w2 ⟨rfl, hS⟩
      go_wp2
      go_ret
      exact SetsInt.undrewN ⟨rfl, hS⟩
    · have hc : 0 ≤ cmpI (wv xs) (wv ys) := by
        rcases Nat.eq_or_lt_of_le hge with h | h
        · rw [h, cmpI_eq]; omega
        · rw [cmpI_gt h]; omega
      generalize cmpI (wv xs) (wv ys) = q at C hc
      have T := Lib.hid (fun n => subWords_any A1 A2 xs ys c1 c2 (w.drewN n) (h1.drewN n) (h2.drewN n) s1.1 s2.1 (norm_len_le s1 s2 (by omega)) (by omega) (by omega))
      have HZ := Lib.hid (show sg b1 (wv (ofN (wv xs - wv ys))) = sg b1 (wv xs) + sg b2 (wv ys) by rw [wv_ofN]; cases b1 <;> cases b2 <;> simp [sg] at * <;> omega)
      clear h1 h2 s1 s2 hs
      go_enter Tryz.func298, Tryz.ntmps298
      go_wp2_with fail
      with_reducible refine C.out.mono ?_
      rintro e w1 ⟨rfl, n, rfl⟩
      go_wp2_with fail
      with_reducible refine (T.out n).mono ?_
      rintro e w1 ⟨A3, n3, rfl, hb1, hr1, k1, k2, k3⟩
      have S := Lib.hid (sets_new (base := base) (w := w.drewN n) (HS.out.drewN n) hb1 hr1 (small_ofN _) b1 _ HZ.out rfl hb)
      clear hb1 hr1 k1 k2 k3 T
      go_wp2_with fail
      with_reducible refine S.out.mono ?_
      rintro e w2 ⟨rfl, hS⟩
      go_wp2
      go_ret
      exact SetsInt.undrewN ⟨rfl, hS⟩

set_option maxRecDepth 100000 in
theorem intAdd_any (base g o gx ox gy oy : Nat) (x y : Int) (w : World) (hs : Spot base w g o) (hx : IntAt base w gx ox x) (hy : IntAt base w gy oy y) (hb : base ≤ w.heap.size)
    (hl : (ofN x.natAbs).length ≤ 274877906944) (hl2 : (ofN y.natAbs).length ≤ 274877906944) :
    Calls Tryz.prog 277 #[.pointer (some ⟨g, o, none⟩), .pointer (some ⟨gx, ox, none⟩), .pointer (some ⟨gy, oy, none⟩)] w (SetsInt base w g o (x + y)) := by
  obtain ⟨A, c, c1, c2, hrd, hc, hm⟩ := hx.rd
  obtain ⟨A2, d, d1, d2, hrd2, hd, hm2⟩ := hy.rd
  have T := Lib.hid (added_any base g o A A2 (ofN x.natAbs) (ofN y.natAbs) c d (decide (x < 0)) (decide (y < 0)) w.drew hs.drew hrd.drew hrd2.drew (norm_ofN _) (norm_ofN _) hb hl hl2)
  rw [wv_ofN, wv_ofN, sg_self, sg_self] at T
  clear hrd hrd2 hx hy hs
  go_enter Tryz.func277, Tryz.ntmps277
  go_wp2
  go_still_tail 17, (by kernel_rfl)
  change wpList _ _ _ _ _ w.drew
  go_wp2_with fail
  with_reducible refine T.out.mono ?_
  rintro e w2 ⟨rfl, hS⟩
  go_wp2
  go_ret
  exact SetsInt.undrew ⟨rfl, hS⟩

end Go.Proofs.YtihdnfhclocndaaGreatDoor
