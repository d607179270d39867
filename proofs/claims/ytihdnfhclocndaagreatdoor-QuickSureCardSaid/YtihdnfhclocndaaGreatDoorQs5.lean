/- numeral/big: the words' functions: cmpWords, copied. numeral/big: the words' functions: divSmall. Plain arithmetic of words of 32 bits: products. No program in sight. numeral/big: the words' functions: plain. -/
import Derived.Test.YtihdnfhclocndaaGreatDoorQs4
import Derived.Deep.QuietTactic
import Derived.BigQuiet
import Derived.Laws.CopyOwn
import Derived.Test.YtihdnfhclocndaaGreatDoorQs1
namespace Go.Proofs.YtihdnfhclocndaaGreatDoor
open Go.RowKit W

set_option maxRecDepth 100000 in
theorem cmpWords_any (A1 A2 : Option Addr) (xs ys : List Nat) (c1 c2 : Nat) (w : World) (h1 : Rd w A1 xs) (h2 : Rd w A2 ys) (s1 : Norm xs) (s2 : Norm ys)
    (hm : xs.length ≤ 549755813888) (hm2 : ys.length ≤ 549755813888) :
    Calls Tryz.prog 268 #[.slice A1 xs.length c1, .slice A2 ys.length c2] w fun e w' => e = .returned (.int .i64 (cmpI (wv xs) (wv ys))) ∧ ∃ n, w' = w.drewN n := by
  rcases Nat.lt_trichotomy xs.length ys.length with hl | hl | hl
  · have hb : ((xs.length : Int) != (ys.length : Int)) = true := by simp; omega
    have hl' : ((xs.length : Int) < (ys.length : Int)) := by omega
    have HV := Lib.hid (cmpI_lt (norm_length_lt s1.1 s2 hl))
    go_enter Tryz.func268, Tryz.ntmps268
    go_wp2
    go_ret
    exact ⟨by rw [HV.out]; rfl, 0, rfl⟩
  · have hb : ((xs.length : Int) != (ys.length : Int)) = false := by simp; omega
    have HL := Lib.hid hl; clear hl
    go_enter Tryz.func268, Tryz.ntmps268
    go_wp2
    go_loopw [5] (fun i wr => ∃ k n : Nat, k ≤ xs.length ∧ i = .int .i64 ((k : Int) - 1) ∧ wr = w.drewN n ∧ Hid (xs.drop k = ys.drop k)) (fun i _ => (intOf i + 1).toNat)
    case atStart => exact ⟨xs.length, 0, Nat.le_refl _, rfl, rfl, by show List.drop _ _ = List.drop _ _; rw [List.drop_of_length_le (Nat.le_refl _), List.drop_of_length_le (by rw [HL.out]; exact Nat.le_refl _)]⟩
    case round =>
      obtain ⟨k, n, hk, rfl, rfl, hd⟩ := hrel
      by_cases h0 : 0 < k
      · obtain ⟨b, o, rfl, hx⟩ := h1 (by omega)
        have hky : k ≤ ys.length := by rw [← HL.out]; exact hk
        obtain ⟨b2, o2, rfl, hy⟩ := h2 (by omega)
        have hx := hx (k - 1) (by omega)
        have hy := hy (k - 1) (by omega)
        have hd1 : xs.drop (k - 1 + 1) = ys.drop (k - 1 + 1) := by rw [show k - 1 + 1 = k from by omega]; exact hd.out
        have HD := Lib.hid hd1; clear hd1 hd
        rcases Nat.lt_trichotomy (nth xs (k - 1)) (nth ys (k - 1)) with hv | hv | hv
        · have HV := Lib.hid (cmpI_lt (wv_lt_of_top s1.1 (by omega) (by omega) HD.out hv))
          go_wp2
          go_quiet (fail)
          go_wp2
          go_ret
          exact ⟨by rw [HV.out]; rfl, by simp only [World.drewN_drewN]; exact ⟨_, rfl⟩⟩
        · have hn1 : ¬ ((nth xs (k - 1) : Int) < (nth ys (k - 1) : Int)) := by omega
          have hn2 : ¬ ((nth ys (k - 1) : Int) < (nth xs (k - 1) : Int)) := by omega
          have HV := Lib.hid hv; clear hv
          go_wp2
          go_quiet (fail)
          go_wp2
          go_quiet (fail)
          go_wp2
          go_roundw
          case rel => exact ⟨k - 1, _, by omega, by go_num, rfl, drop_eq_cons (by omega) (by omega) HD.out HV.out⟩
          case measure => simp [intOf]; omega
        · have hn1 : ¬ ((nth xs (k - 1) : Int) < (nth ys (k - 1) : Int)) := by omega
          have HV := Lib.hid (cmpI_gt (wv_lt_of_top s2.1 (by omega) (by omega) HD.out.symm hv))
          go_wp2
          go_quiet (fail)
          go_wp2
          go_quiet (fail)
          go_wp2
          go_ret
          exact ⟨by rw [HV.out]; rfl, by simp only [World.drewN_drewN]; exact ⟨_, rfl⟩⟩
      · have : k = 0 := by omega
        subst this
        have hv : wv xs = wv ys := by
          have := hd.out
          rw [List.drop_zero, List.drop_zero] at this
          rw [this]
        go_wp2
        go_ret
        exact ⟨by rw [hv, cmpI_eq]; rfl, _, rfl⟩
  · have hb : ((xs.length : Int) != (ys.length : Int)) = true := by simp; omega
    have hl' : ¬ ((xs.length : Int) < (ys.length : Int)) := by omega
    have HV := Lib.hid (cmpI_gt (norm_length_lt s2.1 s1 hl))
    go_enter Tryz.func268, Tryz.ntmps268
    go_wp2
    go_ret
    exact ⟨by rw [HV.out]; rfl, 0, rfl⟩

/-- What a block of words is. -/
theorem Loc.of_block {base : Nat} {w : World} {g : Nat} {zs : List Nat} (hg : w.heap[g]? = some (.cells (u32l zs).toArray tU32 (0, 0))) (hb : base ≤ g) (hs : Small zs) (hn : zs.length ≤ 1099511627776) :
    Loc base w g zs.length zs.length zs := by
  refine ⟨rfl, hs, by rw [length_u32l]; omega, .inr ⟨g, zs.length, (u32l zs).toArray, rfl, hb, hg, Nat.le_refl _, by simp [maxLen]; omega, by simp [u32l], ?_⟩⟩
  rw [List.toList_toArray, List.take_of_length_le (by rw [length_u32l]; omega)]

theorem oneCell_u32l (zs : List Nat) : ∀ v ∈ u32l zs, v.oneCell' = true := by
  intro v hv
  simp only [u32l, List.mem_map] at hv
  obtain ⟨x, _, rfl⟩ := hv
  rfl

theorem splice_all (cur cs : List Value) (h : cs.length = cur.length) : splice cur 0 cs = cs := by
  unfold splice
  rw [List.take_zero, List.nil_append, Nat.zero_add, List.drop_of_length_le (by omega), List.append_nil]

theorem Rd.at_ {w : World} {A : Option Addr} {xs : List Nat} (h : Rd w A xs) (hn : 0 < (u32l xs).length) :
    ∃ ad, A = some ad ∧ ∀ (j : Nat) (v : Value), (u32l xs)[j]? = some v → w.cell? (ad.add j) = some v := by
  obtain ⟨b, o, rfl, hc⟩ := h (by rw [length_u32l] at hn; exact hn)
  refine ⟨_, rfl, fun j v hj => ?_⟩
  have hlt : j < xs.length := by
    rcases Nat.lt_or_ge j xs.length with h | h
    · exact h
    · rw [List.getElem?_eq_none (by rw [length_u32l]; exact h)] at hj; cases hj
  have e : (Addr.mk b o none).add j = ⟨b, o + j, none⟩ := by
    unfold Addr.add
    by_cases h0 : j = 0
    · subst h0; simp
    · simp [h0]
  rw [e, hc j hlt]
  simp only [u32l, List.getElem?_map, List.getElem?_eq_getElem hlt, Option.map_some, Option.some.injEq] at hj
  rw [← hj, nth_get hlt]

set_option maxRecDepth 100000 in
theorem copied_any (A : Option Addr) (xs : List Nat) (c : Nat) (w : World) (h : Rd w A xs) (hs : Small xs) (hm : xs.length ≤ 549755813888) :
    Calls Tryz.prog 156 #[.slice A xs.length c] w fun e w' => e = .returned (.slice (some ⟨w.heap.size, 0, none⟩) xs.length xs.length) ∧ Below w.heap.size w w' ∧ Loc w.heap.size w' w.heap.size xs.length xs.length xs := by
  have hmk := fun w : World => make_u32 w (xs.length : Int) (by omega) (by omega)
  go_enter Tryz.func156, Tryz.ntmps156
  go_wp2_with (refine wpList_copy_splice rfl (.tmp 7) (.tmp 8) 42 42 rfl tU32 Tryz.underlying42 (by kernel_rfl) (some ⟨w.heap.size, 0, none⟩) A xs.length xs.length xs.length c rfl rfl w.heap.size 0 (u32l (List.replicate xs.length 0)) tU32 ?_ (u32l xs) ?_ ?_ ?_ ?_ w.heap.size w ?_ ?_ ?_)
  · exact heap_alloc_new w _
  · rw [length_u32l]; exact (Nat.min_self _).symm
  · intro hn
    exact (h.keep (w' := w.alloc _) fun p hp => World.cell?_alloc_lt w _ p hp).at_ hn
  · simp [length_u32l]
  · exact oneCell_u32l xs
  · exact (Below.refl _ _).alloc (Nat.le_refl _) _
  · exact Nat.le_refl _
  · intro w1 hg hB
    have HB := Lib.hid hB
    clear hB
    go_wp2
    go_ret
    refine ⟨rfl, HB.out, ?_⟩
    have hg' := hg.out
    rw [splice_all _ _ (by simp [length_u32l])] at hg'
    exact Loc.of_block hg' (Nat.le_refl _) hs (by omega)

end Go.Proofs.YtihdnfhclocndaaGreatDoor
namespace Go.Proofs.YtihdnfhclocndaaGreatDoor
open Go.RowKit W

/-- New words, and a number. -/
def Gives32 (w : World) (xs : List Nat) (r : Nat) (e : Ending) (w' : World) : Prop :=
  ∃ A c, e = .returned (.tuple #[.slice A xs.length c, .int .u32 (r : Int)]) ∧ Below w.heap.size w w' ∧ Res w.heap.size w' (.slice A xs.length c) xs ∧ xs.length ≤ c ∧ c ≤ maxLen ∧ Rd w' A xs

theorem Gives32.of {w w' : World} {xs : List Nat} {v : Value} {r : Nat} (hb : Below w.heap.size w w') (h : Res w.heap.size w' v xs) : Gives32 w xs r (.returned (.tuple #[v, .int .u32 (r : Int)])) w' := by
  obtain ⟨A, c, rfl, h1, h2, h3⟩ := h.form
  exact ⟨A, c, rfl, hb, h, h1, h2, h3⟩

set_option maxRecDepth 100000 in
theorem divSmall_any (A1 : Option Addr) (xs : List Nat) (c1 d : Nat) (w : World) (h1 : Rd w A1 xs) (s1 : Small xs) (hd0 : 0 < d) (hd : d < 4294967296)
    (hm : xs.length ≤ 549755813888) :
    Calls Tryz.prog 282 #[.slice A1 xs.length c1, .int .u32 (d : Int)] w (Gives32 w (ofN (wv xs / d)) (wv xs % d)) := by
  have hmk := fun w : World => make_u32 w (xs.length : Int) (by omega) (by omega)
  go_enter Tryz.func282, Tryz.ntmps282
  go_wp2
  go_loopw [7, 8, 9] (fun r i _ wr => ∃ (k rest : Nat) (zs : List Nat), k ≤ xs.length ∧ i = .int .i64 ((k : Int) - 1) ∧ r = .int .u64 rest ∧ rest < d ∧
      Loc w.heap.size wr w.heap.size xs.length xs.length zs ∧ Below w.heap.size w wr ∧
      Hid (wv (zs.drop k) * d + rest = wv (xs.drop k))) (fun _ i _ _ => (intOf i + 1).toNat)
  case atStart => exact ⟨xs.length, 0, _, Nat.le_refl _, rfl, rfl, hd0, Loc.new w (Nat.le_refl _) (by omega), (Below.refl _ _).alloc (Nat.le_refl _) _, by show wv _ * _ + _ = _; simp [wv]⟩
  case round =>
    obtain ⟨k, rest, zs, hk, rfl, rfl, hr, hL, hB, hI⟩ := hrel
    by_cases h0 : 0 < k
    · obtain ⟨b, o, rfl, hx⟩ := (h1.below hB) (by omega)
      have hx := hx (k - 1) (by omega)
      have hz := hL.cell (k := k - 1) (by omega)
      have hf := hL.frozen (k - 1)
      have bx := nth_lt s1 (k - 1)
      have hor := or_words rest (nth xs (k - 1)) (by omega) bx
      have hq := Lib.hid (word_div_lt hr bx)
      go_wp2
      go_roundw
      case rel =>
        have hm := Nat.mod_lt (rest * 4294967296 + nth xs (k - 1)) hd0
        have hq := hq.out
        have e1 : (((rest * 4294967296 + nth xs (k - 1)) % d : Nat) : Int) = ((rest : Int) * 4294967296 + (nth xs (k - 1) : Int)) % (d : Int) := by simp
        have e2 : (((rest * 4294967296 + nth xs (k - 1)) / d : Nat) : Int) = ((rest : Int) * 4294967296 + (nth xs (k - 1) : Int)) / (d : Int) := by simp
        refine ⟨k - 1, (rest * 4294967296 + nth xs (k - 1)) % d, zs.set (k - 1) ((rest * 4294967296 + nth xs (k - 1)) / d), by omega, by go_num, by rw [e1], hm, hL.put (k - 1) ?_ hq, hB.setCell (Nat.le_refl _) _, ?_⟩
        · rw [← e2]; generalize (rest * 4294967296 + nth xs (k - 1)) / d = q at hq ⊢; omega
        · exact div_place (by omega) (by have := hL.1; omega) (by rw [show k - 1 + 1 = k from by omega]; exact hI.out) rfl
      case measure => simp [intOf]; omega
    · have : k = 0 := by omega
      subst this
      have hT := trim_any _ _ xs.length _ hL.rd hL.2.1 (by rw [hL.1]; omega) (by simp [maxLen]; omega)
      rw [hL.1] at hT
      have hv : wv zs = wv xs / d ∧ rest = wv xs % d := by
        have h3 := hI.out
        rw [List.drop_zero, List.drop_zero] at h3
        rw [← h3, Nat.mul_comm]
        exact ⟨by rw [Nat.mul_add_div hd0, Nat.div_eq_of_lt hr]; rfl, by rw [Nat.mul_add_mod, Nat.mod_eq_of_lt hr]⟩
      have HV := Lib.hid hv
      have HB := Lib.hid hB
      have HL := Lib.hid hL
      clear hv hL hB hI
      go_wp2_with (go_at_call 194; refine hT.mono ?_; rintro e w' ⟨rfl, rfl⟩)
      go_ret2
      rw [← HV.out.1, ← HV.out.2]
      exact Gives32.of HB.out HL.out.trim

end Go.Proofs.YtihdnfhclocndaaGreatDoor
namespace Go.Proofs.YtihdnfhclocndaaGreatDoor
namespace W

theorem nth_set_ne {zs : List Nat} {k j : Nat} (v : Nat) (h : k ≠ j) : nth (zs.set k v) j = nth zs j := by
  unfold nth; rw [List.getD_eq_getElem?_getD, List.getD_eq_getElem?_getD, List.getElem?_set_ne h]

theorem nth_set_eq {zs : List Nat} {k : Nat} (v : Nat) (h : k < zs.length) : nth (zs.set k v) k = v := by
  rw [nth_get (by simpa using h), List.getElem_set_self]

theorem nth_zero_of_lt {zs : List Nat} {j : Nat} (h : wv zs < 4294967296 ^ j) : nth zs j = 0 := by
  rcases Nat.lt_or_ge j zs.length with hj | hj
  · have h1 := wv_take_drop zs j (by omega)
    rw [wv_drop hj] at h1
    rcases Nat.eq_zero_or_pos (nth zs j) with h0 | h0
    · exact h0
    · have : 4294967296 ^ j * 1 ≤ 4294967296 ^ j * (nth zs j + 4294967296 * wv (zs.drop (j + 1))) := Nat.mul_le_mul_left _ (by omega)
      omega
  · exact nth_ge hj

theorem norm_of_le {os : List Nat} (hs : Small os) (h : os = [] ∨ 4294967296 ^ (os.length - 1) ≤ wv os) : Norm os := by
  rcases h with rfl | h
  · exact ⟨small_nil, by simp⟩
  · have h1 : (ofN (wv os)).length = os.length := by
      have h2 := length_ofN_le (wv_lt hs)
      have h3 := le_length_ofN h
      omega
    have h4 := take_tl hs
    rw [tl, h1, List.take_of_length_le (Nat.le_refl _)] at h4
    rw [h4]
    exact norm_ofN _

theorem norm_ge {os : List Nat} (h : Norm os) (h0 : os ≠ []) : 4294967296 ^ (os.length - 1) ≤ wv os := by
  rcases Nat.lt_or_ge (wv os) (4294967296 ^ (os.length - 1)) with h1 | h1
  · have h2 := length_ofN_le h1
    rw [ofN_wv h] at h2
    have : 0 < os.length := List.length_pos_iff.2 h0
    omega
  · exact h1

theorem wv_take_all {xs : List Nat} {k : Nat} (h : xs.length ≤ k) : wv (xs.take k) = wv xs := by rw [List.take_of_length_le h]

/-- The word and the carry of a product are small. -/
theorem mul_word_lt {x y o c : Nat} (hx : x < 4294967296) (hy : y < 4294967296) (ho : o < 4294967296) (hc : c < 4294967296) : x * y + o + c < 18446744073709551616 := by
  have : x * y ≤ 4294967295 * 4294967295 := Nat.mul_le_mul (by omega) (by omega)
  omega

theorem mul_end {zs xs ys : List Nat} {i c S : Nat} (hlen : i + ys.length < zs.length) (hi : i < xs.length) (hz : nth zs (i + ys.length) = 0)
    (hS : S = wv (xs.take i) * wv ys) (h : wv zs + c * 4294967296 ^ (i + ys.length) = S + 4294967296 ^ i * nth xs i * wv (ys.take ys.length)) :
    wv (zs.set (i + ys.length) c) = wv (xs.take (i + 1)) * wv ys := by
  have h1 := wv_set (xs := zs) (k := i + ys.length) c hlen
  rw [hz, Nat.mul_zero, Nat.add_zero] at h1
  rw [wv_take_all (Nat.le_refl _)] at h
  rw [h1, wv_take, Nat.mul_comm (4294967296 ^ (i + ys.length)) c, h, hS, Nat.add_mul]

theorem piece_step {xs ys : List Nat} {k m : Nat} (hm : k + m ≤ xs.length) (he : m = ys.length ∨ k + m = xs.length) :
    wv (xs.take k) * wv ys + 4294967296 ^ k * (wv ((xs.drop k).take m) * wv ys) = wv (xs.take (k + ys.length)) * wv ys ∨ m > ys.length := by
  by_cases hgt : m > ys.length
  · exact .inr hgt
  · left
    have e : wv (xs.take (k + ys.length)) = wv (xs.take (k + m)) := by
      rcases he with rfl | he
      · rfl
      · rw [wv_take_all (by omega), wv_take_all (by omega)]
    have h1 := wv_take_drop (xs.take (k + m)) k (by rw [List.length_take]; omega)
    rw [List.take_take, Nat.min_eq_left (by omega), List.drop_take, Nat.add_sub_cancel_left] at h1
    rw [e, h1, Nat.add_mul, Nat.mul_assoc]

theorem fit_len {n a p : Nat} (h : 4294967296 ^ a * p < 4294967296 ^ n) (hp : p ≠ 0) : a + (ofN p).length ≤ n := by
  rcases Nat.lt_or_ge n (a + (ofN p).length) with h1 | h1
  · have hl : 0 < (ofN p).length := by
      rw [ofN_pos hp]; simp
    have h2 := norm_ge (norm_ofN p) (by rw [Ne, ofN_eq_nil]; exact hp)
    rw [wv_ofN] at h2
    have h3 := Nat.mul_le_mul_left (4294967296 ^ a) h2
    rw [← Nat.pow_add] at h3
    have h4 := Nat.pow_le_pow_right (n := 4294967296) (by omega) (show n ≤ a + ((ofN p).length - 1) by omega)
    omega
  · exact h1

theorem sum_len {p q H : Nat} (hp : p < 4294967296 ^ H) (hq : q < 4294967296 ^ H) : (ofN (p + q)).length ≤ H + 1 := by
  apply length_ofN_le
  rw [Nat.pow_succ]
  generalize 4294967296 ^ H = r at *
  omega

theorem half_lt {xs : List Nat} {k H : Nat} (hs : Small xs) (hk : xs.length ≤ k + H) : wv (xs.drop k) < 4294967296 ^ H := by
  have h1 := wv_lt (hs.drop k)
  rw [List.length_drop] at h1
  have := Nat.pow_le_pow_right (n := 4294967296) (by omega) (show xs.length - k ≤ H by omega)
  omega

theorem head_lt {xs : List Nat} {H : Nat} (hs : Small xs) : wv (xs.take H) < 4294967296 ^ H := by
  have h1 := wv_lt (hs.take H)
  have := Nat.pow_le_pow_right (n := 4294967296) (by omega) (show (xs.take H).length ≤ H by rw [List.length_take]; omega)
  omega

theorem ofN_len_mono {a b : Nat} (h : a ≤ b) : (ofN a).length ≤ (ofN b).length := by
  by_cases h0 : a = 0
  · subst h0; rw [ofN_zero]; simp
  · have h1 := norm_ge (norm_ofN a) (by rw [Ne, ofN_eq_nil]; exact h0)
    rw [wv_ofN] at h1
    have h2 := le_length_ofN (Nat.le_trans h1 h)
    have : 0 < (ofN a).length := by rw [ofN_pos h0]; simp
    omega

/-- A product of halves: what the three products come to. -/
theorem kara {P0 P1 Q0 Q1 : Nat} : P0 * Q0 ≤ (P0 + P1) * (Q0 + Q1) ∧ P1 * Q1 ≤ (P0 + P1) * (Q0 + Q1) - P0 * Q0 ∧ (P0 + P1) * (Q0 + Q1) - P0 * Q0 - P1 * Q1 = P0 * Q1 + P1 * Q0 := by
  have e : (P0 + P1) * (Q0 + Q1) = P0 * Q0 + P1 * Q1 + (P0 * Q1 + P1 * Q0) := by grind
  rw [e]
  omega

theorem kara_total {X Y P0 P1 Q0 Q1 D L U r : Nat} (hx : X = P0 + r * P1) (hy : Y = Q0 + r * Q1) (hD : D = P0 * Q1 + P1 * Q0) (hL : L = P0 * Q0) (hU : U = P1 * Q1) :
    X * Y = L + r * D + r * r * U := by
  subst hx; subst hy; subst hD; subst hL; subst hU
  grind

theorem norm_drop {xs : List Nat} (h : Norm xs) (k : Nat) : Norm (xs.drop k) := by
  induction k generalizing xs with
  | zero => simpa using h
  | succ k ih =>
    cases xs with
    | nil => simpa using h
    | cons x xs => simpa using ih (norm_tail h)

end W
end Go.Proofs.YtihdnfhclocndaaGreatDoor
namespace Go.Proofs.YtihdnfhclocndaaGreatDoor
open Go.RowKit W

theorem Loc.small {base : Nat} {w : World} {g n m : Nat} {zs : List Nat} (h : Loc base w g n m zs) : Small zs := h.2.1
theorem Loc.len {base : Nat} {w : World} {g n m : Nat} {zs : List Nat} (h : Loc base w g n m zs) : zs.length = n := h.1
theorem Loc.drewN {base : Nat} {w : World} {g n m : Nat} {zs : List Nat} (h : Loc base w g n m zs) (k : Nat) : Loc base (w.drewN k) g n m zs := h.block rfl
theorem below_drewN {B : Nat} {w w' : World} (h : Below B w w') (k : Nat) : Below B w (w'.drewN k) := ⟨h.os, h.tape, h.output, h.size, h.block⟩

theorem mul_bd (x y : Nat) (hx : x < 4294967296) (hy : y < 4294967296) : 0 ≤ (x : Int) * (y : Int) ∧ (x : Int) * (y : Int) ≤ 18446744065119617025 := by
  have h : x * y ≤ 4294967295 * 4294967295 := Nat.mul_le_mul (by omega) (by omega)
  have e : ((x * y : Nat) : Int) = (x : Int) * (y : Int) := by simp
  omega

set_option maxRecDepth 100000 in
set_option maxHeartbeats 400000 in
theorem plain_any (A1 A2 : Option Addr) (xs ys : List Nat) (c1 c2 : Nat) (w : World) (h1 : Rd w A1 xs) (h2 : Rd w A2 ys) (s1 : Small xs) (s2 : Small ys)
    (hm : xs.length ≤ 549755813888) (hm2 : ys.length ≤ 549755813888) :
    Calls Tryz.prog 234 #[.slice A1 xs.length c1, .slice A2 ys.length c2] w (Gives w (ofN (wv xs * wv ys))) := by
  have hmk := fun w : World => make_u32 w ((xs.length : Int) + (ys.length : Int)) (by omega) (by omega)
  go_enter Tryz.func234, Tryz.ntmps234
  go_wp2
  go_loopw [6] (fun i wr => ∃ (k : Nat) (zs : List Nat), k ≤ xs.length ∧ i = .int .i64 k ∧
      Loc w.heap.size wr w.heap.size (xs.length + ys.length) (xs.length + ys.length) zs ∧ Below w.heap.size w wr ∧
      Hid (wv zs = wv (xs.take k) * wv ys)) (fun i _ => xs.length - (intOf i).toNat)
  case atStart => exact ⟨0, _, by omega, rfl, Loc.new w (Nat.le_refl _) (by omega), (Below.refl _ _).alloc (Nat.le_refl _) _, by show wv _ = wv _ * wv _; rw [wv_replicate]; simp [wv]⟩
  case round =>
    obtain ⟨k, zs, hk, rfl, hL, hB, hI⟩ := hrel
    by_cases hlt : k < xs.length
    · obtain ⟨b, o, rfl, hx⟩ := (h1.below hB) (by omega)
      have hx := hx k hlt
      have bx := nth_lt s1 k
      have hz0 : nth zs (k + ys.length) = 0 := nth_zero_of_lt (by
        rw [hI.out, Nat.pow_add]
        have h3 := wv_lt (s1.take k)
        rw [List.length_take, Nat.min_eq_left hk] at h3
        have h4 := wv_lt s2
        exact Nat.mul_lt_mul'' h3 h4)
      have HZ := Lib.hid hz0; clear hz0
      go_wp2
      obtain ⟨wo, rfl⟩ : ∃ wo : World, wo = wr := ⟨_, rfl⟩
      go_loopw [7, 9, 10] (fun c j _ wi => ∃ (l carry : Nat) (os : List Nat), l ≤ ys.length ∧ j = .int .i64 l ∧ c = .int .u64 carry ∧ carry < 4294967296 ∧
          Loc w.heap.size wi w.heap.size (xs.length + ys.length) (xs.length + ys.length) os ∧ Below w.heap.size w wi ∧ Hid (nth os (k + ys.length) = 0) ∧
          Hid (wv os + carry * 4294967296 ^ (k + l) = wv zs + 4294967296 ^ k * nth xs k * wv (ys.take l))) (fun _ j _ _ => ys.length - (intOf j).toNat)
      case atStart => exact ⟨0, 0, zs, by omega, rfl, rfl, by omega, hL, hB, HZ, by show _ + _ = _; simp [wv]⟩
      case round =>
        obtain ⟨l, carry, os, hl, rfl, rfl, hc, hLi, hBi, hZi, hIi⟩ := hrel
        by_cases hly : l < ys.length
        · obtain ⟨b2, o2, rfl, hy⟩ := (h2.below hBi) (by omega)
          have hy := hy l hly
          have bY := nth_lt s2 l
          have hzo := hLi.cell (k := k + l) (by omega)
          have hfo := hLi.frozen (k + l)
          have bo := nth_lt hLi.small (k + l)
          obtain ⟨p0, p1⟩ := mul_bd _ _ bx bY
          go_wp2
          go_quiet (fail)
          go_wp2
          go_roundw
          case rel =>
            have ht := mul_word_lt bx bY bo hc
            refine ⟨l + 1, (nth xs k * nth ys l + nth os (k + l) + carry) / 4294967296, os.set (k + l) ((nth xs k * nth ys l + nth os (k + l) + carry) % 4294967296), by omega, by go_num,
              congrArg (Value.int IntKind.u64) (by simp), by omega, (hLi.drewN nq).put (k + l) (by simp) (by omega), (below_drewN hBi nq).setCell (Nat.le_refl _) _, ?_, ?_⟩
            · show nth _ _ = 0
              rw [nth_set_ne _ (by omega)]; exact hZi.out
            · exact plain_round (by have := hLi.len; omega) hIi.out rfl
          case measure => simp [intOf]; omega
        · have : l = ys.length := by omega
          subst this
          have hzo := hLi.cell (k := k + ys.length) (by omega)
          have hfo := hLi.frozen (k + ys.length)
          go_wp2
          go_roundw
          case rel =>
            exact ⟨k + 1, os.set (k + ys.length) carry, by omega, by go_num, hLi.put _ rfl hc, hBi.setCell (Nat.le_refl _) _, mul_end (by have := hLi.len; omega) hlt hZi.out hI.out hIi.out⟩
          case measure => simp [intOf]; omega
    · have : k = xs.length := by omega
      subst this
      have hT := trim_any _ _ (xs.length + ys.length) _ hL.rd hL.2.1 (by rw [hL.1]; omega) (by simp [maxLen]; omega)
      rw [hL.1] at hT
      have hv : wv zs = wv xs * wv ys := by rw [hI.out, wv_take_all (Nat.le_refl _)]
      have HV := Lib.hid hv
      have HB := Lib.hid hB
      have HL := Lib.hid hL
      clear hv hL hB hI
      go_wp2_with (go_at_call 194; refine hT.mono ?_; rintro e w' ⟨rfl, rfl⟩)
      go_ret
      rw [← HV.out]
      exact Gives.of HB.out HL.out.trim

end Go.Proofs.YtihdnfhclocndaaGreatDoor
