/- Plain arithmetic: how many bits a number has, and how many noughts stand last. numeral/big: the words' functions: bitLen, zeros. Plain arithmetic of words of 32 bits: one figure of a quotient (Knuth's algorithm D). -/
import Derived.Test.YtihdnfhclocndaaGreatDoorQs6
import Derived.Lib.BitFns
import Derived.Lib.ItoaNum
import Derived.Lib.TrailingZeros
import Derived.Test.YtihdnfhclocndaaGreatDoorQs4
import Derived.Test.YtihdnfhclocndaaGreatDoorQs5
namespace Go.Proofs.YtihdnfhclocndaaGreatDoor
namespace W

/-- How many bits a number has. -/
def nbits (n : Nat) : Nat := if n = 0 then 0 else n.log2 + 1

theorem nbits_zero : nbits 0 = 0 := rfl
theorem nbits_eq {n l : Nat} (hl : 1 ≤ l) (h1 : 2 ^ (l - 1) ≤ n) (h2 : n < 2 ^ l) : nbits n = l := by
  have h0 : n ≠ 0 := by have := Nat.pow_pos (n := l - 1) (show 0 < 2 by omega); omega
  unfold nbits
  rw [if_neg h0]
  have a : n.log2 < l := (Nat.log2_lt h0).2 h2
  have b : l - 1 ≤ n.log2 := (Nat.le_log2 h0).2 h1
  omega
theorem nbits_lt {n : Nat} : n < 2 ^ nbits n := by
  unfold nbits
  split
  · rename_i h; subst h; simp
  · rename_i h; exact (Nat.log2_lt h).1 (by omega)
theorem nbits_ge {n : Nat} (h : n ≠ 0) : 2 ^ (nbits n - 1) ≤ n ∧ 1 ≤ nbits n := by
  unfold nbits
  rw [if_neg h, Nat.add_sub_cancel]
  exact ⟨Nat.log2_self_le h, by omega⟩

theorem bitLen_nbits {x : Nat} (hx : x < 4294967296) : Lib.bitLen x = nbits x := by
  by_cases h0 : x = 0
  · subst h0; decide
  · obtain ⟨h1, h2, h3⟩ := Lib.bitLenAux_bounds 64 x (by omega) h0
    exact (nbits_eq h1 h2 h3).symm

theorem wv_top {xs : List Nat} {k : Nat} (hs : Small xs) (hl : xs.length = k + 1) : 4294967296 ^ k * nth xs k ≤ wv xs ∧ wv xs < 4294967296 ^ k * (nth xs k + 1) := by
  have h1 := wv_take_drop xs k (by omega)
  rw [wv_drop (by omega), List.drop_of_length_le (by omega)] at h1
  have h2 := wv_lt (hs.take k)
  rw [List.length_take, Nat.min_eq_left (by omega)] at h2
  simp only [wv, Nat.mul_zero, Nat.add_zero] at h1
  rw [h1, Nat.mul_add, Nat.mul_one]
  omega

theorem nbits_words {xs : List Nat} {k : Nat} (hn : Norm xs) (hl : xs.length = k + 1) : nbits (wv xs) = 32 * k + nbits (nth xs k) := by
  have ht : nth xs k ≠ 0 := by
    intro h0
    apply hn.2
    rw [List.getLast?_eq_getElem?, hl, Nat.add_sub_cancel, List.getElem?_eq_getElem (by omega), ← nth_get (by omega), h0]
  obtain ⟨h1, h2⟩ := nbits_ge ht
  have h3 := @nbits_lt (nth xs k)
  obtain ⟨h4, h5⟩ := wv_top hn.1 hl
  have e : 4294967296 ^ k = 2 ^ (32 * k) := by rw [Nat.pow_mul]
  apply nbits_eq (by omega)
  · rw [show 32 * k + nbits (nth xs k) - 1 = 32 * k + (nbits (nth xs k) - 1) from by omega, Nat.pow_add, ← e]
    exact Nat.le_trans (Nat.mul_le_mul_left _ h1) h4
  · rw [Nat.pow_add, ← e]
    exact Nat.lt_of_lt_of_le h5 (Nat.mul_le_mul_left _ h3)

/-- How many bits 0 stand last (of 0: none). -/
def tz (n : Nat) : Nat := if h : n = 0 then 0 else if n % 2 = 1 then 0 else 1 + tz (n / 2)
termination_by n
decreasing_by omega

theorem tz_zero : tz 0 = 0 := by rw [tz]; simp
theorem tz_odd (k : Nat) : tz (2 * k + 1) = 0 := by rw [tz]; simp [show (2 * k + 1) % 2 = 1 from by omega]
theorem tz_double {n : Nat} (h : n ≠ 0) : tz (2 * n) = 1 + tz n := by
  rw [tz]; simp only [show ¬ (2 * n = 0) from by omega, dite_false, show ¬ ((2 * n) % 2 = 1) from by omega, if_false, show 2 * n / 2 = n from by omega]
theorem tz_pow {n : Nat} (k : Nat) (h : n ≠ 0) : tz (2 ^ k * n) = k + tz n := by
  induction k with
  | zero => simp
  | succ k ih =>
    rw [Nat.pow_succ, show 2 ^ k * 2 * n = 2 * (2 ^ k * n) from by grind, tz_double (by have := Nat.pow_pos (n := k) (show 0 < 2 by omega); exact Nat.mul_ne_zero (by omega) h), ih]
    omega
theorem tz_spec {n : Nat} (h : n ≠ 0) : ∃ m, n = 2 ^ tz n * (2 * m + 1) := by
  induction n using Nat.strongRecOn with
  | _ n ih =>
    rcases Nat.mod_two_eq_zero_or_one n with h2 | h2
    · obtain ⟨m, hm⟩ := ih (n / 2) (by omega) (by omega)
      have e : n = 2 * (n / 2) := by omega
      refine ⟨m, ?_⟩
      have : tz n = 1 + tz (n / 2) := by rw [show tz n = tz (2 * (n / 2)) from by rw [← e], tz_double (by omega)]
      rw [this, Nat.pow_add, Nat.pow_one, Nat.mul_assoc, ← hm]
      exact e
    · have e : n = 2 * (n / 2) + 1 := by omega
      refine ⟨n / 2, ?_⟩
      have : tz n = 0 := by rw [show tz n = tz (2 * (n / 2) + 1) from by rw [← e], tz_odd]
      rw [this]; omega

theorem ctz_tz {x : Nat} (h0 : x ≠ 0) (h : x < 4294967296) : Lib.ctz 32 x = tz x := by
  obtain ⟨m, hm, _⟩ := Lib.ctzFrom_spec 32 x (by omega) (by omega)
  unfold Lib.ctz
  rw [if_neg h0]
  have : tz x = tz (2 ^ Lib.ctzFrom 32 x * (2 * m + 1)) := by rw [← hm]
  rw [this, tz_pow _ (by omega), tz_odd]; omega

theorem tz_words {xs : List Nat} {k : Nat} (hk : k < xs.length) (hz : ∀ j, j < k → nth xs j = 0) (hn : nth xs k ≠ 0) (hs : Small xs) : tz (wv xs) = 32 * k + tz (nth xs k) := by
  have h1 := wv_take_drop xs k (by omega)
  have h2 : wv (xs.take k) = 0 := by
    have he : xs.take k = List.replicate k 0 := by
      apply List.ext_getElem
      · rw [List.length_take, List.length_replicate]; omega
      · intro i hi hi'
        rw [List.length_replicate] at hi'
        rw [List.getElem_take, List.getElem_replicate, ← nth_get (by omega)]
        exact hz i hi'
    rw [he, wv_replicate]
  rw [h1, h2, Nat.zero_add, wv_drop hk, show 4294967296 ^ k = 2 ^ (32 * k) from by rw [Nat.pow_mul], tz_pow _ (by omega)]
  congr 1
  -- the lowest word decides
  obtain ⟨m, hm⟩ := tz_spec hn
  have hlt := nth_lt hs k
  have h32 : tz (nth xs k) < 32 := by
    rcases Nat.lt_or_ge (tz (nth xs k)) 32 with h | h
    · exact h
    · have := Nat.pow_le_pow_right (n := 2) (by omega) h
      have h3 : 2 ^ tz (nth xs k) * 1 ≤ 2 ^ tz (nth xs k) * (2 * m + 1) := Nat.mul_le_mul_left _ (by omega)
      omega
  generalize wv (xs.drop (k + 1)) = W at *
  have e : 4294967296 = 2 ^ tz (nth xs k) * (2 * 2 ^ (31 - tz (nth xs k))) := by
    rw [← Nat.mul_assoc, Nat.mul_comm (2 ^ tz (nth xs k)) 2, Nat.mul_assoc, ← Nat.pow_add, show tz (nth xs k) + (31 - tz (nth xs k)) = 31 from by omega]
  have e2 : nth xs k + 4294967296 * W = 2 ^ tz (nth xs k) * (2 * (m + 2 ^ (31 - tz (nth xs k)) * W) + 1) := by
    rw [e]
    generalize hq : 2 ^ (31 - tz (nth xs k)) = q
    generalize hp : 2 ^ tz (nth xs k) = p at *
    rw [hm] 
    grind
  rw [e2, tz_pow _ (by omega), tz_odd]; omega

end W
end Go.Proofs.YtihdnfhclocndaaGreatDoor
namespace Go.Proofs.YtihdnfhclocndaaGreatDoor
open Go.RowKit W

theorem len32 (x : Nat) (w : World) (h : x < 4294967296) : Calls Tryz.prog 231 #[.int .u32 (x : Int)] w fun e w' => e = .returned (.int .i64 (nbits x : Int)) ∧ w = w' :=
  (Tryz.bits_Len32 (x : Int) w (by omega) (by omega)).mono fun e w' ⟨he, hw⟩ => ⟨by rw [he, Int.toNat_natCast, bitLen_nbits h], hw.symm⟩

theorem tz32 (x : Nat) (w : World) (hG : Glob w) (h : x < 4294967296) (h0 : x ≠ 0) : Calls Tryz.prog 226 #[.int .u32 (x : Int)] w fun e w' => e = .returned (.int .i64 (tz x : Int)) ∧ w = w' :=
  (Tryz.bits_TrailingZeros32 x h w (fun _ => hG.tz32)).mono fun e w' ⟨he, hw⟩ => ⟨by rw [he, ctz_tz h0 h], hw.symm⟩

theorem nbits_le {x k : Nat} (h : x < 2 ^ k) : nbits x ≤ k := by
  by_cases h0 : x = 0
  · subst h0; simp [nbits]
  · obtain ⟨h1, h2⟩ := nbits_ge h0
    rcases Nat.lt_or_ge k (nbits x) with h3 | h3
    · have := Nat.pow_le_pow_right (n := 2) (by omega) (show k ≤ nbits x - 1 by omega)
      omega
    · exact h3

set_option maxRecDepth 100000 in
theorem bitLen_any (A : Option Addr) (xs : List Nat) (c : Nat) (w : World) (h : Rd w A xs) (hs : Norm xs) (hm : xs.length ≤ 549755813888) :
    Calls Tryz.prog 172 #[.slice A xs.length c] w fun e w' => e = .returned (.int .i64 (nbits (wv xs) : Int)) ∧ w = w' := by
  rcases Nat.eq_zero_or_pos xs.length with h0 | h0
  · obtain rfl := List.eq_nil_of_length_eq_zero h0
    go_enter Tryz.func172, Tryz.ntmps172
    go_wp2
    go_ret
    exact ⟨rfl, rfl⟩
  · have hb : ((xs.length : Int) == 0) = false := by rw [beq_eq_false_iff_ne]; omega
    obtain ⟨b, o, rfl, hx⟩ := h (by omega)
    have hx := hx (xs.length - 1) (by omega)
    have bx := nth_lt hs.1 (xs.length - 1)
    have HN := Lib.hid (nbits_words hs (show xs.length = (xs.length - 1) + 1 by omega))
    have hle : nbits (nth xs (xs.length - 1)) ≤ 32 := nbits_le (by omega)
    have HL := Lib.hid (len32 (nth xs (xs.length - 1)) w bx)
    go_enter Tryz.func172, Tryz.ntmps172
    go_wp2_with (go_at_call 231; (with_reducible refine HL.out.mono ?_); rintro e w' ⟨rfl, rfl⟩)
    go_ret
    refine ⟨?_, rfl⟩
    have e : (nbits (wv xs) : Int) = 32 * ((xs.length : Int) - 1) + (nbits (nth xs (xs.length - 1)) : Int) := by rw [HN.out]; omega
    rw [e]; rfl

set_option maxRecDepth 100000 in
theorem zeros_any (A : Option Addr) (xs : List Nat) (c : Nat) (w : World) (hG : Glob w) (h : Rd w A xs) (hs : Small xs) (hm : xs.length ≤ 549755813888) :
    Calls Tryz.prog 244 #[.slice A xs.length c] w fun e w' => e = .returned (.int .i64 (tz (wv xs) : Int)) ∧ w = w' := by
  have HG := Lib.hid hG; clear hG
  go_enter Tryz.func244, Tryz.ntmps244
  go_wp2
  go_loop [3] (fun n => ∃ k : Nat, k ≤ xs.length ∧ n = .int .i64 k ∧ Hid (∀ j, j < k → nth xs j = 0)) (fun n => xs.length - (intOf n).toNat)
  case atStart => exact ⟨0, by omega, rfl, fun j hj => by omega⟩
  case round =>
    obtain ⟨k, hk, rfl, hz⟩ := hrel
    by_cases hlt : k < xs.length
    · obtain ⟨b, o, rfl, hx⟩ := h (by omega)
      have hx := hx k hlt
      have bx := nth_lt hs k
      by_cases hv : nth xs k = 0
      · have hv' : ((nth xs k : Int) == 0) = true := by simp [hv]
        have HV := Lib.hid hv; clear hv
        go_wp2
        go_round
        case rel => exact ⟨k + 1, by omega, by go_num, fun j hj => by
          rcases Nat.lt_or_ge j k with h1 | h1
          · exact hz.out j h1
          · obtain rfl : j = k := by omega
            exact HV.out⟩
        case measure => simp [intOf]; omega
      · have hv' : ((nth xs k : Int) == 0) = false := by simp; omega
        have hne : ((k : Int) == (xs.length : Int)) = false := by simp; omega
        have HN := Lib.hid (tz_words hlt hz.out hv hs)
        have hle : tz (nth xs k) < 32 := by
          rw [← ctz_tz hv bx]
          exact (Lib.lowest_bit 32 _ hv (by omega)).2
        have HL := Lib.hid (tz32 (nth xs k) w HG.out bx hv)
        clear hv
        go_wp2_with (go_at_call 226; (with_reducible refine HL.out.mono ?_); rintro e w' ⟨rfl, rfl⟩)
        go_ret
        refine ⟨?_, rfl⟩
        have e : (tz (wv xs) : Int) = 32 * (k : Int) + (tz (nth xs k) : Int) := by rw [HN.out]; omega
        rw [e]; rfl
    · obtain rfl : k = xs.length := by omega
      have hv : wv xs = 0 := by
        have he : xs = List.replicate xs.length 0 := by
          apply List.ext_getElem
          · rw [List.length_replicate]
          · intro i hi hi'
            rw [List.getElem_replicate, ← nth_get hi]
            exact hz.out i hi
        rw [he, wv_replicate]
      have HV := Lib.hid hv; clear hv
      go_wp2
      go_ret
      exact ⟨by rw [HV.out, tz_zero]; rfl, rfl⟩

end Go.Proofs.YtihdnfhclocndaaGreatDoor
namespace Go.Proofs.YtihdnfhclocndaaGreatDoor
namespace W

/-- What a guessed figure is held against. -/
structure Kn (p ul u2 ut vl v2 vt U V : Nat) : Prop where
  hp : 0 < p
  hU : U = ul + p * (u2 + 4294967296 * ut)
  hV : V = vl + p * (v2 + 4294967296 * vt)
  ul_lt : ul < p
  vl_lt : vl < p
  u2_lt : u2 < 4294967296
  v2_lt : v2 < 4294967296
  vt_ge : 2147483648 ≤ vt
  vt_lt : vt < 4294967296
  lt : U < 4294967296 * V

section
variable {p ul u2 ut vl v2 vt U V : Nat}

theorem Kn.V_pos (h : Kn p ul u2 ut vl v2 vt U V) : 0 < V := by
  have := h.lt
  rcases Nat.eq_zero_or_pos V with h0 | h0
  · subst h0; omega
  · exact h0

theorem Kn.q_lt (h : Kn p ul u2 ut vl v2 vt U V) : U / V < 4294967296 := Nat.div_lt_of_lt_mul (by rw [Nat.mul_comm]; exact h.lt)

/-- A figure that fits, against the heads. -/
theorem Kn.heads (h : Kn p ul u2 ut vl v2 vt U V) {q : Nat} (hq : q * V ≤ U) : q * (v2 + 4294967296 * vt) ≤ u2 + 4294967296 * ut := by
  have h1 : q * (p * (v2 + 4294967296 * vt)) ≤ q * V := Nat.mul_le_mul_left q (by rw [h.hV]; omega)
  have h2 : p * (q * (v2 + 4294967296 * vt)) < p * (u2 + 4294967296 * ut + 1) := by
    have e : p * (q * (v2 + 4294967296 * vt)) = q * (p * (v2 + 4294967296 * vt)) := by grind
    have e2 : p * (u2 + 4294967296 * ut + 1) = p * (u2 + 4294967296 * ut) + p := by grind
    rw [e, e2]
    have := h.hU
    have := h.ul_lt
    omega
  have := Nat.lt_of_mul_lt_mul_left h2
  omega

theorem Kn.start (h : Kn p ul u2 ut vl v2 vt U V) : U / V ≤ ut / vt := by
  have h1 := h.heads (Nat.div_mul_le_self U V)
  have hv := h.vt_ge
  rw [Nat.le_div_iff_mul_le (by omega)]
  have h2 : U / V * (4294967296 * vt) ≤ U / V * (v2 + 4294967296 * vt) := Nat.mul_le_mul_left _ (by omega)
  have h3 : 4294967296 * (U / V * vt) < 4294967296 * (ut + 1) := by
    have e : 4294967296 * (U / V * vt) = U / V * (4294967296 * vt) := by grind
    have := h.u2_lt
    omega
  have := Nat.lt_of_mul_lt_mul_left h3
  omega

theorem Kn.step (h : Kn p ul u2 ut vl v2 vt U V) {G R : Nat} (hGR : G * vt + R = ut) (hq : U / V ≤ G) (hc : 4294967296 ≤ G ∨ R * 4294967296 + u2 < G * v2) :
    1 ≤ G ∧ (G - 1) * vt + (R + vt) = ut ∧ U / V ≤ G - 1 := by
  have hlt : U / V < G := by
    rcases hc with hc | hc
    · have := h.q_lt; omega
    · have h1 := h.heads (Nat.div_mul_le_self U V)
      have h2 : U / V * (v2 + 4294967296 * vt) < G * (v2 + 4294967296 * vt) := by
        have e : G * (v2 + 4294967296 * vt) = G * v2 + 4294967296 * (G * vt) := by grind
        rw [e]
        omega
      exact Nat.lt_of_mul_lt_mul_right h2
  have hpos : 0 < G := Nat.lt_of_le_of_lt (Nat.zero_le _) hlt
  obtain ⟨G', rfl⟩ : ∃ G', G = G' + 1 := ⟨G - 1, by omega⟩
  clear hq
  generalize U / V = q at hlt ⊢
  refine ⟨by omega, ?_, by omega⟩
  rw [Nat.add_sub_cancel, ← hGR]
  grind

theorem Kn.near (h : Kn p ul u2 ut vl v2 vt U V) {G R : Nat} (hGR : G * vt + R = ut) (hG : G < 4294967296) (hc : G * v2 ≤ R * 4294967296 + u2) : G ≤ U / V + 1 := by
  have hV := h.V_pos
  have h1 : G * V ≤ G * (p * (v2 + 4294967296 * vt)) + G * p := by
    rw [← Nat.mul_add]
    apply Nat.mul_le_mul_left
    have := h.hV
    have := h.vl_lt
    omega
  have h2 : G * (p * (v2 + 4294967296 * vt)) ≤ U := by
    have e : G * (p * (v2 + 4294967296 * vt)) = p * (G * v2 + 4294967296 * (G * vt)) := by grind
    rw [e, h.hU]
    have : p * (G * v2 + 4294967296 * (G * vt)) ≤ p * (u2 + 4294967296 * ut) := by
      apply Nat.mul_le_mul_left
      omega
    omega
  have h3 : G * p < V := by
    have h4 : p * (4294967296 * 1) ≤ p * (v2 + 4294967296 * vt) := by
      apply Nat.mul_le_mul_left
      have := h.vt_ge
      omega
    have h5 : G * p < 4294967296 * p := Nat.mul_lt_mul_of_pos_right hG h.hp
    have := h.hV
    have e : p * (4294967296 * 1) = 4294967296 * p := by grind
    omega
  have h6 : U < (U / V + 1) * V := by
    have := Nat.lt_div_mul_add (a := U) hV
    rw [Nat.add_mul, Nat.one_mul]; exact this
  have h7 : G * V < (U / V + 1 + 1) * V := by
    rw [Nat.add_mul (U / V + 1), Nat.one_mul]; omega
  have := Nat.lt_of_mul_lt_mul_right h7
  omega

/-- The rest has grown beyond a word: the guess is near. -/
theorem Kn.broke (h : Kn p ul u2 ut vl v2 vt U V) {G R : Nat} (hGR : G * vt + R = ut) (hR : 4294967296 ≤ R) : G < 4294967296 ∧ G * v2 ≤ R * 4294967296 + u2 := by
  have h1 : ut < 4294967296 * (vt + 1) := by
    have a : p * (4294967296 * ut) ≤ U := by
      rw [h.hU]
      have : p * (4294967296 * ut) ≤ p * (u2 + 4294967296 * ut) := Nat.mul_le_mul_left _ (by omega)
      omega
    have b : V ≤ p * (4294967296 * (vt + 1)) := by
      have c : p * (v2 + 4294967296 * vt + 1) ≤ p * (4294967296 * (vt + 1)) := Nat.mul_le_mul_left _ (by have := h.v2_lt; omega)
      have e : p * (v2 + 4294967296 * vt + 1) = p * (v2 + 4294967296 * vt) + p := by grind
      have := h.hV
      have := h.vl_lt
      omega
    have c : p * (4294967296 * ut) < p * (4294967296 * (4294967296 * (vt + 1))) := by
      have e : p * (4294967296 * (4294967296 * (vt + 1))) = 4294967296 * (p * (4294967296 * (vt + 1))) := by grind
      rw [e]
      have := h.lt
      omega
    have := Nat.lt_of_mul_lt_mul_left c
    omega
  have hG : G < 4294967296 := by
    have h2 : G * vt < 4294967296 * vt := by omega
    exact Nat.lt_of_mul_lt_mul_right h2
  refine ⟨hG, ?_⟩
  have h3 : G * v2 ≤ 4294967296 * 4294967296 := Nat.mul_le_mul (by omega) (by have := h.v2_lt; omega)
  have h4 : 4294967296 * 4294967296 ≤ R * 4294967296 := Nat.mul_le_mul_right _ hR
  omega
end

/-- A round of the difference: a word of the product is taken away. -/
theorem mulsub_place {ds d0 vs : List Nat} {i G cr bo o d cr' pl : Nat} (hi : i < ds.length) (h : wv (d0.take i) + 4294967296 ^ i * (cr + bo) = wv (ds.take i) + G * wv (vs.take i))
    (hp : pl + 4294967296 * cr' = G * nth vs i + cr) (ho : nth d0 i + d * 4294967296 = o + pl + bo) :
    wv (d0.take (i + 1)) + 4294967296 ^ (i + 1) * (cr' + d) = wv ((ds.set i o).take (i + 1)) + G * wv (vs.take (i + 1)) := by
  rw [take_set_snoc _ hi, wv_snoc, wv_take, wv_take, Nat.pow_succ, List.length_take, Nat.min_eq_left (Nat.le_of_lt hi)]
  generalize 4294967296 ^ i = p at *
  grind

theorem drop_zero_of_lt {ds : List Nat} {k : Nat} (h : wv ds < 4294967296 ^ k) : wv (ds.drop k) = 0 := by
  rcases Nat.lt_or_ge ds.length k with hk | hk
  · rw [List.drop_of_length_le (by omega)]; rfl
  · have h1 := wv_take_drop ds k hk
    rcases Nat.eq_zero_or_pos (wv (ds.drop k)) with h0 | h0
    · exact h0
    · have : 4294967296 ^ k * 1 ≤ 4294967296 ^ k * wv (ds.drop k) := Nat.mul_le_mul_left _ h0
      omega

/-- The heads of a window and of what divides it. -/
theorem kn_of {ds vs : List Nat} {m : Nat} (hs : Small ds) (hv : Small vs) (hl : vs.length = m + 2) (hd : m + 3 ≤ ds.length) (ht : 2147483648 ≤ nth vs (m + 1)) (hlt : wv ds < 4294967296 * wv vs) :
    Kn (4294967296 ^ m) (wv (ds.take m)) (nth ds m) (nth ds (m + 2) * 4294967296 + nth ds (m + 1)) (wv (vs.take m)) (nth vs m) (nth vs (m + 1)) (wv ds) (wv vs) := by
  have hz : wv (ds.drop (m + 3)) = 0 := by
    apply drop_zero_of_lt
    have := wv_lt hv
    rw [hl] at this
    rw [show m + 3 = m + 2 + 1 from rfl, Nat.pow_succ]
    omega
  refine ⟨Nat.pow_pos (by omega), ?_, ?_, ?_, ?_, nth_lt hs m, nth_lt hv m, ht, nth_lt hv _, hlt⟩
  · rw [wv_take_drop ds m (by omega), wv_drop (by omega), wv_drop (by omega), wv_drop (by omega), hz]
    grind
  · rw [wv_take_drop vs m (by omega), wv_drop (by omega), wv_drop (by omega), List.drop_of_length_le (by omega)]
    simp [wv]
  · have := wv_lt (hs.take m); rwa [List.length_take, Nat.min_eq_left (by omega)] at this
  · have := wv_lt (hv.take m); rwa [List.length_take, Nat.min_eq_left (by omega)] at this

/-- No borrow: the guess was right. -/
theorem figure_right {U V G R : Nat} (hV : 0 < V) (h : U = R + G * V) (hq : U / V ≤ G) : G = U / V ∧ R = U % V := by
  have h1 : G ≤ U / V := by
    rw [Nat.le_div_iff_mul_le hV]; omega
  have h2 : G = U / V := by omega
  refine ⟨h2, ?_⟩
  have := Nat.div_add_mod U V
  rw [← h2, Nat.mul_comm] at this
  omega

/-- A borrow: it was one too many. -/
theorem figure_one {U V G R X : Nat} (h : U + X = R + G * V) (hR : R < X) (hq : U / V ≤ G) (hn : G ≤ U / V + 1) : G = U / V + 1 ∧ R + V = U % V + X := by
  have h1 : U < G * V := by omega
  have h2 : G = U / V + 1 := by
    rcases Nat.eq_or_lt_of_le hq with h3 | h3
    · have := Nat.div_mul_le_self U V
      rw [h3] at this
      omega
    · omega
  refine ⟨h2, ?_⟩
  have := Nat.div_add_mod U V
  rw [h2, Nat.add_mul, Nat.one_mul] at h
  rw [Nat.mul_comm] at this
  omega

theorem last_place {d0 es : List Nat} {n G V cr b1 o d : Nat} (hn : n < es.length) (h : wv (d0.take n) + 4294967296 ^ n * (cr + b1) = wv (es.take n) + G * V)
    (ho : nth d0 n + d * 4294967296 = o + cr + b1) : wv (d0.take (n + 1)) + d * 4294967296 ^ (n + 1) = wv ((es.set n o).take (n + 1)) + G * V := by
  rw [take_set_snoc _ hn, wv_snoc, wv_take, Nat.pow_succ, List.length_take, Nat.min_eq_left (Nat.le_of_lt hn)]
  generalize 4294967296 ^ n = p at *
  grind

theorem drop_congr {a b : List Nat} {k : Nat} (hl : a.length = b.length) (h : ∀ j, k ≤ j → nth a j = nth b j) : a.drop k = b.drop k := by
  apply List.ext_getElem
  · rw [List.length_drop, List.length_drop, hl]
  · intro i h1 h2
    rw [List.length_drop] at h1 h2
    rw [List.getElem_drop, List.getElem_drop, ← nth_get (by omega), ← nth_get (by omega)]
    exact h _ (by omega)

theorem wv_head {ds : List Nat} {k : Nat} (h : wv (ds.drop k) = 0) : wv ds = wv (ds.take k) := by
  rcases Nat.lt_or_ge ds.length k with hk | hk
  · rw [List.take_of_length_le (by omega)]
  · rw [wv_take_drop ds k hk, h]; simp

theorem add_back {fs es : List Nat} {n c V Q o : Nat} (hn : n < fs.length) (hsm : Small fs) (h : wv (fs.take n) + c * 4294967296 ^ n = wv (es.take n) + V)
    (hq : wv (es.take (n + 1)) + V = Q + 4294967296 ^ (n + 1)) (hQ : Q < 4294967296 ^ n) (hf : nth fs n = nth es n) (ho : o = (nth fs n + c) % 4294967296) :
    wv ((fs.set n o).take (n + 1)) = Q := by
  rw [wv_take, ← hf] at hq
  have hl := wv_lt (hsm.take n)
  rw [List.length_take, Nat.min_eq_left (Nat.le_of_lt hn)] at hl
  rw [take_set_snoc _ hn, wv_snoc, List.length_take, Nat.min_eq_left (Nat.le_of_lt hn)]
  have hm := Nat.mod_add_div (nth fs n + c) 4294967296
  rw [← ho] at hm
  have hob : o < 4294967296 := by omega
  generalize (nth fs n + c) / 4294967296 = e at hm
  rw [Nat.pow_succ] at hq
  generalize nth fs n = x at *
  generalize wv (fs.take n) = F at *
  generalize wv (es.take n) = E at *
  generalize 4294967296 ^ n = p at *
  have h2 : F + p * o + p * (4294967296 * e) = Q + p * 4294967296 := by
    have : p * (o + 4294967296 * e) = p * (x + c) := by rw [hm]
    grind
  have h3 : p * o + p ≤ p * 4294967296 := by
    have : p * (o + 1) ≤ p * 4294967296 := Nat.mul_le_mul_left _ hob
    grind
  rcases Nat.lt_trichotomy e 1 with he | he | he
  · obtain rfl : e = 0 := by omega
    simp only [Nat.mul_zero, Nat.add_zero] at h2
    omega
  · subst he
    omega
  · have h4 : p * (4294967296 * 2) ≤ p * (4294967296 * e) := Nat.mul_le_mul_left _ (by omega)
    have h5 : p * (4294967296 * 2) = p * 4294967296 + p * 4294967296 := by grind
    omega

end W
end Go.Proofs.YtihdnfhclocndaaGreatDoor
