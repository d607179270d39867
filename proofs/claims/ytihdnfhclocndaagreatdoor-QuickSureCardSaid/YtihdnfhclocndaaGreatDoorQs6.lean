/- numeral/big: the words' functions: addAt. Plain arithmetic of words of 32 bits: shifts. numeral/big: the words' functions: up. numeral/big: the words' functions: down. numeral/big: the words' functions: toUint, fromUint, one. -/
import Derived.Test.YtihdnfhclocndaaGreatDoorQs5
import Derived.Test.YtihdnfhclocndaaGreatDoorQs2
namespace Go.Proofs.YtihdnfhclocndaaGreatDoor
open Go.RowKit W

/-- The slice does not lie in block g. -/
def Off (A : Option Addr) (g : Nat) : Prop := ∀ p, A = some p → p.block ≠ g

theorem Rd.grown {w w' : World} {A : Option Addr} {xs : List Nat} {g : Nat} (h : Rd w A xs) (hg : w.grownBy w' (some g)) (ho : Off A g) : Rd w' A xs := by
  intro hn
  obtain ⟨b, o, rfl, hc⟩ := h hn
  refine ⟨b, o, rfl, fun j hj => ?_⟩
  have h1 := block_lt_of_cell (hc j hj)
  rw [World.cell?_of_block (w := w) (hg.block b h1 (by have := ho _ rfl; simpa using this))]
  exact hc j hj

theorem grown_refl (w : World) (r : Option Nat) : w.grownBy w r := ⟨rfl, rfl, rfl, Nat.le_refl _, fun _ _ _ => rfl⟩
theorem grown_trans {w w1 w2 : World} {r : Option Nat} (h : w.grownBy w1 r) (k : w1.grownBy w2 r) : w.grownBy w2 r :=
  ⟨k.os.trans h.os, k.tape.trans h.tape, k.output.trans h.output, Nat.le_trans h.size k.size, fun i hi hr => (k.block i (Nat.lt_of_lt_of_le hi h.size) hr).trans (h.block i hi hr)⟩
theorem grown_set {w w1 : World} {g : Nat} (h : w.grownBy w1 (some g)) (i : Nat) (v : Value) : w.grownBy (w1.setCell ⟨g, i, none⟩ v) (some g) :=
  grown_trans h ⟨rfl, rfl, rfl, by simp [World.setCell], fun k _ hr => Below.heap_setCell _ _ _ _ (by intro e; exact hr (by rw [e]))⟩
theorem grown_below {B : Nat} {w0 w w' : World} {g : Nat} (h : Below B w0 w) (hg : w.grownBy w' (some g)) (hB : B ≤ w.heap.size) (hBg : B ≤ g) : Below B w0 w' :=
  h.grown hg hB (fun k e => by cases e; exact hBg)

set_option maxRecDepth 100000 in
set_option maxHeartbeats 400000 in
theorem addAt_any (base g n m : Nat) (zs : List Nat) (A2 : Option Addr) (ys : List Nat) (c2 at_ : Nat) (w : World) (hL0 : Loc base w g n m zs) (h2 : Rd w A2 ys) (s2 : Small ys) (hoff : Off A2 g)
    (hm : n ≤ 1099511627776) (hm2 : at_ + ys.length ≤ n) (hfit : wv zs + 4294967296 ^ at_ * wv ys < 4294967296 ^ n) :
    Calls Tryz.prog 235 #[.slice (some ⟨g, 0, none⟩) n m, .slice A2 ys.length c2, .int .i64 (at_ : Int)] w fun e w' =>
      e = .returned (.tuple #[]) ∧ w.grownBy w' (some g) ∧ ∃ zs', Loc base w' g n m zs' ∧ wv zs' = wv zs + 4294967296 ^ at_ * wv ys := by
  have HF := Lib.hid hfit; clear hfit
  go_enter Tryz.func235, Tryz.ntmps235
  go_wp2
  go_loopw [6, 7, 8] (fun c i _ wr => ∃ (k carry : Nat) (os : List Nat), at_ + k ≤ n ∧ i = .int .i64 k ∧ c = .int .u64 carry ∧ carry ≤ 1 ∧
      Loc base wr g n m os ∧ w.grownBy wr (some g) ∧ Hid (wv os + carry * 4294967296 ^ (at_ + k) = wv zs + 4294967296 ^ at_ * wv (ys.take k))) (fun _ i _ _ => n - at_ - (intOf i).toNat)
  case atStart => exact ⟨0, 0, zs, by omega, rfl, rfl, by omega, hL0, grown_refl _ _, by show _ + _ = _; simp [wv]⟩
  case round =>
    obtain ⟨k, carry, os, hk, rfl, rfl, hc, hL, hG, hI⟩ := hrel
    by_cases hly : k < ys.length
    · obtain ⟨b2, o2, rfl, hy⟩ := (h2.grown hG hoff) (by omega)
      have hy := hy k hly
      have bY := nth_lt s2 k
      have hzo := hL.cell (k := at_ + k) (by omega)
      have hfo := hL.frozen (at_ + k)
      have bo := nth_lt hL.small (at_ + k)
      go_wp2
      go_roundw
      case rel =>
        refine ⟨k + 1, (nth os (at_ + k) + carry + nth ys k) / 4294967296, os.set (at_ + k) ((nth os (at_ + k) + carry + nth ys k) % 4294967296), by omega, by go_num, by go_num, by omega, hL.put _ (by omega) (by omega), grown_set hG _ _, addAt_round (by have := hL.len; omega) hI.out rfl⟩
      case measure => simp [intOf]; omega
    · have hly' : ¬ ((k : Int) < (ys.length : Int)) := by omega
      have hd : decide ((k : Int) < (ys.length : Int)) = false := by simp; omega
      rcases Nat.eq_zero_or_pos carry with h0 | h0
      · subst h0
        have hv : wv os = wv zs + 4294967296 ^ at_ * wv ys := by
          have := hI.out
          rw [wv_take_all (by omega)] at this
          omega
        have HV := Lib.hid hv
        have HG := Lib.hid hG
        have HL := Lib.hid hL
        clear hv hL hG hI
        go_wp2
        go_end0
        exact ⟨rfl, HG.out, _, HL.out, HV.out⟩
      · obtain rfl : carry = 1 := by omega
        have hlt : at_ + k < n := by
          rcases Nat.lt_or_ge (at_ + k) n with h | h
          · exact h
          · have h3 := hI.out
            rw [wv_take_all (by omega)] at h3
            have h4 := HF.out
            have h5 := Nat.pow_le_pow_right (n := 4294967296) (by omega) h
            omega
        have hzo := hL.cell (k := at_ + k) hlt
        have hfo := hL.frozen (at_ + k)
        have bo := nth_lt hL.small (at_ + k)
        have hn0 : nth ys k = 0 := nth_ge (by omega)
        have HN := Lib.hid hn0; clear hn0
        go_wp2
        go_roundw
        case rel =>
          refine ⟨k + 1, (nth os (at_ + k) + 1) / 4294967296, os.set (at_ + k) ((nth os (at_ + k) + 1) % 4294967296), by omega, by go_num, by go_num, by omega, hL.put _ (by omega) (by omega), grown_set hG _ _, addAt_round (by have := hL.len; omega) hI.out (by rw [HN.out])⟩
        case measure => simp [intOf]; omega

end Go.Proofs.YtihdnfhclocndaaGreatDoor
namespace Go.Proofs.YtihdnfhclocndaaGreatDoor
namespace W
open Go.RowKit

theorem pow_split (n : Nat) : 2 ^ n = 4294967296 ^ (n / 32) * 2 ^ (n % 32) := by
  have h : 2 ^ (32 * (n / 32) + n % 32) = 4294967296 ^ (n / 32) * 2 ^ (n % 32) := by
    rw [Nat.pow_add, Nat.pow_mul]
  rw [Nat.div_add_mod] at h
  exact h

theorem two_pow_bd {s : Nat} (hs : s < 32) : 1 ≤ 2 ^ s ∧ 2 ^ s ≤ 2147483648 :=
  ⟨Nat.one_le_two_pow, Nat.pow_le_pow_right (n := 2) (by omega) (show s ≤ 31 by omega)⟩

theorem mul_pow_mod (x s : Nat) (hs : s < 32) : x * 2 ^ s % 4294967296 % 2 ^ s = 0 := by
  rw [Nat.mod_mod_of_dvd _ (show 2 ^ s ∣ 4294967296 from ⟨2 ^ (32 - s), by rw [← Nat.pow_add, show s + (32 - s) = 32 from by omega]⟩), Nat.mul_mod_left]

theorem low_lt (x h s : Nat) (hs : s < 32) (hh : h < 2 ^ s) : h + x * 2 ^ s % 4294967296 < 4294967296 := by
  have h1 := mul_pow_mod x s hs
  have h2 : x * 2 ^ s % 4294967296 < 4294967296 := Nat.mod_lt _ (by omega)
  obtain ⟨q, hq⟩ : 2 ^ s ∣ x * 2 ^ s % 4294967296 := Nat.dvd_of_mod_eq_zero h1
  have e : 4294967296 = 2 ^ s * 2 ^ (32 - s) := by rw [← Nat.pow_add, show s + (32 - s) = 32 from by omega]
  rw [hq] at h2 ⊢
  rw [e] at h2 ⊢
  have h3 : q < 2 ^ (32 - s) := Nat.lt_of_mul_lt_mul_left h2
  have h4 : 2 ^ s * (q + 1) ≤ 2 ^ s * 2 ^ (32 - s) := Nat.mul_le_mul_left _ h3
  rw [Nat.mul_add, Nat.mul_one] at h4
  omega

theorem shl_split (x h s : Nat) (hx : x < 4294967296) (hs : s < 32) (hh : h < 2 ^ s) : ∃ lo hi : Nat, h + lo < 4294967296 ∧ hi < 2 ^ s ∧ lo + 4294967296 * hi = x * 2 ^ s ∧
    bits BinOp.or IntKind.u32 (h : Int) (IntKind.u64.wrap ((x : Int) * 2 ^ s) % 4294967296) = ((h + lo : Nat) : Int) ∧ IntKind.u64.wrap ((x : Int) * 2 ^ s) / 4294967296 % 4294967296 = (hi : Int) := by
  obtain ⟨b1, b2⟩ := two_pow_bd hs
  have hl := low_lt x h s hs hh
  have hj := nat_join s (x * 2 ^ s % 4294967296) h (mul_pow_mod x s hs) hh
  have e : ((x : Int) * 2 ^ s) = ((x * 2 ^ s : Nat) : Int) := by simp
  have hp : x * 2 ^ s ≤ 4294967295 * 2147483648 := Nat.mul_le_mul (by omega) b2
  have hhi : x * 2 ^ s / 4294967296 < 2 ^ s := by
    apply Nat.div_lt_of_lt_mul
    rw [Nat.mul_comm 4294967296]
    rw [Nat.mul_comm x]
    exact Nat.mul_lt_mul_of_pos_left hx (by omega)
  have hm := Nat.mod_add_div (x * 2 ^ s) 4294967296
  rw [e]
  generalize x * 2 ^ s = p at *
  refine ⟨p % 4294967296, p / 4294967296, hl, hhi, hm, ?_, ?_⟩
  · have e2 : IntKind.u64.wrap (p : Int) % 4294967296 = ((p % 4294967296 : Nat) : Int) := by simp only [IntKind.wrap_u64]; omega
    rw [e2, u32_or_nat _ _ (by omega) (by omega), Nat.or_comm, hj, Nat.add_comm]
  · simp only [IntKind.wrap_u64]; omega

theorem up_place {xs zs : List Nat} {k K s n lo hi h x : Nat} (hn : 2 ^ n = 4294967296 ^ K * 2 ^ s) (hz : k + K + 1 < zs.length) (hh : nth zs (k + K) = h) (hx : nth xs k = x)
    (hI : wv (zs.take (k + K + 1)) = wv (xs.take k) * 2 ^ n) (he : lo + 4294967296 * hi = x * 2 ^ s) :
    wv (((zs.set (k + K) (h + lo)).set (k + K + 1) hi).take (k + 1 + K + 1)) = wv (xs.take (k + 1)) * 2 ^ n := by
  rw [show k + 1 + K + 1 = k + K + 1 + 1 from by omega, take_set_snoc _ (by simpa using hz), wv_snoc, take_set_snoc _ (by omega), wv_snoc, wv_take xs k, hx]
  rw [wv_take, hh] at hI
  rw [List.length_append, List.length_singleton, List.length_take, Nat.min_eq_left (by omega), Nat.pow_succ]
  rw [Nat.add_mul, ← hI, hn, Nat.pow_add]
  generalize 4294967296 ^ k = p at *
  generalize 4294967296 ^ K = q at *
  have : p * x * (q * 2 ^ s) = p * q * (x * 2 ^ s) := by grind
  rw [this, ← he]
  grind

theorem shr_word (u q s : Nat) (hs : s < 32) : (u + 18446744073709551616 * q) / 2 ^ s % 4294967296 = u / 2 ^ s % 4294967296 := by
  have e : 18446744073709551616 * q = 2 ^ s * (4294967296 * (2 ^ (32 - s) * q)) := by
    have h1 : 2 ^ s * 2 ^ (32 - s) = 4294967296 := by rw [← Nat.pow_add, show s + (32 - s) = 32 from by omega]
    have h2 : 2 ^ s * (4294967296 * (2 ^ (32 - s) * q)) = (2 ^ s * 2 ^ (32 - s)) * 4294967296 * q := by grind
    rw [h2, h1]
  rw [e, Nat.add_mul_div_left _ _ (Nat.pow_pos (by omega)), Nat.add_mul_mod_self_left]

theorem down_word {xs : List Nat} {k s : Nat} (hk : k < xs.length) (hs : s < 32) : wv (xs.drop k) / 2 ^ s % 4294967296 = (nth xs k + 4294967296 * nth xs (k + 1)) / 2 ^ s % 4294967296 := by
  rw [wv_drop hk]
  rcases Nat.lt_or_ge (k + 1) xs.length with h | h
  · rw [wv_drop h]
    have e : nth xs k + 4294967296 * (nth xs (k + 1) + 4294967296 * wv (xs.drop (k + 1 + 1))) = (nth xs k + 4294967296 * nth xs (k + 1)) + 18446744073709551616 * wv (xs.drop (k + 1 + 1)) := by omega
    rw [e, shr_word _ _ s hs]
  · rw [nth_ge h, List.drop_of_length_le h]; simp [wv]

theorem down_place {xs zs : List Nat} {K k s V : Nat} (hs : Small xs) (hz : k < zs.length) (hk : k + K < xs.length)
    (hI : wv (zs.take k) + 4294967296 ^ k * (wv (xs.drop (k + K)) / 2 ^ s) = V) :
    wv ((zs.set k (wv (xs.drop (k + K)) / 2 ^ s % 4294967296)).take (k + 1)) + 4294967296 ^ (k + 1) * (wv (xs.drop (k + 1 + K)) / 2 ^ s) = V := by
  rw [take_set_snoc _ hz, wv_snoc, List.length_take, Nat.min_eq_left (by omega), ← hI]
  have h1 : wv (xs.drop (k + 1 + K)) / 2 ^ s = wv (xs.drop (k + K)) / 2 ^ s / 4294967296 := by
    have hw : wv (xs.drop (k + K)) / 4294967296 = wv (xs.drop (k + K + 1)) := by
      rw [wv_drop hk]
      have := nth_lt hs (k + K)
      omega
    rw [Nat.div_div_eq_div_mul, Nat.mul_comm, ← Nat.div_div_eq_div_mul, hw, show k + 1 + K = k + K + 1 from by omega]
  rw [h1, Nat.pow_succ]
  have := Nat.mod_add_div (wv (xs.drop (k + K)) / 2 ^ s) 4294967296
  generalize wv (xs.drop (k + K)) / 2 ^ s = q at *
  generalize 4294967296 ^ k = p at *
  generalize q % 4294967296 = a at *
  generalize q / 4294967296 = b at *
  grind

theorem drop_value {xs : List Nat} {K : Nat} (hs : Small xs) (hK : K ≤ xs.length) : wv (xs.drop K) = wv xs / 4294967296 ^ K := by
  rw [wv_take_drop xs K hK, Nat.add_mul_div_left _ _ (Nat.pow_pos (by omega))]
  have := wv_lt (hs.take K)
  rw [List.length_take, Nat.min_eq_left hK] at this
  rw [Nat.div_eq_of_lt this]; simp

theorem or_lo_hi (l h : Nat) (hl : l < 4294967296) (hh : h < 4294967296) : bits BinOp.or IntKind.u64 (l : Int) ((h : Int) * 4294967296) = (l : Int) + 4294967296 * (h : Int) := by
  have e : (h : Int) * 4294967296 = ((h * 4294967296 : Nat) : Int) := by omega
  rw [e, u64_or_nat _ _ (by omega) (by omega), Nat.or_comm, nat_join 32 (h * 4294967296) l (by omega) hl]
  omega

end W
end Go.Proofs.YtihdnfhclocndaaGreatDoor
namespace Go.Proofs.YtihdnfhclocndaaGreatDoor
open Go.RowKit W

set_option maxRecDepth 100000 in
set_option maxHeartbeats 400000 in
theorem up_any (A1 : Option Addr) (xs : List Nat) (c1 n : Nat) (w : World) (h1 : Rd w A1 xs) (s1 : Small xs)
    (hm : xs.length ≤ 549755813888) (hn : n ≤ 8796093022208) :
    Calls Tryz.prog 193 #[.slice A1 xs.length c1, .int .i64 (n : Int)] w (Gives w (ofN (wv xs * 2 ^ n))) := by
  by_cases hx0 : xs = []
  · subst hx0
    go_enter Tryz.func193, Tryz.ntmps193
    go_wp2
    go_ret
    have e : ofN (wv [] * 2 ^ n) = [] := by simp [wv, ofN_zero]
    rw [e]
    exact Gives.of (Below.refl _ _) ⟨rfl, .inl ⟨rfl, rfl⟩⟩
  · have hlen : 0 < xs.length := List.length_pos_iff.2 hx0
    have hlen' : ((xs.length : Int) == 0) = false := by simp; omega
    have hmk := fun w : World => make_u32 w ((xs.length : Int) + (n : Int) / 32 + 1) (by omega) (by omega)
    go_enter Tryz.func193, Tryz.ntmps193
    go_wp2
    go_loopw [8, 9] (fun i _ wr => ∃ (k : Nat) (zs : List Nat), k ≤ xs.length ∧ i = .int .i64 k ∧
        Loc w.heap.size wr w.heap.size (xs.length + n / 32 + 1) (xs.length + n / 32 + 1) zs ∧ Below w.heap.size w wr ∧ Hid (nth zs (k + n / 32) < 2 ^ (n % 32)) ∧
        Hid (wv (zs.take (k + n / 32 + 1)) = wv (xs.take k) * 2 ^ n)) (fun i _ _ => xs.length - (intOf i).toNat)
    case atStart =>
      refine ⟨0, _, by omega, rfl, Loc.new w (Nat.le_refl _) (by omega), (Below.refl _ _).alloc (Nat.le_refl _) _, ?_, ?_⟩
      · show nth _ _ < _
        have : nth (List.replicate (xs.length + n / 32 + 1) 0) (0 + n / 32) = 0 := nth_zero_of_lt (by rw [wv_replicate]; exact Nat.pow_pos (by omega))
        rw [this]; exact Nat.pow_pos (by omega)
      · show wv _ = _
        rw [List.take_replicate, wv_replicate]; simp [wv]
    case round =>
      obtain ⟨k, zs, hk, rfl, hL, hB, hT, hI⟩ := hrel
      by_cases hlt : k < xs.length
      · obtain ⟨b, o, rfl, hx⟩ := (h1.below hB) (by omega)
        have hx := hx k hlt
        have bx := nth_lt s1 k
        have hz := hL.cell (k := k + n / 32) (by omega)
        have hf := hL.frozen (k + n / 32)
        have hz1 := hL.cell (k := k + n / 32 + 1) (by omega)
        have hf1 := hL.frozen (k + n / 32 + 1)
        go_wp2
        go_roundw
        case rel =>
          obtain ⟨lo, hi, q1, q2, q3, q4, q5⟩ := shl_split _ _ _ bx (Nat.mod_lt n (by omega)) hT.out
          obtain ⟨b1, b2⟩ := two_pow_bd (Nat.mod_lt n (show 0 < 32 by omega))
          refine ⟨k + 1, (zs.set (k + n / 32) (nth zs (k + n / 32) + lo)).set (k + n / 32 + 1) hi, by omega, by go_num, (hL.put _ q4 q1).put _ q5 (by omega), (hB.setCell (Nat.le_refl _) _).setCell (Nat.le_refl _) _, ?_, ?_⟩
          · show nth _ _ < _
            rw [show k + 1 + n / 32 = k + n / 32 + 1 from by omega, nth_set_eq _ (by rw [List.length_set]; have := hL.len; omega)]
            exact q2
          · exact up_place (pow_split n) (by have := hL.len; omega) rfl rfl hI.out q3
        case measure => simp [intOf]; omega
      · have : k = xs.length := by omega
        subst this
        have hT := trim_any _ _ (xs.length + n / 32 + 1) _ hL.rd hL.2.1 (by rw [hL.1]; omega) (by simp [maxLen]; omega)
        rw [hL.1] at hT
        have hv : wv zs = wv xs * 2 ^ n := by
          have h3 := hI.out
          rw [wv_take_all (Nat.le_refl _), wv_take_all (by rw [hL.1]; omega)] at h3
          exact h3
        have HV := Lib.hid hv
        have HB := Lib.hid hB
        have HL := Lib.hid hL
        clear hv hL hB hI
        go_wp2_with (go_at_call 194; refine hT.mono ?_; rintro e w' ⟨rfl, rfl⟩)
        go_ret
        rw [← HV.out]
        exact Gives.of HB.out HL.out.trim

end Go.Proofs.YtihdnfhclocndaaGreatDoor
namespace Go.Proofs.YtihdnfhclocndaaGreatDoor
open Go.RowKit W

theorem Gives.nil (w : World) : Gives w [] (.returned (.slice none 0 0)) w :=
  Gives.of (Below.refl _ _) ⟨rfl, .inl ⟨rfl, rfl⟩⟩

set_option maxRecDepth 100000 in
set_option maxHeartbeats 400000 in
theorem down_any (A1 : Option Addr) (xs : List Nat) (c1 n : Nat) (w : World) (h1 : Rd w A1 xs) (s1 : Small xs)
    (hm : xs.length ≤ 549755813888) (hn : n ≤ 8796093022208) :
    Calls Tryz.prog 245 #[.slice A1 xs.length c1, .int .i64 (n : Int)] w (Gives w (ofN (wv xs / 2 ^ n))) := by
  rcases Nat.lt_or_ge (n / 32) xs.length with hx0 | hx0
  · have hx0' : ¬ ((xs.length : Int) ≤ (n : Int) / 32) := by omega
    have hmk := fun w : World => make_u32 w ((xs.length : Int) - (n : Int) / 32) (by omega) (by omega)
    go_enter Tryz.func245, Tryz.ntmps245
    go_wp2
    go_loopw [8, 9] (fun i _ wr => ∃ (k : Nat) (zs : List Nat), k ≤ xs.length - n / 32 ∧ i = .int .i64 k ∧
        Loc w.heap.size wr w.heap.size (xs.length - n / 32) (xs.length - n / 32) zs ∧ Below w.heap.size w wr ∧
        Hid (wv (zs.take k) + 4294967296 ^ k * (wv (xs.drop (k + n / 32)) / 2 ^ (n % 32)) = wv (xs.drop (n / 32)) / 2 ^ (n % 32))) (fun i _ _ => xs.length - (intOf i).toNat)
    case atStart =>
      exact ⟨0, _, by omega, rfl, Loc.new w (Nat.le_refl _) (by omega), (Below.refl _ _).alloc (Nat.le_refl _) _, by show _ + _ = _; simp [wv]⟩
    case round =>
      obtain ⟨k, zs, hk, rfl, hL, hB, hI⟩ := hrel
      by_cases hlt : k < xs.length - n / 32
      · obtain ⟨b, o, rfl, hx⟩ := (h1.below hB) (by omega)
        have hxk := hx (k + n / 32) (by omega)
        have bx := nth_lt s1 (k + n / 32)
        have bx1 := nth_lt s1 (k + n / 32 + 1)
        have hz := hL.cell (k := k) (by omega)
        have hf := hL.frozen k
        have HD := Lib.hid (down_word (xs := xs) (k := k + n / 32) (by omega) (Nat.mod_lt n (show 0 < 32 by omega)))
        by_cases hnx : k + n / 32 + 1 < xs.length
        · have hx1 := hx (k + n / 32 + 1) hnx
          have hor := or_lo_hi _ _ bx bx1
          clear hx
          go_wp2
          go_roundw
          case rel =>
            exact ⟨k + 1, zs.set k (wv (xs.drop (k + n / 32)) / 2 ^ (n % 32) % 4294967296), by omega, by go_num, hL.put k (by rw [HD.out]; simp) (Nat.mod_lt _ (by omega)), hB.setCell (Nat.le_refl _) _, down_place s1 (by have := hL.len; omega) (by omega) hI.out⟩
          case measure => simp [intOf]; omega
        · have hn0 : nth xs (k + n / 32 + 1) = 0 := nth_ge (by omega)
          have HN := Lib.hid hn0
          have hnx' : ¬ ((k : Int) + (n : Int) / 32 + 1 < (xs.length : Int)) := by omega
          clear hx hn0
          go_wp2
          go_roundw
          case rel =>
            exact ⟨k + 1, zs.set k (wv (xs.drop (k + n / 32)) / 2 ^ (n % 32) % 4294967296), by omega, by go_num, hL.put k (by rw [HD.out, HN.out]; simp) (Nat.mod_lt _ (by omega)), hB.setCell (Nat.le_refl _) _, down_place s1 (by have := hL.len; omega) (by omega) hI.out⟩
          case measure => simp [intOf]; omega
      · have : k = xs.length - n / 32 := by omega
        subst this
        have hT := trim_any _ _ (xs.length - n / 32) _ hL.rd hL.2.1 (by rw [hL.1]; omega) (by simp [maxLen]; omega)
        rw [hL.1] at hT
        have hv : wv zs = wv xs / 2 ^ n := by
          have h3 := hI.out
          rw [wv_take_all (by rw [hL.1]; omega), List.drop_of_length_le (by omega), drop_value s1 (by omega), Nat.div_div_eq_div_mul, ← pow_split] at h3
          simpa [wv] using h3
        have HV := Lib.hid hv
        have HB := Lib.hid hB
        have HL := Lib.hid hL
        clear hv hL hB hI
        go_wp2_with (go_at_call 194; refine hT.mono ?_; rintro e w' ⟨rfl, rfl⟩)
        go_ret
        rw [← HV.out]
        exact Gives.of HB.out HL.out.trim
  · have hx0' : (xs.length : Int) ≤ (n : Int) / 32 := by omega
    have e : ofN (wv xs / 2 ^ n) = [] := by
      rw [ofN_eq_nil, pow_split, ← Nat.div_div_eq_div_mul]
      have h3 := wv_lt s1
      have h4 := Nat.pow_le_pow_right (n := 4294967296) (by omega) hx0
      have h5 : wv xs < 4294967296 ^ (n / 32) := by omega
      rw [Nat.div_eq_of_lt h5]; simp
    have HE := Lib.hid e
    clear e
    go_enter Tryz.func245, Tryz.ntmps245
    go_wp2
    go_ret
    rw [HE.out]
    exact Gives.nil w

end Go.Proofs.YtihdnfhclocndaaGreatDoor
namespace Go.Proofs.YtihdnfhclocndaaGreatDoor
open Go.RowKit W

theorem wv_mod64 {xs : List Nat} (hs : Small xs) : wv xs % 18446744073709551616 = nth xs 0 + 4294967296 * nth xs 1 := by
  have h0 := nth_lt hs 0
  have h1 := nth_lt hs 1
  have e : wv xs = nth xs 0 + 4294967296 * (nth xs 1 + 4294967296 * wv (xs.drop 2)) := by
    match xs with
    | [] => simp [wv, nth]
    | [a] => simp [wv, nth]
    | a :: b :: r => simp [wv, nth]
  rw [e]
  omega

/-- A number's last 64 bits. -/
def u64v (n : Nat) : Int := ((n % 18446744073709551616 : Nat) : Int)

set_option maxRecDepth 100000 in
theorem toUint_any (A : Option Addr) (xs : List Nat) (c : Nat) (w : World) (h : Rd w A xs) (hs : Small xs) (hm : xs.length ≤ 549755813888) :
    Calls Tryz.prog 271 #[.slice A xs.length c] w fun e w' => e = .returned (.int .u64 (u64v (wv xs))) ∧ w = w' := by
  have HV := Lib.hid (wv_mod64 hs)
  have b0 := nth_lt hs 0
  have b1 := nth_lt hs 1
  rcases Nat.lt_or_ge 1 xs.length with h2 | h2
  · obtain ⟨b, o, rfl, hx⟩ := h (by omega)
    have hx0 := hx 0 (by omega)
    have hx1 := hx 1 (by omega)
    have hor := or_words _ _ b1 b0
    simp only [Nat.add_zero] at hx0
    go_enter Tryz.func271, Tryz.ntmps271
    go_wp2
    go_ret
    exact ⟨by unfold u64v; rw [HV.out]; exact congrArg (fun z => Ending.returned (Value.int IntKind.u64 z)) (by omega), rfl⟩
  · have h2' : ¬ (1 < (xs.length : Int)) := by omega
    have HN := Lib.hid (nth_ge (xs := xs) (k := 1) (by omega))
    rcases Nat.eq_zero_or_pos xs.length with h0 | h0
    · have HN0 := Lib.hid (nth_ge (xs := xs) (k := 0) (by omega))
      have h0' : ¬ (0 < (xs.length : Int)) := by omega
      clear h0
      go_enter Tryz.func271, Tryz.ntmps271
      go_wp2
      go_ret
      exact ⟨by unfold u64v; rw [HV.out, HN.out, HN0.out]; rfl, rfl⟩
    · obtain ⟨b, o, rfl, hx⟩ := h (by omega)
      have hx0 := hx 0 (by omega)
      simp only [Nat.add_zero] at hx0
      have hor0 : bits BinOp.or IntKind.u64 0 (nth xs 0 : Int) = (nth xs 0 : Int) := by simpa using or_words 0 _ (by omega) b0
      go_enter Tryz.func271, Tryz.ntmps271
      go_wp2
      go_ret
      exact ⟨by unfold u64v; rw [HV.out, HN.out]; exact congrArg (fun z => Ending.returned (Value.int IntKind.u64 z)) (by omega), rfl⟩

set_option maxRecDepth 100000 in
theorem fromUint_any (x : Nat) (w : World) (hx : x < 18446744073709551616) :
    Calls Tryz.prog 233 #[.int .u64 (x : Int)] w (Gives w (ofN x)) := by
  go_enter Tryz.func233, Tryz.ntmps233
  have hL : Loc w.heap.size (w.alloc (.cells #[.int .u32 ((x : Int) % 4294967296), .int .u32 ((x : Int) / 4294967296)] tU32)) w.heap.size 2 2 [x % 4294967296, x / 4294967296] := by
    refine Loc.of_block (zs := [x % 4294967296, x / 4294967296]) ?_ (Nat.le_refl _) (small_cons.2 ⟨by omega, small_cons.2 ⟨by omega, small_nil⟩⟩) (by simp)
    rw [heap_alloc_new]
    simp [u32l]
  have hT := trim_any _ _ 2 _ hL.rd hL.2.1 (by simp) (by simp [maxLen])
  have hv : wv [x % 4294967296, x / 4294967296] = x := by simp [wv]; omega
  have HV := Lib.hid hv
  have HL := Lib.hid hL
  clear hv hL
  go_wp2_with (go_at_call 194; refine hT.mono ?_; rintro e w' ⟨rfl, rfl⟩)
  go_ret
  have h := Gives.of ((Below.refl _ _).alloc (Nat.le_refl _) _) HL.out.trim
  rw [HV.out] at h
  exact h

def oneB (n : Nat) : Bool := n == 1

set_option maxRecDepth 100000 in
theorem one_any (A : Option Addr) (xs : List Nat) (c : Nat) (w : World) (h : Rd w A xs) (hs : Norm xs) (hm : xs.length ≤ 549755813888) :
    Calls Tryz.prog 272 #[.slice A xs.length c] w fun e w' => e = .returned (.bool (oneB (wv xs))) ∧ w = w' := by
  have b0 := nth_lt hs.1 0
  by_cases h1 : xs.length = 1
  · have h1' : ((xs.length : Int) == 1) = true := by simp; omega
    obtain ⟨b, o, rfl, hx⟩ := h (by omega)
    have hx0 := hx 0 (by omega)
    simp only [Nat.add_zero] at hx0
    have hv : wv xs = nth xs 0 := by
      match xs, h1 with
      | [a], _ => simp [wv, nth]
    have HV := Lib.hid hv
    have H1 := Lib.hid h1
    have h1p : 0 < xs.length := by omega
    clear hv h1
    by_cases hb : nth xs 0 = 1
    · have hb' : ((nth xs 0 : Int) == 1) = true := by simp [hb]
      have HB := Lib.hid hb; clear hb
      go_enter Tryz.func272, Tryz.ntmps272
      go_wp2
      go_ret
      exact ⟨by rw [HV.out, HB.out]; rfl, rfl⟩
    · have hb' : ((nth xs 0 : Int) == 1) = false := by simp; omega
      have HB := Lib.hid hb; clear hb
      go_enter Tryz.func272, Tryz.ntmps272
      go_wp2
      go_ret
      have e : oneB (nth xs 0) = false := by unfold oneB; simpa using HB.out
      exact ⟨by rw [HV.out, e]; rfl, rfl⟩
  · have h1' : ((xs.length : Int) == 1) = false := by simp; omega
    have e : oneB (wv xs) = false := by
      unfold oneB
      simp only [beq_eq_false_iff_ne]
      intro he
      have := ofN_wv hs
      rw [he, ofN_pos (by omega), show 1 / 4294967296 = 0 from rfl, ofN_zero] at this
      rw [← this] at h1
      exact h1 rfl
    have HE := Lib.hid e
    clear e h1
    go_enter Tryz.func272, Tryz.ntmps272
    go_wp2
    go_ret
    exact ⟨by rw [HE.out]; rfl, rfl⟩

end Go.Proofs.YtihdnfhclocndaaGreatDoor
