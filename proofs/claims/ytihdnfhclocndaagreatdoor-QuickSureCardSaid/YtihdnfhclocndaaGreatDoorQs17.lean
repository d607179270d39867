/- numeral/exact: even. numeral/nat: lowered. numeral/nat: Down; numeral/exact: far. numeral/forms: Check, Single, Double; numeral/exact: Check, Make. numeral/exact: Make. -/
import Derived.Test.YtihdnfhclocndaaGreatDoorQs16
namespace Go.Proofs.YtihdnfhclocndaaGreatDoor
open Go.RowKit W

theorem norm_last {xs : List Nat} (h : Norm xs) (h0 : 0 < xs.length) : nth xs (xs.length - 1) ≠ 0 := by
  intro h1
  refine h.2 ?_
  rw [List.getLast?_eq_getElem?, List.getElem?_eq_getElem (by omega), ← nth_get (by omega), h1]

set_option maxRecDepth 100000 in
theorem even_any (A : Option Addr) (xs : List Nat) (c : Nat) (w : World) (hG : Glob w) (h : Rd w A xs) (hs : Norm xs) (h0 : 0 < xs.length) (hm : xs.length ≤ 16384) :
    Calls Tryz.prog 266 #[.agg #[.slice A xs.length c]] w fun e w' => e = .returned (.int .i64 (tz (wv xs) : Int)) ∧ Below w.heap.size w w' := by
  have hal := h.below ((Below.refl w.heap.size w).alloc (Nat.le_refl _) (.cells #[.slice A xs.length c] 44))
  have HG := Lib.hid (hG.alloc (.cells #[.slice A xs.length c] 44))
  have HL := Lib.hid (norm_last hs h0)
  have HS := Lib.hid hs.1
  obtain ⟨b, o, rfl, hcell⟩ := hal h0
  have HC := Lib.hid hcell
  clear hcell hal h hG hs
  go_enter Tryz.func266, Tryz.ntmps266
  go_wp2
  go_loop [3] (fun n => ∃ k : Nat, k < xs.length ∧ n = .int .i64 (32 * (k : Int)) ∧ Hid (∀ j, j < k → nth xs j = 0)) (fun n => (32 * xs.length - (intOf n).toNat))
  case atStart => exact ⟨0, h0, rfl, fun j hj => by omega⟩
  case round =>
    obtain ⟨k, hk, rfl, hz⟩ := hrel
    have hx := HC.out k hk
    have bx := nth_lt HS.out k
    by_cases hv : nth xs k = 0
    · have hv' : ((nth xs k : Int) == 0) = true := by simp [hv]
      have hkl : k + 1 < xs.length := by
        rcases Nat.lt_or_ge (k + 1) xs.length with h | h
        · exact h
        · exfalso
          have : xs.length - 1 = k := by omega
          exact HL.out (by rw [this]; exact hv)
      have HV := Lib.hid hv; clear hv
      go_wp2
      go_round
      case rel => exact ⟨k + 1, hkl, by go_num, fun j hj => by
        rcases Nat.lt_or_ge j k with h1 | h1
        · exact hz.out j h1
        · obtain rfl : j = k := by omega
          exact HV.out⟩
      case measure => simp [intOf]; omega
    · have hv' : ((nth xs k : Int) == 0) = false := by simp; omega
      have HN := Lib.hid (tz_words hk hz.out hv HS.out)
      have hle : tz (nth xs k) < 32 := by
        rw [← ctz_tz hv bx]
        exact (Lib.lowest_bit 32 _ hv (by omega)).2
      have HT := Lib.hid (tz32 (nth xs k) _ HG.out bx hv)
      clear hv
      go_wp2_with (go_at_call 226; (with_reducible refine HT.out.mono ?_); rintro e w' ⟨rfl, rfl⟩)
      go_ret
      refine ⟨?_, (Below.refl _ _).alloc (Nat.le_refl _) _⟩
      have e : (tz (wv xs) : Int) = 32 * (k : Int) + (tz (nth xs k) : Int) := by rw [HN.out]; omega
      rw [e]; rfl

end Go.Proofs.YtihdnfhclocndaaGreatDoor
namespace Go.Proofs.YtihdnfhclocndaaGreatDoor
open Go.RowKit W

theorem low_step {xs zs : List Nat} {k s : Nat} (hs : Small xs) (hz : k < zs.length) (hk : k < xs.length) (hI : wv (zs.drop (k + 1)) = wv (xs.drop (k + 1)) / 2 ^ s) :
    wv ((zs.set k (wv (xs.drop k) / 2 ^ s % 4294967296)).drop k) = wv (xs.drop k) / 2 ^ s := by
  rw [drop_set_cons _ hz, wv_cons, hI]
  have h1 : wv (xs.drop (k + 1)) / 2 ^ s = wv (xs.drop k) / 2 ^ s / 4294967296 := by
    have hw : wv (xs.drop k) / 4294967296 = wv (xs.drop (k + 1)) := by
      rw [wv_drop hk]
      have := nth_lt hs k
      omega
    rw [← hw, Nat.div_div_eq_div_mul, Nat.div_div_eq_div_mul, Nat.mul_comm]
  rw [h1]
  exact Nat.mod_add_div _ _

set_option maxRecDepth 100000 in
theorem lowered_any (A1 : Option Addr) (xs : List Nat) (c1 s : Nat) (w : World) (h1 : Rd w A1 xs) (s1 : Small xs) (hm : xs.length ≤ 549755813888) (hs : s < 32) :
    Calls Tryz.prog 297 #[.slice A1 xs.length c1, .int .i64 (s : Int)] w fun e w' =>
      ∃ zs, e = .returned (.slice (some ⟨w.heap.size, 0, none⟩) xs.length xs.length) ∧ Below w.heap.size w w' ∧ Loc w.heap.size w' w.heap.size xs.length xs.length zs ∧ wv zs = wv xs / 2 ^ s := by
  have hmk := fun w : World => make_u32 w (xs.length : Int) (by omega) (by omega)
  go_enter Tryz.func297, Tryz.ntmps297
  go_wp2
  go_loopw [6, 7, 8] (fun q i _ wr => ∃ (k : Nat) (zs : List Nat), k ≤ xs.length ∧ i = .int .i64 ((k : Int) - 1) ∧ q = .int .u64 ((nth xs k : Nat) : Int) ∧
      Loc w.heap.size wr w.heap.size xs.length xs.length zs ∧ Below w.heap.size w wr ∧
      Hid (wv (zs.drop k) = wv (xs.drop k) / 2 ^ s)) (fun _ i _ _ => (intOf i + 1).toNat)
  case atStart =>
    refine ⟨xs.length, _, Nat.le_refl _, rfl, ?_, Loc.new w (Nat.le_refl _) (by omega), (Below.refl _ _).alloc (Nat.le_refl _) _, ?_⟩
    · rw [nth_ge (Nat.le_refl _)]; rfl
    · show wv _ = _; simp [wv]
  case round =>
    obtain ⟨k, zs, hk, rfl, rfl, hL, hB, hI⟩ := hrel
    by_cases h0 : 0 < k
    · obtain ⟨b, o, rfl, hx⟩ := (h1.below hB) (by omega)
      have hx := hx (k - 1) (by omega)
      have hz := hL.cell (k := k - 1) (by omega)
      have hf := hL.frozen (k - 1)
      have bx := nth_lt s1 (k - 1)
      have bx1 := nth_lt s1 k
      have hor := or_words (nth xs k) (nth xs (k - 1)) bx1 bx
      have HD := Lib.hid (down_word (xs := xs) (k := k - 1) (by omega) hs)
      go_wp2
      go_roundw
      case rel =>
        have e1 : k - 1 + 1 = k := by omega
        have HD := HD.out
        rw [e1] at HD
        refine ⟨k - 1, zs.set (k - 1) (wv (xs.drop (k - 1)) / 2 ^ s % 4294967296), by omega, by go_num, rfl, hL.put (k - 1) ?_ (Nat.mod_lt _ (by omega)), hB.setCell (Nat.le_refl _) _, low_step s1 (by have := hL.len; omega) (by omega) (by rw [e1]; exact hI.out)⟩
        rw [HD, show nth xs (k - 1) + 4294967296 * nth xs k = nth xs k * 4294967296 + nth xs (k - 1) by omega]
        simp
      case measure => simp [intOf]; omega
    · obtain rfl : k = 0 := by omega
      go_wp2
      go_ret
      exact ⟨zs, rfl, hB, hL, by have := hI.out; rwa [List.drop_zero, List.drop_zero] at this⟩

end Go.Proofs.YtihdnfhclocndaaGreatDoor
namespace Go.Proofs.YtihdnfhclocndaaGreatDoor
open Go.RowKit W

set_option maxRecDepth 100000 in
theorem far_any (n : Int) (w : World) :
    Calls Tryz.prog 143 #[.int .i64 n] w fun e w' => e = .returned (.bool (decide (n < -1073741824) || decide (1073741824 < n))) ∧ w = w' := by
  by_cases h1 : n < -1073741824
  · rw [decide_eq_true h1]
    go_enter Tryz.func143, Tryz.ntmps143
    go_wp2
    go_ret
    exact ⟨rfl, rfl⟩
  · rw [decide_eq_false h1]
    go_enter Tryz.func143, Tryz.ntmps143
    go_wp2
    go_ret
    exact ⟨rfl, rfl⟩

theorem natCheck_norm {xs : List Nat} (h : Norm xs) (hm : xs.length ≤ 16384) : natCheck xs = 0 := by
  unfold natCheck
  rw [if_neg (by omega), if_neg (fun h' => norm_last h h'.1 h'.2)]

/-- Two new cells. -/
theorem alloc2 (w : World) (u v : Value) (t t' : TypeId) (B : Nat) (hB : B ≤ w.heap.size) :
    ((w.alloc (.cells #[u] t)).alloc (.cells #[v] t')).heap.size = w.heap.size + 2 ∧ ((w.alloc (.cells #[u] t)).alloc (.cells #[v] t')).cell? ⟨w.heap.size, 0, none⟩ = some u ∧
    ((w.alloc (.cells #[u] t)).alloc (.cells #[v] t')).cell? ⟨w.heap.size + 1, 0, none⟩ = some v ∧ (∀ k, ((w.alloc (.cells #[u] t)).alloc (.cells #[v] t')).frozen? ⟨w.heap.size, k, none⟩ = false) ∧
    (∀ k, ((w.alloc (.cells #[u] t)).alloc (.cells #[v] t')).frozen? ⟨w.heap.size + 1, k, none⟩ = false) ∧ Below B w ((w.alloc (.cells #[u] t)).alloc (.cells #[v] t')) := by
  have hs : (w.alloc (.cells #[u] t)).heap.size = w.heap.size + 1 := by simp
  have h1 : ((w.alloc (.cells #[u] t)).alloc (.cells #[v] t')).heap[w.heap.size]? = some (.cells #[u] t) := by
    rw [show ((w.alloc (.cells #[u] t)).alloc (.cells #[v] t')).heap[w.heap.size]? = (w.alloc (.cells #[u] t)).heap[w.heap.size]? from ((Below.refl _ _).alloc (Nat.le_refl _) _).block _ (by simp)]
    exact heap_alloc_new w _
  have h2 : ((w.alloc (.cells #[u] t)).alloc (.cells #[v] t')).heap[w.heap.size + 1]? = some (.cells #[v] t') := by
    rw [← hs]; exact heap_alloc_new _ _
  refine ⟨by simp, ?_, ?_, fun k => frozen_of_row _ _ k _ _ h1, fun k => frozen_of_row _ _ k _ _ h2, ((Below.refl _ _).alloc hB _).alloc (by rw [hs]; omega) _⟩
  · unfold World.cell?; rw [h1]; rfl
  · unfold World.cell?; rw [h2]; rfl

theorem down_zero {xs : List Nat} {k : Nat} (hs : Small xs) (h : xs.length ≤ k / 32) : wv xs / 2 ^ k = 0 := by
  refine Nat.div_eq_of_lt (Nat.lt_of_lt_of_le (wv_lt hs) ?_)
  rw [pow_split k]
  exact Nat.le_trans (Nat.pow_le_pow_right (by omega) h) (Nat.le_mul_of_pos_right _ (Nat.pow_pos (by omega)))

set_option maxRecDepth 100000 in
set_option maxHeartbeats 1000000 in
theorem natDown_any (A : Option Addr) (xs : List Nat) (c k : Nat) (w : World) (h : Rd w A xs) (hs : Norm xs) (hm : xs.length ≤ 16384) (hc : xs.length ≤ c) (hcm : c ≤ maxLen) (hk : k ≤ 1099511627776) :
    Calls Tryz.prog 267 #[.agg #[.slice A xs.length c], .int .i64 (k : Int)] w fun e w' =>
      ∃ A', e = .returned (.tuple #[natV A' (wv xs / 2 ^ k), .int .i64 0]) ∧ Below w.heap.size w w' ∧ Rd w' A' (ofN (wv xs / 2 ^ k)) := by
  unfold maxLen at hcm
  obtain ⟨a1, a2, a3, a4, a5, a6⟩ := alloc2 w (.slice A xs.length c) (.slice none 0 0) 44 44 w.heap.size (Nat.le_refl _)
  have HR := Lib.hid (h.below a6)
  have HS := Lib.hid hs
  have C := Lib.hid (natCheck_any A xs c _ (h.below a6) hs.1 (by simp [maxLen]; omega))
  rw [natCheck_norm hs hm] at C
  have hk0 : ¬ ((k : Int) < 0) := by omega
  clear h hs
  go_enter Tryz.func267, Tryz.ntmps267
  go_wp2_with fail
  generalize (w.alloc (.cells #[.slice A xs.length c] 44)).alloc (.cells #[.slice none 0 0] 44) = W0 at *
  with_reducible refine C.out.mono ?_
  rintro e w1 ⟨rfl, hb⟩
  have c1 : w1.cell? ⟨w.heap.size, 0, none⟩ = _ := (hb.cell (p := ⟨w.heap.size, 0, none⟩) (by rw [a1]; simp)).trans a2
  have c2 : w1.cell? ⟨w.heap.size + 1, 0, none⟩ = _ := (hb.cell (p := ⟨w.heap.size + 1, 0, none⟩) (by rw [a1]; simp)).trans a3
  have f2 : w1.frozen? ⟨w.heap.size + 1, 0, none⟩ = _ := (hb.frozen (p := ⟨w.heap.size + 1, 0, none⟩) (by rw [a1]; simp)).trans (a5 0)
  have HB := Lib.hid (a6.trans (hb.mono (by omega)))
  have HR1 := Lib.hid (HR.out.below hb)
  have hsz : w.heap.size + 2 ≤ w1.heap.size := by rw [← a1]; exact hb.size
  clear a1 a2 a3 a4 a5 a6 hb C HR
  by_cases hlt : xs.length ≤ k / 32
  · have hge : (xs.length : Int) ≤ (k : Int) / 32 := by omega
    have HZ := Lib.hid (down_zero HS.out.1 hlt)
    go_wp2
    have c3 := cell_same (v := .slice none 0 0) c2
    refine bodyPost_ret (v := .tuple #[natV none 0, .int .i64 0]) (by simp [results, Tryz.results267, go_sem, c3, natV, ofN_zero]) rfl ?_
    rw [HZ.out]
    refine ⟨none, rfl, HB.out.setCell (by simp) _, ?_⟩
    rw [ofN_zero]; exact Rd.nil _ _
  · have hge : ¬ (xs.length : Int) ≤ (k : Int) / 32 := by omega
    obtain ⟨b, o, rfl, hcell⟩ := HR1.out (by omega)
    have hle1 : (k : Int) / 32 ≤ (xs.length : Int) := by omega
    have hle2 : (k : Int) / 32 ≤ (c : Int) := by omega
    have hrs := HR1.out.sub (k / 32) (xs.length - k / 32)
    rw [List.take_of_length_le (by rw [List.length_drop]; exact Nat.le_refl _)] at hrs
    have T := Lib.hid (lowered_any (some ⟨b, o + k / 32, none⟩) (xs.drop (k / 32)) (c - k / 32) (k % 32) w1 hrs (HS.out.1.drop _) (by rw [List.length_drop]; omega) (Nat.mod_lt _ (by omega)))
    rw [List.length_drop, drop_value HS.out.1 (by omega), Nat.div_div_eq_div_mul, ← pow_split, show ((k % 32 : Nat) : Int) = (k : Int) % 32 by omega] at T
    clear hcell hrs
    go_wp2_with fail
    with_reducible refine T.out.mono ?_
    rintro e w2 ⟨zs, rfl, hb2, hL2, hv⟩
    have T2 := Lib.hid (trimmed_any (some ⟨w1.heap.size, 0, none⟩) zs (xs.length - k / 32) w2 hL2.rd hL2.small (by rw [hL2.len]; exact Nat.le_refl _) (by simp [maxLen]; omega))
    rw [hL2.len, hv] at T2
    have c3 : w2.cell? ⟨w.heap.size + 1, 0, none⟩ = _ := (hb2.cell (p := ⟨w.heap.size + 1, 0, none⟩) hsz).trans c2
    have f3 : w2.frozen? ⟨w.heap.size + 1, 0, none⟩ = _ := (hb2.frozen (p := ⟨w.heap.size + 1, 0, none⟩) hsz).trans f2
    have HB2 := Lib.hid (HB.out.trans (hb2.mono (by omega)))
    have hsz2 : w.heap.size + 2 ≤ w2.heap.size := Nat.le_trans hsz hb2.size
    clear hb2 hL2 hv T
    go_wp2_with fail
    with_reducible refine T2.out.mono ?_
    rintro e w3 ⟨A3, rfl, hb3, hr3⟩
    have c4 : w3.cell? ⟨w.heap.size + 1, 0, none⟩ = _ := (hb3.cell (p := ⟨w.heap.size + 1, 0, none⟩) hsz2).trans c3
    have f4 : w3.frozen? ⟨w.heap.size + 1, 0, none⟩ = _ := (hb3.frozen (p := ⟨w.heap.size + 1, 0, none⟩) hsz2).trans f3
    have HB3 := Lib.hid (HB2.out.trans (hb3.mono (by omega)))
    have HR3 := Lib.hid hr3
    clear hb3 hr3 T2 c1 c2 c3
    unfold natV
    go_wp2
    have c5 := cell_same (v := .slice A3 (ofN (wv xs / 2 ^ k)).length (ofN (wv xs / 2 ^ k)).length) c4
    refine bodyPost_ret (v := .tuple #[natV A3 (wv xs / 2 ^ k), .int .i64 0]) (by simp [results, Tryz.results267, go_sem, c5, natV]) rfl ?_
    exact ⟨A3, rfl, HB3.out.setCell (by simp) _, HR3.out.store c4 (by intro k h; cases h) _⟩

end Go.Proofs.YtihdnfhclocndaaGreatDoor
namespace Go.Proofs.YtihdnfhclocndaaGreatDoor
open Go.RowKit W

/-- A form's value. -/
def formV (e f : Int) : Value := .agg #[.int .i64 e, .int .i64 f]

def formOk (e f : Int) : Prop := 2 ≤ e ∧ e ≤ 11 ∧ 1 ≤ f ∧ f ≤ 52

set_option maxRecDepth 100000 in
theorem formsCheck_any (x f : Int) (w : World) (h : formOk x f) :
    Calls Tryz.prog 104 #[.agg #[.int .i64 x, .int .i64 f]] w fun e w' => e = .returned (.int .i64 0) ∧ Below w.heap.size w w' := by
  obtain ⟨h1, h2, h3, h4⟩ := h
  go_enter Tryz.func104, Tryz.ntmps104
  go_wp2
  go_ret
  exact ⟨rfl, (Below.refl _ _).alloc (Nat.le_refl _) _⟩

end Go.Proofs.YtihdnfhclocndaaGreatDoor
namespace Go.Proofs.YtihdnfhclocndaaGreatDoor
open Go.RowKit W

/-- What lies in the blocks that a function laid for itself. -/
structure Two (w W0 : World) (us vs : Array Value) (t t' : TypeId) : Prop where
  b1 : W0.heap[w.heap.size]? = some (.cells us t (0, 0))
  b2 : W0.heap[w.heap.size + 1]? = some (.cells vs t' (0, 0))
  below : Below w.heap.size w W0
  size : w.heap.size + 2 ≤ W0.heap.size

theorem two_new (w : World) (us vs : Array Value) (t t' : TypeId) : Two w ((w.alloc (.cells us t)).alloc (.cells vs t')) us vs t t' := by
  have hs : (w.alloc (.cells us t)).heap.size = w.heap.size + 1 := by simp
  refine ⟨?_, ?_, ((Below.refl _ _).alloc (Nat.le_refl _) _).alloc (by rw [hs]; omega) _, by simp⟩
  · rw [show ((w.alloc (.cells us t)).alloc (.cells vs t')).heap[w.heap.size]? = (w.alloc (.cells us t)).heap[w.heap.size]? from ((Below.refl _ _).alloc (Nat.le_refl _) _).block _ (by simp)]
    exact heap_alloc_new w _
  · rw [← hs]; exact heap_alloc_new _ _

theorem Two.under {w W0 w1 : World} {us vs : Array Value} {t t' : TypeId} (h : Two w W0 us vs t t') (hb : Below W0.heap.size W0 w1) : Two w w1 us vs t t' := by
  have hz := h.size
  exact ⟨(hb.block _ (by omega)).trans h.b1, (hb.block _ (by omega)).trans h.b2, h.below.trans (hb.mono (by omega)), Nat.le_trans h.size hb.size⟩

theorem Two.c1 {w W0 : World} {us vs : Array Value} {t t' : TypeId} (h : Two w W0 us vs t t') (k : Nat) : W0.cell? ⟨w.heap.size, k, none⟩ = us[k]? := by
  unfold World.cell?; rw [h.b1]; rfl
theorem Two.c2 {w W0 : World} {us vs : Array Value} {t t' : TypeId} (h : Two w W0 us vs t t') (k : Nat) : W0.cell? ⟨w.heap.size + 1, k, none⟩ = vs[k]? := by
  unfold World.cell?; rw [h.b2]; rfl
theorem Two.f2 {w W0 : World} {us vs : Array Value} {t t' : TypeId} (h : Two w W0 us vs t t') (k : Nat) : W0.frozen? ⟨w.heap.size + 1, k, none⟩ = false := frozen_of_row _ _ k _ _ h.b2

theorem set3 {W : World} {g : Nat} {u0 u1 u2 : Value} (a b c : Value) (h0 : W.cell? ⟨g, 0, none⟩ = some u0) (h1 : W.cell? ⟨g, 1, none⟩ = some u1) (h2 : W.cell? ⟨g, 2, none⟩ = some u2) :
    (((W.setCell ⟨g, 0, none⟩ a).setCell ⟨g, 1, none⟩ b).setCell ⟨g, 2, none⟩ c).cell? ⟨g, 0, none⟩ = some a ∧
    (((W.setCell ⟨g, 0, none⟩ a).setCell ⟨g, 1, none⟩ b).setCell ⟨g, 2, none⟩ c).cell? ⟨g, 1, none⟩ = some b ∧
    (((W.setCell ⟨g, 0, none⟩ a).setCell ⟨g, 1, none⟩ b).setCell ⟨g, 2, none⟩ c).cell? ⟨g, 2, none⟩ = some c := by
  refine ⟨?_, ?_, ?_⟩
  · rw [cell_other (by omega), cell_other (by omega), cell_same h0]
  · rw [cell_other (by omega), cell_same (u := u1)]
    rw [cell_other (by omega), h1]
  · rw [cell_same (u := u2)]
    rw [cell_other (by omega), cell_other (by omega), h2]

theorem Rd.store3 {W : World} {A : Option Addr} {xs : List Nat} (h : Rd W A xs) {g : Nat} (a b c : Value) (hg : ∀ k, ∀ v, W.cell? ⟨g, k, none⟩ = some v → ∀ i, v ≠ .int .u32 i) :
    Rd (((W.setCell ⟨g, 0, none⟩ a).setCell ⟨g, 1, none⟩ b).setCell ⟨g, 2, none⟩ c) A xs := by
  intro hn
  obtain ⟨b', o, rfl, hcell⟩ := h hn
  have hne : b' ≠ g := by
    rintro rfl
    exact hg _ _ (hcell 0 hn) _ rfl
  exact ⟨b', o, rfl, fun j hj => by
    rw [World.cell?_setCell_other _ _ _ _ (fun e => hne (congrArg Addr.block e).symm), World.cell?_setCell_other _ _ _ _ (fun e => hne (congrArg Addr.block e).symm), World.cell?_setCell_other _ _ _ _ (fun e => hne (congrArg Addr.block e).symm)]
    exact hcell j hj⟩

set_option maxRecDepth 100000 in
set_option maxHeartbeats 1000000 in
theorem exactMake_pos (neg : Bool) (A : Option Addr) (n : Nat) (w : World) (hG : Glob w) (h : Rd w A (ofN n)) (h0 : n ≠ 0) (hn : n < 18446744073709551616) :
    Calls Tryz.prog 209 #[.bool neg, natV A n, .int .i64 0] w fun e w' =>
      ∃ A', e = .returned (.tuple #[.agg #[.bool neg, .slice A' (ofN (n / 2 ^ tz n)).length (ofN (n / 2 ^ tz n)).length, .int .i64 (tz n : Int)], .int .i64 0]) ∧ Below w.heap.size w w' ∧ Rd w' A' (ofN (n / 2 ^ tz n)) := by
  have hl : (ofN n).length ≤ 2 := length_ofN_le (by omega)
  have hl0 : 0 < (ofN n).length := by
    rcases Nat.eq_zero_or_pos (ofN n).length with h1 | h1
    · exact absurd (ofN_eq_nil.1 (List.eq_nil_of_length_eq_zero h1)) h0
    · exact h1
  have htz : tz n < 64 := by
    obtain ⟨m, hm⟩ := tz_spec h0
    rcases Nat.lt_or_ge (tz n) 64 with h1 | h1
    · exact h1
    · have h2 := Nat.pow_le_pow_right (n := 2) (by omega) h1
      have h3 : 2 ^ tz n * 1 ≤ 2 ^ tz n * (2 * m + 1) := Nat.mul_le_mul_left _ (by omega)
      omega
  have HTW := Lib.hid (two_new w #[.slice A (ofN n).length (ofN n).length] #[.bool false, .slice none 0 0, .int .i64 0] 44 55)
  unfold natV
  have hnz : decide ((ofN n).length = 0) = false := by simpa using (by omega : ¬ (ofN n).length = 0)
  have HR := Lib.hid (h.below HTW.out.below)
  have HG := Lib.hid (hG.under HTW.out.below)
  clear h hG
  go_enter Tryz.func209, Tryz.ntmps209
  go_wp2_with fail
  generalize (w.alloc (.cells #[.slice A (ofN n).length (ofN n).length] 44)).alloc (.cells #[.bool false, .slice none 0 0, .int .i64 0] 55) = W0 at *
  have C := Lib.hid (natCheck_any A (ofN n) (ofN n).length W0 HR.out (small_ofN n) (by simp [maxLen]; omega))
  rw [natCheck_norm (norm_ofN n) (by omega)] at C
  with_reducible refine C.out.mono ?_
  rintro e w1 ⟨rfl, hb1⟩
  have TW1 := Lib.hid (HTW.out.under hb1)
  have HR1 := Lib.hid (HR.out.below hb1)
  have HG1 := Lib.hid (HG.out.under hb1)
  clear hb1 C HTW HR HG
  have c1 : w1.cell? ⟨w.heap.size, 0, none⟩ = some (.slice A (ofN n).length (ofN n).length) := TW1.out.c1 0
  have T := Lib.hid (none_any A (ofN n).length (ofN n).length w1)
  rw [hnz] at T
  go_wp2_with fail
  with_reducible refine T.out.mono ?_
  rintro e w2 ⟨rfl, hb2⟩
  have TW2 := Lib.hid (TW1.out.under hb2)
  have HR2 := Lib.hid (HR1.out.below hb2)
  have HG2 := Lib.hid (HG1.out.under hb2)
  clear hb2 T TW1 HR1 HG1 c1
  have c1 : w2.cell? ⟨w.heap.size, 0, none⟩ = some (.slice A (ofN n).length (ofN n).length) := TW2.out.c1 0
  have T := Lib.hid (even_any A (ofN n) (ofN n).length w2 HG2.out HR2.out (norm_ofN n) hl0 (by omega))
  rw [wv_ofN] at T
  go_wp2_with fail
  with_reducible refine T.out.mono ?_
  rintro e w3 ⟨rfl, hb3⟩
  have TW3 := Lib.hid (TW2.out.under hb3)
  have HR3 := Lib.hid (HR2.out.below hb3)
  clear hb3 T TW2 HR2 HG2 c1
  have c1 : w3.cell? ⟨w.heap.size, 0, none⟩ = some (.slice A (ofN n).length (ofN n).length) := TW3.out.c1 0
  have T := Lib.hid (far_any (tz n : Int) w3)
  rw [decide_eq_false (show ¬ (tz n : Int) < -1073741824 by omega), decide_eq_false (show ¬ 1073741824 < (tz n : Int) by omega)] at T
  go_wp2_with fail
  with_reducible refine T.out.mono ?_
  rintro e w' ⟨rfl, rfl⟩
  clear T
  have T := Lib.hid (natDown_any A (ofN n) (ofN n).length (tz n) w3 HR3.out (norm_ofN n) (by omega) (Nat.le_refl _) (by simp [maxLen]; omega) (by omega))
  rw [wv_ofN] at T
  go_wp2_with fail
  with_reducible refine T.out.mono ?_
  rintro e w4 ⟨A', rfl, hb4, hr4⟩
  have TW4 := Lib.hid (TW3.out.under hb4)
  have HR4 := Lib.hid hr4
  clear hb4 hr4 T TW3 HR3 c1
  unfold natV
  have TW5 := Lib.hid (TW4.out.under ((Below.refl _ w4).alloc (Nat.le_refl _) (.cells #[.slice A' (ofN (n / 2 ^ tz n)).length (ofN (n / 2 ^ tz n)).length] 44)))
  have d0 : (w4.alloc (.cells #[.slice A' (ofN (n / 2 ^ tz n)).length (ofN (n / 2 ^ tz n)).length] 44)).cell? ⟨w.heap.size + 1, 0, none⟩ = some (.bool false) := TW5.out.c2 0
  have d1 : (w4.alloc (.cells #[.slice A' (ofN (n / 2 ^ tz n)).length (ofN (n / 2 ^ tz n)).length] 44)).cell? ⟨w.heap.size + 1, 1, none⟩ = some (.slice none 0 0) := TW5.out.c2 1
  have d2 : (w4.alloc (.cells #[.slice A' (ofN (n / 2 ^ tz n)).length (ofN (n / 2 ^ tz n)).length] 44)).cell? ⟨w.heap.size + 1, 2, none⟩ = some (.int .i64 0) := TW5.out.c2 2
  have f0 := TW5.out.f2 0
  have f1 := TW5.out.f2 1
  have f2 := TW5.out.f2 2
  go_wp2
  obtain ⟨e0, e1, e2⟩ := set3 (.bool neg) (.slice A' (ofN (n / 2 ^ tz n)).length (ofN (n / 2 ^ tz n)).length) (.int .i64 (tz n : Int)) d0 d1 d2
  refine bodyPost_ret (v := .tuple #[.agg #[.bool neg, .slice A' (ofN (n / 2 ^ tz n)).length (ofN (n / 2 ^ tz n)).length, .int .i64 (tz n : Int)], .int .i64 0]) (by simp [results, Tryz.results209, go_sem, e0, e1, e2]) rfl ?_
  refine ⟨A', rfl, ((TW5.out.below.setCell (by simp) _).setCell (by simp) _).setCell (by simp) _, ?_⟩
  refine Rd.store3 (HR4.out.below ((Below.refl _ _).alloc (Nat.le_refl _) _)) _ _ _ ?_
  intro k v hv i hvi
  rw [TW5.out.c2 k] at hv
  match k, hv with
  | 0, hv => cases hv; cases hvi
  | 1, hv => cases hv; cases hvi
  | 2, hv => cases hv; cases hvi

end Go.Proofs.YtihdnfhclocndaaGreatDoor
