/- numeral/big: the words' functions: mulSmall. numeral/big: the words' functions: mulWords. -/
import Derived.Test.YtihdnfhclocndaaGreatDoorQs6
import Derived.Deep.RegionWith
namespace Go.Proofs.YtihdnfhclocndaaGreatDoor
open Go.RowKit W

theorem Res.loc {base : Nat} {w : World} {v : Value} {xs : List Nat} (h : Res base w v xs) (hs : Small xs) : (v = .slice none 0 0 ∧ xs = []) ∨ ∃ g m, v = .slice (some ⟨g, 0, none⟩) xs.length m ∧ Loc base w g xs.length m xs := by
  rcases h.2 with ⟨rfl, h0⟩ | ⟨g, cap, cur, rfl, r⟩
  · exact .inl ⟨rfl, List.eq_nil_of_length_eq_zero h0⟩
  · exact .inr ⟨g, cap, rfl, rfl, hs, h.1, .inr ⟨g, cap, cur, rfl, r⟩⟩

theorem mul_small_end {zs xs : List Nat} {m c carry : Nat} (hl : zs.length = xs.length) (h : wv (zs.take xs.length) + carry * 4294967296 ^ xs.length = wv (xs.take xs.length) * m + c) :
    wv zs + carry * 4294967296 ^ zs.length = wv xs * m + c := by
  rw [wv_take_all (by omega), wv_take_all (Nat.le_refl _)] at h
  rw [hl]; exact h

theorem mul_place {xs zs : List Nat} {m c c0 k t : Nat} (hz : k < zs.length) (h : wv (zs.take k) + c * 4294967296 ^ k = wv (xs.take k) * m + c0)
    (ht : t = nth xs k * m + c) :
    wv ((zs.set k (t % 4294967296)).take (k + 1)) + t / 4294967296 * 4294967296 ^ (k + 1) = wv (xs.take (k + 1)) * m + c0 := by
  have hl : (zs.take k).length = k := by rw [List.length_take]; omega
  have := mul_round (os := zs.take k) (xs := xs) (m := m) (c := c) (c0 := c0) (t := t) (by rw [hl]; exact h) (by rw [hl]; exact ht)
  rw [List.length_append, List.length_singleton, hl] at this
  rw [take_set_snoc _ hz]; exact this

/-- No carry: the words are those of the number. -/
theorem mul_small_norm {zs xs : List Nat} {m c : Nat} (hn : Norm xs) (hm : 1 ≤ m) (hs : Small zs) (hl : zs.length = xs.length) (h : wv zs + 0 * 4294967296 ^ zs.length = wv xs * m + c) : zs = ofN (wv xs * m + c) := by
  have h' : wv zs = wv xs * m + c := by omega
  rw [← h']
  symm
  apply ofN_wv
  refine norm_of_le hs ?_
  by_cases h0 : xs = []
  · left; apply List.eq_nil_of_length_eq_zero; rw [hl, h0]; rfl
  · right
    have h1 := norm_ge hn h0
    rw [hl, h']
    have := Nat.mul_le_mul_left (wv xs) hm
    omega

/-- A carry: one word more. -/
theorem mul_small_more {zs xs : List Nat} {m c carry : Nat} (hs : Small zs) (h0 : 0 < carry) (hc : carry < 4294967296) (h : wv zs + carry * 4294967296 ^ zs.length = wv xs * m + c) : zs ++ [carry] = ofN (wv xs * m + c) := by
  have h' : wv (zs ++ [carry]) = wv xs * m + c := by rw [wv_snoc, Nat.mul_comm, h]
  rw [← h']
  symm
  apply ofN_wv
  refine norm_of_le (small_append.2 ⟨hs, small_cons.2 ⟨hc, small_nil⟩⟩) (.inr ?_)
  rw [wv_snoc, List.length_append, List.length_singleton, Nat.add_sub_cancel]
  have := Nat.mul_le_mul_left (4294967296 ^ zs.length) h0
  omega

set_option maxRecDepth 100000 in
set_option maxHeartbeats 400000 in
theorem mulSmall_loc (base g n r : Nat) (xs : List Nat) (m c : Nat) (w : World) (hL0 : Loc base w g n r xs) (hn : Norm xs) (hb : base ≤ w.heap.size) (hm1 : 1 ≤ m) (hm : m < 4294967296) (hc : c < 4294967296)
    (hlen : n ≤ 549755813888) :
    Calls Tryz.prog 219 #[.slice (some ⟨g, 0, none⟩) n r, .int .u32 (m : Int), .int .u32 (c : Int)] w fun e w' =>
      ∃ v, e = .returned v ∧ Below base w w' ∧ Res base w' v (ofN (wv xs * m + c)) := by
  obtain ⟨i0, hi, hz0, hz1, hz2⟩ := info_parts Tryz.infoU32
  have hx0 := hL0.len
  have hbg := hL0.base_le
  go_enter Tryz.func219, Tryz.ntmps219
  go_wp2
  go_loopw [7, 8, 9] (fun q i _ wr => ∃ (k carry : Nat) (zs : List Nat), k ≤ n ∧ i = .int .i64 k ∧ q = .int .u64 carry ∧ carry < 4294967296 ∧
      Loc base wr g n r zs ∧ Below base w wr ∧ Hid (∀ j, k ≤ j → nth zs j = nth xs j) ∧
      Hid (wv (zs.take k) + carry * 4294967296 ^ k = wv (xs.take k) * m + c)) (fun _ i _ _ => n - (intOf i).toNat)
  case atStart => exact ⟨0, c, xs, by omega, rfl, rfl, hc, hL0, Below.refl _ _, fun _ _ => rfl, by show _ + _ = _; simp [wv]⟩
  case round =>
    obtain ⟨k, carry, zs, hk, rfl, rfl, hca, hL, hB, hS, hI⟩ := hrel
    by_cases hlt : k < n
    · have hz := hL.cell (k := k) hlt
      have hf := hL.frozen k
      have HE := Lib.hid (hS.out k (Nat.le_refl _))
      have bz := nth_lt hL.small k
      obtain ⟨p0, p1⟩ := mul_bd _ _ bz hm
      have hq : nth zs k * m + carry < 18446744073709551616 := by have := mul_word_lt (o := 0) bz hm (by omega) hca; omega
      have HQ := Lib.hid hq; clear hq
      go_wp2
      go_roundw
      case rel =>
        have hq := HQ.out
        refine ⟨k + 1, (nth zs k * m + carry) / 4294967296, zs.set k ((nth zs k * m + carry) % 4294967296), by omega, by go_num, congrArg (Value.int IntKind.u64) (by simp), by omega, hL.put k (by simp) (by omega), hB.setCell hbg _, ?_, ?_⟩
        · intro j hj
          rw [nth_set_ne _ (by omega)]
          exact hS.out j (by omega)
        · exact mul_place (by have := hL.len; omega) hI.out (by rw [HE.out])
      case measure => simp [intOf]; omega
    · obtain rfl : k = n := by omega
      have hI' : wv zs + carry * 4294967296 ^ zs.length = wv xs * m + c := mul_small_end (by rw [hL.len, hx0]) (by have := hI.out; rw [← hx0] at this; exact this)
      have HI := Lib.hid hI'
      clear hI hI' hS
      rcases Nat.eq_zero_or_pos carry with h0 | h0
      · subst h0
        have HN := Lib.hid (mul_small_norm hn hm1 hL.small (by rw [hL.len, hx0]) HI.out)
        have HL := Lib.hid hL
        have HB := Lib.hid hB
        clear hL hB hL0 hx0
        go_wp2
        go_ret
        refine ⟨_, rfl, HB.out, ?_⟩
        rw [← HN.out]
        exact HL.out.res
      · have HN := Lib.hid (mul_small_more hL.small h0 hca HI.out)
        have hown := hL.2.2
        have HL := Lib.hid hL
        have hsz := hB.size
        have HX := Lib.hid hx0
        clear hL hL0 hx0
        go_wp2_with (at_builtin; refine wpList_append_own _ rfl (.tmp 37) (.tmp 40) 42 rfl base tU32 i0 (.int .u32 0) 1 4 Tryz.underlying42 hi hz0 hz1 hz2 rfl (by decide) _ _ _ rfl (hown.alloc _) ⟨wr.heap.size, 0, none⟩ 1 1 [.int .u32 (carry : Int)] rfl rfl ?c1 ?c2 ?c3 ?c4 ?c5 ?_)
        case c1 =>
          intro j u hj
          match j, hj with
          | 0, hj => simp at hj; subst hj; simp [Addr.add]
        case c2 => intro u hu; simp at hu; subst hu; rfl
        case c3 => simp [maxLen]; omega
        case c4 => omega
        case c5 => simp; omega
        intro v1 w1 hown1 hgrow1 _
        have HO := Lib.hid hown1
        have hB1 : Below base w w1 := (hB.alloc (by omega) (.cells #[.int .u32 (carry : Int)] tU32)).grown hgrow1 (by simp; omega) (fun k hk => by simp [Value.ownBlock] at hk; omega)
        have HB := Lib.hid hB1
        clear hown1 hgrow1 hB1 hown hB
        go_wp2
        go_ret
        refine ⟨_, rfl, HB.out, ?_⟩
        rw [← HN.out]
        have h := HO.out
        have e : u32l (zs ++ [carry]) = u32l zs ++ [.int .u32 (carry : Int)] := by simp [u32l]
        unfold Res
        rw [e, List.length_append, HL.out.len]
        exact h

set_option maxRecDepth 100000 in
set_option maxHeartbeats 400000 in
theorem mulSmall_nil (base m c : Nat) (w : World) (hb : base ≤ w.heap.size) (hc : c < 4294967296) :
    Calls Tryz.prog 219 #[.slice none 0 0, .int .u32 (m : Int), .int .u32 (c : Int)] w fun e w' =>
      ∃ v, e = .returned v ∧ Below base w w' ∧ Res base w' v (ofN c) := by
  obtain ⟨i0, hi, hz0, hz1, hz2⟩ := info_parts Tryz.infoU32
  have hown : w.ownsRow base tU32 1 (.slice none 0 0) 0 [] := ⟨rfl, .inl ⟨rfl, rfl⟩⟩
  rcases Nat.eq_zero_or_pos c with h0 | h0
  · subst h0
    go_enter Tryz.func219, Tryz.ntmps219
    go_wp2
    go_loopw [7, 8, 9] (fun q i _ wr => i = .int .i64 0 ∧ q = .int .u64 0 ∧ wr = w) (fun _ _ _ _ => 0)
    case atStart => exact ⟨rfl, rfl, rfl⟩
    case round =>
      obtain ⟨rfl, rfl, rfl⟩ := hrel
      go_wp2
      go_ret
      refine ⟨_, rfl, Below.refl _ _, ?_⟩
      rw [ofN_zero]; exact hown
  · have HC : Hid (ofN c = [c]) := by
      show ofN c = [c]
      rw [ofN_pos (by omega), Nat.div_eq_of_lt hc, Nat.mod_eq_of_lt hc, ofN_zero]
    go_enter Tryz.func219, Tryz.ntmps219
    go_wp2
    go_loopw [7, 8, 9] (fun q i _ wr => i = .int .i64 0 ∧ q = .int .u64 c ∧ wr = w) (fun _ _ _ _ => 0)
    case atStart => exact ⟨rfl, rfl, rfl⟩
    case round =>
      obtain ⟨rfl, rfl, rfl⟩ := hrel
      go_wp2_with (at_builtin; refine wpList_append_own _ rfl (.tmp 37) (.tmp 40) 42 rfl base tU32 i0 (.int .u32 0) 1 4 Tryz.underlying42 hi hz0 hz1 hz2 rfl (by decide) _ _ _ rfl (hown.alloc _) ⟨wr.heap.size, 0, none⟩ 1 1 [.int .u32 (c : Int)] rfl rfl ?c1 ?c2 ?c3 ?c4 ?c5 ?_)
      case c1 =>
        intro j u hj
        match j, hj with
        | 0, hj => simp at hj; subst hj; simp [Addr.add]
      case c2 => intro u hu; simp at hu; subst hu; rfl
      case c3 => simp [maxLen]
      case c4 => omega
      case c5 => simp; omega
      intro v1 w1 hown1 hgrow1 _
      have HO := Lib.hid hown1
      have hB1 : Below base wr w1 := ((Below.refl _ _).alloc (by omega) (.cells #[.int .u32 (c : Int)] tU32)).grown hgrow1 (by simp; omega) (fun k hk => by simp [Value.ownBlock] at hk)
      have HB := Lib.hid hB1
      clear hown1 hgrow1 hB1 hown
      go_wp2
      go_ret
      refine ⟨_, rfl, HB.out, ?_⟩
      rw [HC.out]
      exact HO.out

theorem mulSmall_any (base : Nat) (v : Value) (xs : List Nat) (m c : Nat) (w : World) (hR : Res base w v xs) (hn : Norm xs) (hb : base ≤ w.heap.size) (hm1 : 1 ≤ m) (hm : m < 4294967296) (hc : c < 4294967296)
    (hlen : xs.length ≤ 549755813888) :
    Calls Tryz.prog 219 #[v, .int .u32 (m : Int), .int .u32 (c : Int)] w fun e w' =>
      ∃ v, e = .returned v ∧ Below base w w' ∧ Res base w' v (ofN (wv xs * m + c)) := by
  rcases hR.loc hn.1 with ⟨rfl, rfl⟩ | ⟨g, r, rfl, hL⟩
  · have := mulSmall_nil base m c w hb hc
    simpa [wv] using this
  · exact mulSmall_loc base g _ r xs m c w hL hn hb hm1 hm hc hlen

end Go.Proofs.YtihdnfhclocndaaGreatDoor
namespace Go.Proofs.YtihdnfhclocndaaGreatDoor
open Go.RowKit W

theorem trim_len (A : Option Addr) (xs : List Nat) (n c : Nat) (w : World) (hn : xs.length = n) (h : Rd w A xs) (hs : Small xs) (hc : n ≤ c) (hm : c ≤ maxLen) :
    Calls Tryz.prog 194 #[.slice A n c] w fun e w' => e = .returned (.slice A (tl xs) c) ∧ w = w' := by
  subst hn; exact trim_any A xs c w h hs hc hm

theorem addWords_len (A1 A2 : Option Addr) (xs ys : List Nat) (n1 n2 c1 c2 : Nat) (w : World) (e1 : xs.length = n1) (e2 : ys.length = n2) (h1 : Rd w A1 xs) (h2 : Rd w A2 ys) (s1 : Small xs) (s2 : Small ys)
    (hm : n1 ≤ 549755813888) (hm2 : n2 ≤ 549755813888) :
    Calls Tryz.prog 216 #[.slice A1 n1 c1, .slice A2 n2 c2] w (Gives w (ofN (wv xs + wv ys))) := by
  subst e1; subst e2; exact addWords_any A1 A2 xs ys c1 c2 w h1 h2 s1 s2 hm hm2

theorem Res.off {base g : Nat} {w : World} {A : Option Addr} {n c : Nat} {xs : List Nat} (h : Res base w (.slice A n c) xs) (hg : g < base) : Off A g := by
  intro p hp
  subst hp
  rcases h.2 with ⟨h', _⟩ | ⟨g', cap, cur, h', hb, _⟩
  · simp at h'
  · simp only [Value.slice.injEq, Option.some.injEq] at h'
    rw [h'.1]
    simp; omega

theorem Rd.sub {w : World} {b o : Nat} {xs : List Nat} (h : Rd w (some ⟨b, o, none⟩) xs) (k m : Nat) : Rd w (some ⟨b, o + k, none⟩) ((xs.drop k).take m) := by
  intro hn
  have hk : k < xs.length := by
    rw [List.length_take, List.length_drop] at hn; omega
  obtain ⟨b', o', e, hc⟩ := h (by omega)
  simp only [Option.some.injEq, Addr.mk.injEq, and_true] at e
  obtain ⟨rfl, rfl⟩ := e
  refine ⟨b, o + k, rfl, fun j hj => ?_⟩
  rw [List.length_take, List.length_drop] at hj
  rw [Nat.add_assoc, hc (k + j) (by omega)]
  congr 3
  unfold nth
  rw [List.getD_eq_getElem?_getD, List.getD_eq_getElem?_getD, List.getElem?_take_of_lt (by omega), List.getElem?_drop]

theorem Rd.take {w : World} {A : Option Addr} {xs : List Nat} (h : Rd w A xs) (k : Nat) : Rd w A (xs.take k) := by
  intro hn
  rw [List.length_take] at hn
  obtain ⟨b, o, rfl, hc⟩ := h (by omega)
  refine ⟨b, o, rfl, fun j hj => ?_⟩
  rw [List.length_take] at hj
  rw [hc j (by omega)]
  congr 3
  unfold nth
  rw [List.getD_eq_getElem?_getD, List.getD_eq_getElem?_getD, List.getElem?_take_of_lt (by omega)]

theorem Rd.trimmed {w : World} {A : Option Addr} {xs : List Nat} (h : Rd w A xs) (hs : Small xs) : Rd w A (ofN (wv xs)) := by
  rw [← take_tl hs]; exact h.take _

/-- trim of a part of a slice. -/
theorem trim_part {w : World} {b o : Nat} {xs : List Nat} (h : Rd w (some ⟨b, o, none⟩) xs) (hs : Small xs) (k m c : Nat) (hm : k + m ≤ xs.length) (hc : m ≤ c) (hcm : c ≤ maxLen) :
    Calls Tryz.prog 194 #[.slice (some ⟨b, o + k, none⟩) m c] w fun e w' => e = .returned (.slice (some ⟨b, o + k, none⟩) (ofN (wv ((xs.drop k).take m))).length c) ∧ w = w' :=
  trim_len _ _ m c w (by rw [List.length_take, List.length_drop]; omega) (h.sub k m) ((hs.drop k).take m) hc hcm

/-- The contract of mulWords for lists of at most K words together. -/
def MulSaid (K : Nat) : Prop := ∀ (A1 A2 : Option Addr) (xs ys : List Nat) (n1 n2 c1 c2 : Nat) (w : World), xs.length = n1 → ys.length = n2 → n1 + n2 ≤ K → Rd w A1 xs → Rd w A2 ys → Norm xs → Norm ys →
    n1 ≤ c1 → n2 ≤ c2 → c1 ≤ maxLen → c2 ≤ maxLen →
    Calls Tryz.prog 176 #[.slice A1 n1 c1, .slice A2 n2 c2] w (Gives w (ofN (wv xs * wv ys)))

set_option maxRecDepth 100000 in
set_option maxHeartbeats 400000 in
theorem mul_few (A1 A2 : Option Addr) (xs ys : List Nat) (c1 c2 : Nat) (w : World) (h1 : Rd w A1 xs) (h2 : Rd w A2 ys) (s1 : Small xs) (s2 : Small ys)
    (hl : ys.length ≤ xs.length) (hm : xs.length ≤ 549755813888) (hf : ys.length < 40) :
    Calls Tryz.prog 176 #[.slice A1 xs.length c1, .slice A2 ys.length c2] w (Gives w (ofN (wv xs * wv ys))) := by
  have hl' : ¬ ((xs.length : Int) < (ys.length : Int)) := by omega
  go_enter Tryz.func176, Tryz.ntmps176
  go_wp2_with (go_at_call 234; refine (plain_any _ _ xs ys _ _ _ h1 h2 s1 s2 hm (by omega)).mono ?_; rintro e w' ⟨A, c, rfl, hb, hr⟩)
  go_ret
  exact ⟨_, _, rfl, hb, hr⟩

set_option maxRecDepth 100000 in
set_option maxHeartbeats 400000 in
theorem mul_long (K : Nat) (ih : Hid (MulSaid K)) (A1 A2 : Option Addr) (xs ys : List Nat) (c1 c2 : Nat) (w : World) (h1 : Rd w A1 xs) (h2 : Rd w A2 ys) (s1 : Norm xs) (s2 : Norm ys)
    (hl : ys.length ≤ xs.length) (hm : xs.length ≤ 549755813888) (hf : 40 ≤ ys.length) (hg : 2 * ys.length ≤ xs.length) (hK : xs.length + ys.length ≤ K + 1) (hc1 : xs.length ≤ c1) (hc2 : ys.length ≤ c2) (hm1 : c1 ≤ maxLen) (hm2 : c2 ≤ maxLen) :
    Calls Tryz.prog 176 #[.slice A1 xs.length c1, .slice A2 ys.length c2] w (Gives w (ofN (wv xs * wv ys))) := by
  have hl' : ¬ ((xs.length : Int) < (ys.length : Int)) := by omega
  have hf' : ¬ ((ys.length : Int) < 40) := by omega
  have hg' : (2 : Int) * (ys.length : Int) ≤ (xs.length : Int) := by omega
  have hmk := fun w : World => make_u32 w ((xs.length : Int) + (ys.length : Int) + 1) (by omega) (by omega)
  have hcm : c1 ≤ 9223372036854775807 := by simpa [maxLen] using hm1
  obtain ⟨b, o, rfl, hx⟩ := h1 (by omega)
  clear hx
  go_enter Tryz.func176, Tryz.ntmps176
  go_wp2
  go_loopw [6] (fun i wr => ∃ (k : Nat) (zs : List Nat), k ≤ xs.length + ys.length ∧ i = .int .i64 k ∧
      Loc w.heap.size wr w.heap.size (xs.length + ys.length + 1) (xs.length + ys.length + 1) zs ∧ Below w.heap.size w wr ∧
      Hid (wv zs = wv (xs.take k) * wv ys)) (fun i _ => xs.length - (intOf i).toNat)
  case atStart => exact ⟨0, _, by omega, rfl, Loc.new w (Nat.le_refl _) (by omega), (Below.refl _ _).alloc (Nat.le_refl _) _, by show wv _ = wv _ * wv _; rw [wv_replicate]; simp [wv]⟩
  case round =>
    obtain ⟨k, zs, hk, rfl, hL, hB, hI⟩ := hrel
    by_cases hlt : k < xs.length
    · by_cases hfit : k + ys.length ≤ xs.length
      · have hmin : min ((k : Int) + (ys.length : Int)) (xs.length : Int) = (k : Int) + (ys.length : Int) := by omega
        have hle : ys.length ≤ ys.length := by omega
        have hkm : k + ys.length ≤ xs.length := by omega
        have hpos : 1 ≤ ys.length := by omega
        have HM := Lib.hid (show ys.length = ys.length ∨ k + ys.length = xs.length from .inl rfl)
        have hR := h1.below hB
        have hT := trim_part hR s1.1 k (ys.length) (c1 - k) hkm (by omega) (by simp [maxLen]; omega)
        have sp : Small ((xs.drop k).take (ys.length)) := (s1.1.drop k).take _
        have hlp : (ofN (wv ((xs.drop k).take (ys.length)))).length ≤ ys.length := length_ofN_le (by have := wv_lt sp; rwa [List.length_take, List.length_drop, Nat.min_eq_left (by omega)] at this)
        have hMul := ih.out _ _ _ _ _ _ (c1 - k) c2 wr rfl rfl (show (ofN (wv ((xs.drop k).take (ys.length)))).length + ys.length ≤ K by omega) ((hR.sub k (ys.length)).trimmed sp) (h2.below hB) (norm_ofN _) s2 (by omega) hc2 (by simp [maxLen]; omega) hm2
        rw [wv_ofN] at hMul
        have hP := Lib.hid (piece_step (ys := ys) hkm HM.out)
        generalize wv ((xs.drop k).take (ys.length)) = V at hT hMul hlp hP
        have hfitN : wv zs + 4294967296 ^ k * (V * wv ys) < 4294967296 ^ (xs.length + ys.length + 1) := by
          have h3 := hP.out
          rw [← hI.out] at h3
          rcases h3 with h3 | h3
          · rw [h3]
            have h4 := wv_lt (s1.1.take (k + ys.length))
            have h5 := wv_lt s2.1
            have h6 : 4294967296 ^ (xs.take (k + ys.length)).length ≤ 4294967296 ^ xs.length := Nat.pow_le_pow_right (by omega) (by rw [List.length_take]; omega)
            have h7 : wv (xs.take (k + ys.length)) * wv ys < 4294967296 ^ xs.length * 4294967296 ^ ys.length := Nat.mul_lt_mul'' (by omega) h5
            rw [← Nat.pow_add] at h7
            have h8 := Nat.pow_le_pow_right (n := 4294967296) (by omega) (show xs.length + ys.length ≤ xs.length + ys.length + 1 by omega)
            omega
          · omega
        have HF := Lib.hid hfitN
        have HLw := hL.lt
        have HL := Lib.hid hL
        have HB := Lib.hid hB
        have hlp2 : k + (ofN (V * wv ys)).length ≤ xs.length + ys.length + 1 := by
          by_cases h0 : V * wv ys = 0
          · rw [h0, ofN_zero]; simp; omega
          · exact fit_len (by have := hfitN; omega) h0
        clear hfitN hL hB
        go_wp2_with fail
        refine hT.mono ?_; rintro e w' ⟨rfl, rfl⟩
        go_wp2_with fail
        refine hMul.mono ?_; rintro e w2 ⟨A, c, rfl, hb2, hr2, hc3, hc4, hrd2⟩
        have hL2 := HL.out.below hb2 HLw
        have hA := addAt_any w.heap.size w.heap.size _ _ _ A _ c k w2 hL2 hrd2 (small_ofN _) (hr2.off HLw) (by omega) hlp2 (by rw [wv_ofN]; exact HF.out)
        rw [wv_ofN] at hA
        have HB2 := Lib.hid ((HB.out.trans (hb2.mono HB.out.size)))
        have HS := HB.out.size
        have hs2 := hb2.size
        clear hb2 hr2 hrd2 hL2
        go_wp2_with fail
        refine hA.mono ?_; rintro e w3 ⟨rfl, hg3, zs3, hL3, hv3⟩
        have HV := Lib.hid hv3
        have HL3 := Lib.hid hL3
        have HB3 := Lib.hid (grown_below HB2.out hg3 (by omega) (Nat.le_refl _))
        clear hv3 hL3 hg3
        go_wp2
        go_roundw
        case rel =>
          refine ⟨k + ys.length, zs3, by omega, by go_num, HL3.out, HB3.out, ?_⟩
          show wv zs3 = _
          rw [HV.out, hI.out]
          rcases hP.out with h | h
          · exact h
          · omega
        case measure => simp [intOf]; omega
      · have hfit' : (xs.length : Int) < (k : Int) + (ys.length : Int) := by omega
        have hmin : min ((k : Int) + (ys.length : Int)) (xs.length : Int) = (xs.length : Int) := by omega
        have hle : (xs.length - k) ≤ ys.length := by omega
        have hkm : k + (xs.length - k) ≤ xs.length := by omega
        have hpos : 1 ≤ (xs.length - k) := by omega
        have HM := Lib.hid (show (xs.length - k) = ys.length ∨ k + (xs.length - k) = xs.length from .inr (by omega))
        have hR := h1.below hB
        have hT := trim_part hR s1.1 k ((xs.length - k)) (c1 - k) hkm (by omega) (by simp [maxLen]; omega)
        have sp : Small ((xs.drop k).take ((xs.length - k))) := (s1.1.drop k).take _
        have hlp : (ofN (wv ((xs.drop k).take ((xs.length - k))))).length ≤ (xs.length - k) := length_ofN_le (by have := wv_lt sp; rwa [List.length_take, List.length_drop, Nat.min_eq_left (by omega)] at this)
        have hMul := ih.out _ _ _ _ _ _ (c1 - k) c2 wr rfl rfl (show (ofN (wv ((xs.drop k).take ((xs.length - k))))).length + ys.length ≤ K by omega) ((hR.sub k ((xs.length - k))).trimmed sp) (h2.below hB) (norm_ofN _) s2 (by omega) hc2 (by simp [maxLen]; omega) hm2
        rw [wv_ofN] at hMul
        have hP := Lib.hid (piece_step (ys := ys) hkm HM.out)
        generalize wv ((xs.drop k).take ((xs.length - k))) = V at hT hMul hlp hP
        have hfitN : wv zs + 4294967296 ^ k * (V * wv ys) < 4294967296 ^ (xs.length + ys.length + 1) := by
          have h3 := hP.out
          rw [← hI.out] at h3
          rcases h3 with h3 | h3
          · rw [h3]
            have h4 := wv_lt (s1.1.take (k + ys.length))
            have h5 := wv_lt s2.1
            have h6 : 4294967296 ^ (xs.take (k + ys.length)).length ≤ 4294967296 ^ xs.length := Nat.pow_le_pow_right (by omega) (by rw [List.length_take]; omega)
            have h7 : wv (xs.take (k + ys.length)) * wv ys < 4294967296 ^ xs.length * 4294967296 ^ ys.length := Nat.mul_lt_mul'' (by omega) h5
            rw [← Nat.pow_add] at h7
            have h8 := Nat.pow_le_pow_right (n := 4294967296) (by omega) (show xs.length + ys.length ≤ xs.length + ys.length + 1 by omega)
            omega
          · omega
        have HF := Lib.hid hfitN
        have HLw := hL.lt
        have HL := Lib.hid hL
        have HB := Lib.hid hB
        have hlp2 : k + (ofN (V * wv ys)).length ≤ xs.length + ys.length + 1 := by
          by_cases h0 : V * wv ys = 0
          · rw [h0, ofN_zero]; simp; omega
          · exact fit_len (by have := hfitN; omega) h0
        clear hfitN hL hB
        go_wp2_with fail
        refine hT.mono ?_; rintro e w' ⟨rfl, rfl⟩
        go_wp2_with fail
        refine hMul.mono ?_; rintro e w2 ⟨A, c, rfl, hb2, hr2, hc3, hc4, hrd2⟩
        have hL2 := HL.out.below hb2 HLw
        have hA := addAt_any w.heap.size w.heap.size _ _ _ A _ c k w2 hL2 hrd2 (small_ofN _) (hr2.off HLw) (by omega) hlp2 (by rw [wv_ofN]; exact HF.out)
        rw [wv_ofN] at hA
        have HB2 := Lib.hid ((HB.out.trans (hb2.mono HB.out.size)))
        have HS := HB.out.size
        have hs2 := hb2.size
        clear hb2 hr2 hrd2 hL2
        go_wp2_with fail
        refine hA.mono ?_; rintro e w3 ⟨rfl, hg3, zs3, hL3, hv3⟩
        have HV := Lib.hid hv3
        have HL3 := Lib.hid hL3
        have HB3 := Lib.hid (grown_below HB2.out hg3 (by omega) (Nat.le_refl _))
        clear hv3 hL3 hg3
        go_wp2
        go_roundw
        case rel =>
          refine ⟨k + ys.length, zs3, by omega, by go_num, HL3.out, HB3.out, ?_⟩
          show wv zs3 = _
          rw [HV.out, hI.out]
          rcases hP.out with h | h
          · exact h
          · omega
        case measure => simp [intOf]; omega
    · have hT := trim_any _ _ (xs.length + ys.length + 1) _ hL.rd hL.2.1 (by rw [hL.1]; omega) (by simp [maxLen]; omega)
      rw [hL.1] at hT
      have hv : wv zs = wv xs * wv ys := by rw [hI.out, wv_take_all (by omega)]
      have HV := Lib.hid hv
      have HB := Lib.hid hB
      have HL := Lib.hid hL
      clear hv hL hB hI
      go_wp2_with (go_at_call 194; refine hT.mono ?_; rintro e w' ⟨rfl, rfl⟩)
      go_ret
      rw [← HV.out]
      exact Gives.of HB.out HL.out.trim

end Go.Proofs.YtihdnfhclocndaaGreatDoor
