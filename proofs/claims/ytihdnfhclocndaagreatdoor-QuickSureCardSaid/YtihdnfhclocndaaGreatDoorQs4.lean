/- What the library's own variables hold, and that it stays. From a row's listed variables to what the contracts ask of the world; a world for the witness. numeral/big: the words' functions: trim. numeral/big: the words' functions: addWords. numeral/big: the words' functions: copied, subWords. -/
import Derived.Test.YtihdnfhclocndaaGreatDoorQs2
import Derived.Test.YtihdnfhclocndaaGreatDoorQs3
import Derived.Test.YtihdnfhclocndaaGreatDoorCards
import Derived.Test.YtihdnfhclocndaaGreatDoorTie
import Derived.Lib.LaidU8
import Derived.PinnedBridge
import Derived.Lay
import Derived.ProofKit
import Derived.OpenShut
import Derived.LaidHandle
import Derived.Stop.Joined
import Derived.SevenTiedAt
namespace Go.Proofs.YtihdnfhclocndaaGreatDoor
open Go.RowKit Go.Shelf

structure Glob (w : World) : Prop where
  size : 9 ≤ w.heap.size
  tz32 : TabAt 5 Lib.deBruijn32tab w
  pow10 : Lib.TabIs Tryz.prog w "internal/strconv.uint64pow10" .u64 Lib.pow10Tab
  syn : ∃ ev, w.cell? ⟨7, 0, none⟩ = some ev ∧ (ev = .nilIface ∨ ∃ te pe, ev = .iface te pe)
  rng : ∃ ev, w.cell? ⟨8, 0, none⟩ = some ev ∧ (ev = .nilIface ∨ ∃ te pe, ev = .iface te pe)

theorem Glob.keep {w w' : World} (h : Glob w) (hs : 9 ≤ w'.heap.size) (hk : ∀ b, b < 9 → w'.heap[b]? = w.heap[b]?) : Glob w' := by
  have hc : ∀ g i, g < 9 → w'.cell? ⟨g, i, none⟩ = w.cell? ⟨g, i, none⟩ := fun g i hg => World.cell?_of_block (w := w) (hk g hg)
  refine ⟨hs, ?_, ?_, ?_, ?_⟩
  · intro j hj; rw [hc _ _ (by omega)]; exact h.tz32 j hj
  · have h1 := h.pow10
    unfold Lib.TabIs at h1 ⊢
    rw [← h1]
    have hg : Tryz.prog.globalNamed "internal/strconv.uint64pow10" = some 2 := by kernel_rfl
    unfold World.var?
    rw [hg, Option.bind_some, Option.bind_some, hk 2 (by omega)]
  · obtain ⟨ev, h1, h2⟩ := h.syn; exact ⟨ev, by rw [hc _ _ (by omega)]; exact h1, h2⟩
  · obtain ⟨ev, h1, h2⟩ := h.rng; exact ⟨ev, by rw [hc _ _ (by omega)]; exact h1, h2⟩

theorem Glob.below {B : Nat} {w w' : World} (h : Glob w) (hb : Below B w w') (hB : 9 ≤ B) : Glob w' :=
  h.keep (Nat.le_trans h.size hb.size) fun b hbb => hb.block b (by omega)
theorem Glob.under {w w' : World} (h : Glob w) (hb : Below w.heap.size w w') : Glob w' := h.below hb h.size
theorem Glob.grown {w w' : World} {g : Nat} (h : Glob w) (hg : w.grownBy w' (some g)) (h10 : 9 ≤ g) : Glob w' :=
  h.keep (Nat.le_trans h.size hg.size) fun b hbb => hg.block b (by have := h.size; omega) (by simp; omega)
theorem Glob.drewN {w : World} (h : Glob w) (n : Nat) : Glob (w.drewN n) := h.keep h.size fun _ _ => rfl
theorem Glob.alloc {w : World} (h : Glob w) (o : Obj) : Glob (w.alloc o) := h.under ((Below.refl _ _).alloc (Nat.le_refl _) _)

end Go.Proofs.YtihdnfhclocndaaGreatDoor
namespace Go.Proofs.YtihdnfhclocndaaGreatDoor
open Go.RowKit Go.Shelf Go.ChangeShapes Go.WideShapes Go.ChangeAt

theorem own : ownKnob Tryz.prog.godebug = none := by kernel_rfl

/-- A listed table holds its numbers. -/
theorem tab_of_reads {P : Program} {w : World} {name : String} {k : IntKind} {zs : List Int} {g : Nat} {t e : TypeId} {n : Nat}
    (hg : P.globalNamed name = some g) (hty : (P.globals[g]?).map (·.type) = some t) (ht : P.underlying t = some (.array n e)) (he : P.underlying e = some (.int k)) (hce : P.cellsOf e = 1) (hct : P.cellsOf t = n)
    (h : Lib.VarReads P w name (Lib.tabData k zs)) : Lib.TabIs P w name k zs := by
  obtain ⟨g', t', cs, fuel, p, hg', ht', hvar, hd⟩ := h
  obtain rfl := Option.some.inj (hg.symm.trans hg')
  obtain rfl := Option.some.inj (hty.symm.trans ht')
  unfold Lib.TabIs
  rw [hvar, ← Lib.cells_of_tab ht he hce hct hd]

/-- A listed variable of an interface's type holds one. -/
theorem iface_of_reads {P : Program} {w : World} {name : String} {d : DataW Unit} {g : Nat} {t : TypeId} {ms : Array (String × TypeId)}
    (hg : P.globalNamed name = some g) (hty : (P.globals[g]?).map (·.type) = some t) (ht : P.underlying t = some (.interface ms)) (h : Lib.VarReads P w name d) :
    ∃ ev, w.cell? ⟨g, 0, none⟩ = some ev ∧ (ev = .nilIface ∨ ∃ te pe, ev = .iface te pe) := by
  obtain ⟨g', t', cs, fuel, p, hg', ht', hvar, hd⟩ := h
  obtain rfl := Option.some.inj (hg.symm.trans hg')
  obtain rfl := Option.some.inj (hty.symm.trans ht')
  have hc := World.var?_cell hg hvar 0
  cases fuel with
  | zero => simp [DataW.trod] at hd
  | succ fuel =>
    simp only [DataW.trod, ht] at hd
    split at hd
    all_goals first
      | (simp at hd; done)
      | (rename_i e1 e2; cases e1; done)
      | (rename_i e1; cases e1; done)
      | skip
    all_goals rename_i e1 e2
    all_goals
      have h0 := congrArg (fun l : List Value => l[0]?) e2
      simp only [List.getElem?_cons_zero, Array.getElem?_toList] at h0
      rw [h0] at hc
      exact ⟨_, hc, by first | exact .inl rfl | exact .inr ⟨_, _, rfl⟩⟩

theorem gPow : Tryz.prog.globalNamed "internal/strconv.uint64pow10" = some 2 := by kernel_rfl
theorem gTz : Tryz.prog.globalNamed "math/bits.deBruijn32tab" = some 5 := by kernel_rfl
theorem gSyn : Tryz.prog.globalNamed "strconv.ErrSyntax" = some 7 := by kernel_rfl
theorem gRng : Tryz.prog.globalNamed "strconv.ErrRange" = some 8 := by kernel_rfl

theorem dTz : (Rows.laid_math_bits_deBruijn32tab : DataW Unit) = Lib.tabData .u8 (Lib.deBruijn32tab.map fun n : Nat => (n : Int)) := by kernel_rfl
theorem dPow : (Rows.laid_internal_strconv_uint64pow10 : DataW Unit) = Lib.tabData .u64 Lib.pow10Tab := by kernel_rfl

/-- What every row of this seat lists. -/
theorem glob_of {l : List (String × DataW Unit)} {W : World} (h : laidMet Tryz.prog l W) (h1 : ("math/bits.deBruijn32tab", (Rows.laid_math_bits_deBruijn32tab : DataW Unit)) ∈ l) (h2 : ("internal/strconv.uint64pow10", (Rows.laid_internal_strconv_uint64pow10 : DataW Unit)) ∈ l)
    (h3 : ("strconv.ErrSyntax", (Rows.laid_strconv_ErrSyntax : DataW Unit)) ∈ l) (h4 : ("strconv.ErrRange", (Rows.laid_strconv_ErrRange : DataW Unit)) ∈ l) : Glob W := by
  have r1 := Lib.laidMet.reads h h1
  have r2 := Lib.laidMet.reads h h2
  rw [dTz] at r1
  rw [dPow] at r2
  have t1 := tab_of_reads gTz (show _ = some 304 by kernel_rfl) Tryz.underlying304 Tryz.underlying5 (by kernel_rfl) (by kernel_rfl) r1
  have t2 := tab_of_reads gPow (show _ = some 216 by kernel_rfl) Tryz.underlying216 Tryz.underlying22 (by kernel_rfl) (by kernel_rfl) r2
  have s := iface_of_reads gSyn (show _ = some 59 by kernel_rfl) Tryz.underlying59 (Lib.laidMet.reads h h3)
  have r := iface_of_reads gRng (show _ = some 59 by kernel_rfl) Tryz.underlying59 (Lib.laidMet.reads h h4)
  refine ⟨?_, ?_, t2, s, r⟩
  · obtain ⟨ev, hc, _⟩ := r
    exact block_lt_of_cell hc
  · intro j hj
    have hc := t1.cell gTz j (by simpa using hj)
    rw [hc]
    congr 2
    rw [List.getD_eq_getElem?_getD, List.getD_eq_getElem?_getD, List.getElem?_map, List.getElem?_eq_getElem hj]
    rfl

end Go.Proofs.YtihdnfhclocndaaGreatDoor
namespace Go.Proofs.YtihdnfhclocndaaGreatDoor
open Go.RowKit W

set_option maxRecDepth 100000 in
theorem trim_any (A : Option Addr) (xs : List Nat) (c : Nat) (w : World) (h : Rd w A xs) (hs : Small xs) (hc : xs.length ≤ c) (hm : c ≤ maxLen) :
    Calls Tryz.prog 194 #[.slice A xs.length c] w fun e w' => e = .returned (.slice A (tl xs) c) ∧ w = w' := by
  unfold maxLen at hm
  go_enter Tryz.func194, Tryz.ntmps194
  go_wp2
  go_loop [3] (fun n => ∃ k : Nat, k ≤ xs.length ∧ Hid (∀ j, k ≤ j → nth xs j = 0) ∧ n = .int .i64 k) (fun n => (intOf n).toNat)
  case atStart => exact ⟨xs.length, Nat.le_refl _, fun j hj => nth_ge hj, rfl⟩
  case round =>
    obtain ⟨k, hk, hz, rfl⟩ := hrel
    by_cases h0 : 0 < k
    · obtain ⟨b, o, rfl, hcell⟩ := h (by omega)
      have hx := hcell (k - 1) (by omega)
      clear hcell h
      by_cases hv : nth xs (k - 1) = 0
      · have hv' : ((nth xs (k - 1) : Int) == 0) = true := by simp [hv]
        have HV := Lib.hid hv; clear hv
        go_wp2
        go_round
        case rel => exact ⟨k - 1, by omega, fun j hj => by
          rcases Nat.lt_or_ge j k with h1 | h1
          · have : j = k - 1 := by omega
            subst this; exact HV.out
          · exact hz.out j h1, by go_num⟩
        case measure => simp [intOf]; omega
      · have hv' : ((nth xs (k - 1) : Int) == 0) = false := by simp; omega
        have hnz : 0 < nth xs (k - 1) := by omega
        clear hv
        go_wp2
        go_ret
        have e : tl xs = k := tl_eq hs hk hz.out (.inr (by unfold nth at hnz; omega))
        exact ⟨by rw [e]; rfl, rfl⟩
    · have e : k = 0 := by omega
      subst e
      go_wp2
      go_ret
      have e : tl xs = 0 := tl_eq hs hk hz.out (.inl rfl)
      exact ⟨by rw [e]; rfl, rfl⟩

end Go.Proofs.YtihdnfhclocndaaGreatDoor
namespace Go.Proofs.YtihdnfhclocndaaGreatDoor
open Go.RowKit W

set_option maxRecDepth 100000 in
theorem addWords_ge (A1 A2 : Option Addr) (xs ys : List Nat) (c1 c2 : Nat) (w : World) (h1 : Rd w A1 xs) (h2 : Rd w A2 ys) (s1 : Small xs) (s2 : Small ys)
    (hl : ys.length ≤ xs.length) (hm : xs.length ≤ 549755813888) :
    Calls Tryz.prog 216 #[.slice A1 xs.length c1, .slice A2 ys.length c2] w (Gives w (ofN (wv xs + wv ys))) := by
  have hl' : ¬ ((xs.length : Int) < (ys.length : Int)) := by omega
  have hmk := fun w : World => make_u32 w ((xs.length : Int) + 1) (by omega) (by omega)
  go_enter Tryz.func216, Tryz.ntmps216
  go_wp2
  go_loopw [6, 7, 8] (fun c i _ wr => ∃ (k carry : Nat) (zs : List Nat), k ≤ xs.length ∧ i = .int .i64 k ∧ c = .int .u64 carry ∧ carry ≤ 1 ∧
      Loc w.heap.size wr w.heap.size (xs.length + 1) (xs.length + 1) zs ∧ Below w.heap.size w wr ∧
      Hid (wv (zs.take k) + carry * 4294967296 ^ k = wv (xs.take k) + wv (ys.take k))) (fun _ i _ _ => xs.length - (intOf i).toNat)
  case atStart => exact ⟨0, 0, _, by omega, rfl, rfl, by omega, Loc.new w (Nat.le_refl _) (by omega), (Below.refl _ _).alloc (Nat.le_refl _) _, by show wv _ + _ = _; simp [wv]⟩
  case round =>
    obtain ⟨k, carry, zs, hk, rfl, rfl, hc, hL, hB, hI⟩ := hrel
    by_cases hlt : k < xs.length
    · obtain ⟨b, o, rfl, hx⟩ := (h1.below hB) (by omega)
      have hx := hx k hlt
      have hz := hL.cell (k := k) (by omega)
      have hf := hL.frozen k
      have bx := nth_lt s1 k
      by_cases hly : k < ys.length
      · obtain ⟨b2, o2, rfl, hy⟩ := (h2.below hB) (by omega)
        have hy := hy k hly
        have bY := nth_lt s2 k
        go_wp2
        go_roundw
        case rel =>
          refine ⟨k + 1, (nth xs k + carry + nth ys k) / 4294967296, zs.set k ((nth xs k + carry + nth ys k) % 4294967296), by omega, by go_num, by go_num, by omega, hL.put k (by omega) (by omega), hB.setCell (Nat.le_refl _) _, add_place (by have := hL.1; omega) hI.out rfl⟩
        case measure => simp [intOf]; omega
      · have hly' : ¬ ((k : Int) < (ys.length : Int)) := by omega
        have h0 : nth ys k = 0 := nth_ge (by omega)
        have H0 := Lib.hid h0; clear h0
        go_wp2
        go_roundw
        case rel =>
          refine ⟨k + 1, (nth xs k + carry) / 4294967296, zs.set k ((nth xs k + carry) % 4294967296), by omega, by go_num, by go_num, by omega, hL.put k (by omega) (by omega), hB.setCell (Nat.le_refl _) _, add_place (by have := hL.1; omega) hI.out (by rw [H0.out]; rfl)⟩
        case measure => simp [intOf]; omega
    · have : k = xs.length := by omega
      subst this
      have hz := hL.cell (k := xs.length) (by omega)
      have hf := hL.frozen xs.length
      have hL2 := hL.put (z := (carry : Int)) xs.length rfl (by omega)
      have hB2 := hB.setCell (p := ⟨w.heap.size, xs.length, none⟩) (Nat.le_refl _) (.int .u32 (carry : Int))
      have hT := trim_any _ _ (xs.length + 1) _ hL2.rd hL2.2.1 (by rw [hL2.1]; omega) (by simp [maxLen]; omega)
      rw [hL2.1] at hT
      have hv : wv (zs.set xs.length carry) = wv xs + wv ys := by
        have h3 := hI.out
        have h4 := hL.1
        rw [List.take_of_length_le (Nat.le_refl _), List.take_of_length_le hl] at h3
        have h5 := wv_take (zs.set xs.length carry) xs.length
        rw [List.take_of_length_le (by rw [List.length_set]; omega), List.take_set_of_le (Nat.le_refl _)] at h5
        have h6 : nth (zs.set xs.length carry) xs.length = carry := by rw [nth_get (by rw [List.length_set]; omega), List.getElem_set_self]
        rw [h6] at h5
        rw [h5, ← h3, Nat.mul_comm]
      have HV := Lib.hid hv
      clear hv hL hB hI
      go_wp2_with (go_at_call 194; refine hT.mono ?_; rintro e w' ⟨rfl, rfl⟩)
      go_ret
      rw [← HV.out]
      exact Gives.of hB2 hL2.trim

set_option maxRecDepth 100000 in
theorem addWords_lt (A1 A2 : Option Addr) (xs ys : List Nat) (c1 c2 : Nat) (w : World) (h1 : Rd w A1 xs) (h2 : Rd w A2 ys) (s1 : Small xs) (s2 : Small ys)
    (hlt0 : xs.length < ys.length) (hm : ys.length ≤ 549755813888) :
    Calls Tryz.prog 216 #[.slice A1 xs.length c1, .slice A2 ys.length c2] w (Gives w (ofN (wv xs + wv ys))) := by
  have hl : xs.length ≤ ys.length := Nat.le_of_lt hlt0
  have hl' : ((xs.length : Int) < (ys.length : Int)) := by omega
  rw [Nat.add_comm]
  have hmk := fun w : World => make_u32 w ((ys.length : Int) + 1) (by omega) (by omega)
  go_enter Tryz.func216, Tryz.ntmps216
  go_wp2
  go_loopw [6, 7, 8] (fun c i _ wr => ∃ (k carry : Nat) (zs : List Nat), k ≤ ys.length ∧ i = .int .i64 k ∧ c = .int .u64 carry ∧ carry ≤ 1 ∧
      Loc w.heap.size wr w.heap.size (ys.length + 1) (ys.length + 1) zs ∧ Below w.heap.size w wr ∧
      Hid (wv (zs.take k) + carry * 4294967296 ^ k = wv (ys.take k) + wv (xs.take k))) (fun _ i _ _ => ys.length - (intOf i).toNat)
  case atStart => exact ⟨0, 0, _, by omega, rfl, rfl, by omega, Loc.new w (Nat.le_refl _) (by omega), (Below.refl _ _).alloc (Nat.le_refl _) _, by show wv _ + _ = _; simp [wv]⟩
  case round =>
    obtain ⟨k, carry, zs, hk, rfl, rfl, hc, hL, hB, hI⟩ := hrel
    by_cases hlt : k < ys.length
    · obtain ⟨b, o, rfl, hx⟩ := (h2.below hB) (by omega)
      have hx := hx k hlt
      have hz := hL.cell (k := k) (by omega)
      have hf := hL.frozen k
      have bx := nth_lt s2 k
      by_cases hly : k < xs.length
      · obtain ⟨b2, o2, rfl, hy⟩ := (h1.below hB) (by omega)
        have hy := hy k hly
        have bY := nth_lt s1 k
        go_wp2
        go_roundw
        case rel =>
          refine ⟨k + 1, (nth ys k + carry + nth xs k) / 4294967296, zs.set k ((nth ys k + carry + nth xs k) % 4294967296), by omega, by go_num, by go_num, by omega, hL.put k (by omega) (by omega), hB.setCell (Nat.le_refl _) _, add_place (by have := hL.1; omega) hI.out rfl⟩
        case measure => simp [intOf]; omega
      · have hly' : ¬ ((k : Int) < (xs.length : Int)) := by omega
        have h0 : nth xs k = 0 := nth_ge (by omega)
        have H0 := Lib.hid h0; clear h0
        go_wp2
        go_roundw
        case rel =>
          refine ⟨k + 1, (nth ys k + carry) / 4294967296, zs.set k ((nth ys k + carry) % 4294967296), by omega, by go_num, by go_num, by omega, hL.put k (by omega) (by omega), hB.setCell (Nat.le_refl _) _, add_place (by have := hL.1; omega) hI.out (by rw [H0.out]; rfl)⟩
        case measure => simp [intOf]; omega
    · have : k = ys.length := by omega
      subst this
      have hz := hL.cell (k := ys.length) (by omega)
      have hf := hL.frozen ys.length
      have hL2 := hL.put (z := (carry : Int)) ys.length rfl (by omega)
      have hB2 := hB.setCell (p := ⟨w.heap.size, ys.length, none⟩) (Nat.le_refl _) (.int .u32 (carry : Int))
      have hT := trim_any _ _ (ys.length + 1) _ hL2.rd hL2.2.1 (by rw [hL2.1]; omega) (by simp [maxLen]; omega)
      rw [hL2.1] at hT
      have hv : wv (zs.set ys.length carry) = wv ys + wv xs := by
        have h3 := hI.out
        have h4 := hL.1
        rw [List.take_of_length_le (Nat.le_refl _), List.take_of_length_le hl] at h3
        have h5 := wv_take (zs.set ys.length carry) ys.length
        rw [List.take_of_length_le (by rw [List.length_set]; omega), List.take_set_of_le (Nat.le_refl _)] at h5
        have h6 : nth (zs.set ys.length carry) ys.length = carry := by rw [nth_get (by rw [List.length_set]; omega), List.getElem_set_self]
        rw [h6] at h5
        rw [h5, ← h3, Nat.mul_comm]
      have HV := Lib.hid hv
      clear hv hL hB hI
      go_wp2_with (go_at_call 194; refine hT.mono ?_; rintro e w' ⟨rfl, rfl⟩)
      go_ret
      rw [← HV.out]
      exact Gives.of hB2 hL2.trim


theorem addWords_any (A1 A2 : Option Addr) (xs ys : List Nat) (c1 c2 : Nat) (w : World) (h1 : Rd w A1 xs) (h2 : Rd w A2 ys) (s1 : Small xs) (s2 : Small ys)
    (hm : xs.length ≤ 549755813888) (hm2 : ys.length ≤ 549755813888) :
    Calls Tryz.prog 216 #[.slice A1 xs.length c1, .slice A2 ys.length c2] w (Gives w (ofN (wv xs + wv ys))) := by
  rcases Nat.lt_or_ge xs.length ys.length with h | h
  · exact addWords_lt A1 A2 xs ys c1 c2 w h1 h2 s1 s2 h hm2
  · exact addWords_ge A1 A2 xs ys c1 c2 w h1 h2 s1 s2 h hm

end Go.Proofs.YtihdnfhclocndaaGreatDoor
namespace Go.Proofs.YtihdnfhclocndaaGreatDoor
open Go.RowKit W

set_option maxRecDepth 100000 in
theorem subWords_any (A1 A2 : Option Addr) (xs ys : List Nat) (c1 c2 : Nat) (w : World) (h1 : Rd w A1 xs) (h2 : Rd w A2 ys) (s1 : Small xs) (s2 : Small ys)
    (hl : ys.length ≤ xs.length) (hm : xs.length ≤ 549755813888) (hle : wv ys ≤ wv xs) :
    Calls Tryz.prog 236 #[.slice A1 xs.length c1, .slice A2 ys.length c2] w (Gives w (ofN (wv xs - wv ys))) := by
  have hmk := fun w : World => make_u32 w (xs.length : Int) (by omega) (by omega)
  go_enter Tryz.func236, Tryz.ntmps236
  go_wp2
  go_loopw [6, 7, 8] (fun c i _ wr => ∃ (k carry : Nat) (zs : List Nat), k ≤ xs.length ∧ i = .int .i64 k ∧ c = .int .u64 carry ∧ carry ≤ 1 ∧
      Loc w.heap.size wr w.heap.size xs.length xs.length zs ∧ Below w.heap.size w wr ∧
      Hid (wv (zs.take k) + wv (ys.take k) = wv (xs.take k) + carry * 4294967296 ^ k)) (fun _ i _ _ => xs.length - (intOf i).toNat)
  case atStart => exact ⟨0, 0, _, by omega, rfl, rfl, by omega, Loc.new w (Nat.le_refl _) (by omega), (Below.refl _ _).alloc (Nat.le_refl _) _, by show wv _ + _ = _; simp [wv]⟩
  case round =>
    obtain ⟨k, carry, zs, hk, rfl, rfl, hc, hL, hB, hI⟩ := hrel
    by_cases hlt : k < xs.length
    · obtain ⟨b, o, rfl, hx⟩ := (h1.below hB) (by omega)
      have hx := hx k hlt
      have hz := hL.cell (k := k) (by omega)
      have hf := hL.frozen k
      have bx := nth_lt s1 k
      by_cases hly : k < ys.length
      · obtain ⟨b2, o2, rfl, hy⟩ := (h2.below hB) (by omega)
        have hy := hy k hly
        have bY := nth_lt s2 k
        have HW := Lib.hid (borrow_word _ _ _ bx hc bY)
        go_wp2
        go_roundw
        case rel =>
          obtain ⟨o, d, ho, hd, he, e1, e2⟩ := HW.out
          exact ⟨k + 1, d, zs.set k o, by omega, by go_num, by rw [e1], hd, hL.put k e2 ho, hB.setCell (Nat.le_refl _) _, sub_place (by have := hL.1; omega) hI.out he⟩
        case measure => simp [intOf]; omega
      · have hly' : ¬ ((k : Int) < (ys.length : Int)) := by omega
        have h0 : nth ys k = 0 := nth_ge (by omega)
        have H0 := Lib.hid h0; clear h0
        have HW := Lib.hid (borrow_word0 _ _ bx hc)
        go_wp2
        go_roundw
        case rel =>
          obtain ⟨o, d, ho, hd, he, e1, e2⟩ := HW.out
          exact ⟨k + 1, d, zs.set k o, by omega, by go_num, by rw [e1], hd, hL.put k e2 ho, hB.setCell (Nat.le_refl _) _, sub_place (by have := hL.1; omega) hI.out (by rw [H0.out]; omega)⟩
        case measure => simp [intOf]; omega
    · have : k = xs.length := by omega
      subst this
      have hT := trim_any _ _ xs.length _ hL.rd hL.2.1 (by rw [hL.1]; omega) (by simp [maxLen]; omega)
      rw [hL.1] at hT
      have hv : wv zs = wv xs - wv ys := by
        have h3 := hI.out
        have h4 := hL.1
        rw [List.take_of_length_le (Nat.le_refl _), List.take_of_length_le hl, List.take_of_length_le (by omega)] at h3
        have h5 := wv_lt hL.2.1
        rw [h4] at h5
        have h6 : carry = 0 := by
          rcases Nat.eq_zero_or_pos carry with h | h
          · exact h
          · have : carry = 1 := by omega
            subst this
            generalize 4294967296 ^ xs.length = p at *
            omega
        subst h6
        omega
      have HV := Lib.hid hv
      have HB := Lib.hid hB
      have HL := Lib.hid hL
      clear hv hL hB hI
      go_wp2_with (go_at_call 194; refine hT.mono ?_; rintro e w' ⟨rfl, rfl⟩)
      go_ret
      rw [← HV.out]
      exact Gives.of HB.out HL.out.trim

end Go.Proofs.YtihdnfhclocndaaGreatDoor
