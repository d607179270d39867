/- Slices of 32-bit words in memory: how they read, and what the call owns. -/
import Derived.Test.YtihdnfhclocndaaGreatDoorQs1
import Derived.Test.YtihdnfhclocndaaGreatDoorProg
import Derived.WalkKit
import Derived.WalkSpells
import Derived.WalkLawsBesides
import Derived.Outline
import Derived.Lib.Hide
namespace Go.Proofs.YtihdnfhclocndaaGreatDoor
open Go.RowKit W

/-- The type's number of uint32. -/
abbrev tU32 : TypeId := 37
abbrev tU32s : TypeId := 42

theorem Tryz.infoU32 : (Tryz.prog.info? 37).map (fun i => (i.zero, i.size, i.bytes)) = some (some (.int .u32 0), 1, 4) := by kernel_rfl

def u32l (xs : List Nat) : List Value := xs.map fun x : Nat => .int .u32 (x : Int)

theorem length_u32l (xs : List Nat) : (u32l xs).length = xs.length := by simp [u32l]

/-- The slice from A on reads as the words xs. -/
def Rd (w : World) (A : Option Addr) (xs : List Nat) : Prop :=
  0 < xs.length → ∃ b o, A = some ⟨b, o, none⟩ ∧ ∀ j, j < xs.length → w.cell? ⟨b, o + j, none⟩ = some (.int .u32 (nth xs j : Int))

theorem Rd.nil (w : World) (A : Option Addr) : Rd w A [] := fun h => absurd h (by simp)

theorem Rd.keep {w w' : World} {A : Option Addr} {xs : List Nat} (h : Rd w A xs)
    (hk : ∀ p : Addr, p.block < w.heap.size → w'.cell? p = w.cell? p) : Rd w' A xs := by
  intro hn
  obtain ⟨b, o, rfl, hc⟩ := h hn
  refine ⟨b, o, rfl, fun j hj => ?_⟩
  rw [hk _ (block_lt_of_cell (hc j hj))]
  exact hc j hj

theorem Rd.below {w w' : World} {A : Option Addr} {xs : List Nat} (h : Rd w A xs) (hb : Below w.heap.size w w') : Rd w' A xs :=
  h.keep fun _ hp => hb.cell hp

/-- What the call owns, read as words. -/
def Res (base : Nat) (w : World) (v : Value) (xs : List Nat) : Prop := w.ownsRow base tU32 1 v xs.length (u32l xs)

theorem Res.form {base : Nat} {w : World} {v : Value} {xs : List Nat} (h : Res base w v xs) :
    ∃ A c, v = .slice A xs.length c ∧ xs.length ≤ c ∧ c ≤ maxLen ∧ Rd w A xs := by
  rcases h.2 with ⟨rfl, h0⟩ | ⟨g, cap, cur, rfl, hb, hg, hnc, hcm, hcs, ht⟩
  · exact ⟨none, 0, by rw [h0], by omega, by simp [maxLen], fun hn => by omega⟩
  · refine ⟨some ⟨g, 0, none⟩, cap, rfl, hnc, hcm, fun _ => ⟨g, 0, rfl, fun j hj => ?_⟩⟩
    have h1 := World.ownsRow.cellAt (g := g) (cap := cap) h j (by omega)
    rw [Nat.zero_add, h1, u32l, List.getElem?_map, List.getElem?_eq_getElem hj, nth_get hj]
    rfl

/-- A function hands back new words: they are the call's own, and what was there stands. -/
def Gives (w : World) (xs : List Nat) (e : Ending) (w' : World) : Prop :=
  ∃ A c, e = .returned (.slice A xs.length c) ∧ Below w.heap.size w w' ∧ Res w.heap.size w' (.slice A xs.length c) xs ∧ xs.length ≤ c ∧ c ≤ maxLen ∧ Rd w' A xs

theorem Gives.of {w w' : World} {xs : List Nat} {v : Value} (hb : Below w.heap.size w w') (h : Res w.heap.size w' v xs) : Gives w xs (.returned v) w' := by
  obtain ⟨A, c, rfl, h1, h2, h3⟩ := h.form
  exact ⟨A, c, rfl, hb, h, h1, h2, h3⟩

/-- A row of n words (room for m) that the call owns: block g, from its head on. -/
def Loc (base : Nat) (w : World) (g n m : Nat) (zs : List Nat) : Prop :=
  zs.length = n ∧ Small zs ∧ w.ownsRow base tU32 1 (.slice (some ⟨g, 0, none⟩) n m) n (u32l zs)

theorem Loc.cell {base : Nat} {w : World} {g n m : Nat} {zs : List Nat} (h : Loc base w g n m zs) {k : Nat} (hk : k < n) :
    w.cell? ⟨g, k, none⟩ = some (.int .u32 (nth zs k : Int)) := by
  have h1 := World.ownsRow.cellAt h.2.2 k (by omega)
  rw [h1, u32l, List.getElem?_map, List.getElem?_eq_getElem (by have := h.1; omega), nth_get (by have := h.1; omega)]
  rfl

theorem Loc.frozen {base : Nat} {w : World} {g n m : Nat} {zs : List Nat} (h : Loc base w g n m zs) (k : Nat) : w.frozen? ⟨g, k, none⟩ = false :=
  World.ownsRow.frozenAt h.2.2 k

theorem Loc.base_le {base : Nat} {w : World} {g n m : Nat} {zs : List Nat} (h : Loc base w g n m zs) : base ≤ g := by
  rcases h.2.2.2 with ⟨h', _⟩ | ⟨g', cap', cur, h', hb, _⟩
  · simp at h'
  · simp only [Value.slice.injEq, Option.some.injEq, Addr.mk.injEq, and_true, true_and] at h'
    rw [h'.1]; exact hb

theorem Loc.lt {base : Nat} {w : World} {g n m : Nat} {zs : List Nat} (h : Loc base w g n m zs) : g < w.heap.size := by
  rcases h.2.2.2 with ⟨h', _⟩ | ⟨g', cap', cur, h', hb, hg, _⟩
  · simp at h'
  · simp only [Value.slice.injEq, Option.some.injEq, Addr.mk.injEq, and_true, true_and] at h'
    rw [h'.1]
    rcases Nat.lt_or_ge g' w.heap.size with h | h
    · exact h
    · rw [Array.getElem?_eq_none h] at hg; cases hg

theorem u32l_set (zs : List Nat) (k v : Nat) : u32l (zs.set k v) = (u32l zs).set k (.int .u32 (v : Int)) := by simp [u32l, List.map_set]

theorem Loc.store {base : Nat} {w : World} {g n m : Nat} {zs : List Nat} (h : Loc base w g n m zs) (k : Nat) {v : Nat} (hv : v < 4294967296) :
    Loc base (w.setCell ⟨g, k, none⟩ (.int .u32 (v : Int))) g n m (zs.set k v) :=
  ⟨by rw [List.length_set]; exact h.1, h.2.1.set k hv, by rw [u32l_set]; exact (World.ownsRow.stored h.2.2 k _).1⟩

theorem Loc.put {base : Nat} {w : World} {g n m : Nat} {zs : List Nat} (h : Loc base w g n m zs) (k : Nat) {z : Int} {v : Nat} (e : z = (v : Int)) (hv : v < 4294967296) :
    Loc base (w.setCell ⟨g, k, none⟩ (.int .u32 z)) g n m (zs.set k v) := by subst e; exact h.store k hv

/-- A difference of words with a borrow, as the machine reckons it. -/
theorem borrow_word (x c y : Nat) (hx : x < 4294967296) (hc : c ≤ 1) (hy : y < 4294967296) :
    ∃ o d : Nat, o < 4294967296 ∧ d ≤ 1 ∧ x + d * 4294967296 = o + c + y ∧
      IntKind.u64.wrap (IntKind.u64.wrap ((x : Int) - c) - y) / 9223372036854775808 = (d : Int) ∧
      IntKind.u64.wrap (IntKind.u64.wrap ((x : Int) - c) - y) % 4294967296 = (o : Int) := by
  simp only [IntKind.wrap_u64]
  rcases Nat.lt_or_ge x (c + y) with h | h
  · exact ⟨x + 4294967296 - c - y, 1, by omega, by omega, by omega, by omega, by omega⟩
  · exact ⟨x - c - y, 0, by omega, by omega, by omega, by omega, by omega⟩

theorem borrow_word0 (x c : Nat) (hx : x < 4294967296) (hc : c ≤ 1) :
    ∃ o d : Nat, o < 4294967296 ∧ d ≤ 1 ∧ x + d * 4294967296 = o + c ∧
      IntKind.u64.wrap ((x : Int) - c) / 9223372036854775808 = (d : Int) ∧ IntKind.u64.wrap ((x : Int) - c) % 4294967296 = (o : Int) := by
  simp only [IntKind.wrap_u64]
  rcases Nat.lt_or_ge x c with h | h
  · exact ⟨x + 4294967296 - c, 1, by omega, by omega, by omega, by omega, by omega⟩
  · exact ⟨x - c, 0, by omega, by omega, by omega, by omega, by omega⟩

/-- A high word and a low one put together. -/
theorem or_words (h l : Nat) (hh : h < 4294967296) (hl : l < 4294967296) : bits BinOp.or IntKind.u64 ((h : Int) * 4294967296) (l : Int) = (h : Int) * 4294967296 + (l : Int) := by
  have e : (h : Int) * 4294967296 = ((h * 4294967296 : Nat) : Int) := by omega
  rw [e, u64_or_nat _ _ (by omega) (by omega), nat_join 32 (h * 4294967296) l (by omega) hl]
  omega

theorem Loc.new {base : Nat} (w : World) (hb : base ≤ w.heap.size) {n : Nat} (hn : n ≤ 1099511627776) :
    Loc base (w.alloc (.cells (u32l (List.replicate n 0)).toArray tU32)) w.heap.size n n (List.replicate n 0) := by
  refine ⟨by simp, small_replicate n, ?_⟩
  have h := World.ownsRow_lit (base := base) (e := tU32) (size := 1) w (u32l (List.replicate n 0)).toArray n hb (by simp [maxLen]; omega) (by simp [u32l])
  simpa using h

theorem Loc.block {base : Nat} {w w' : World} {g n m : Nat} {zs : List Nat} (h : Loc base w g n m zs) (hk : w'.heap[g]? = w.heap[g]?) : Loc base w' g n m zs := by
  refine ⟨h.1, h.2.1, h.2.2.1, ?_⟩
  rcases h.2.2.2 with ⟨h', _⟩ | ⟨g', cap', cur, h', r⟩
  · simp at h'
  · refine .inr ⟨g', cap', cur, h', ?_⟩
    simp only [Value.slice.injEq, Option.some.injEq, Addr.mk.injEq, and_true, true_and] at h'
    rw [← h'.1] at r ⊢
    rw [hk]; exact r

theorem Loc.below {base B : Nat} {w w' : World} {g n m : Nat} {zs : List Nat} (h : Loc base w g n m zs) (hb : Below B w w') (hg : g < B) : Loc base w' g n m zs :=
  h.block (hb.block g hg)

theorem Loc.rd {base : Nat} {w : World} {g n m : Nat} {zs : List Nat} (h : Loc base w g n m zs) : Rd w (some ⟨g, 0, none⟩) zs :=
  fun _ => ⟨g, 0, rfl, fun j hj => by rw [Nat.zero_add]; exact h.cell (by have := h.1; omega)⟩

/-- The first words of an owned row are an owned row. -/
theorem Loc.take {base : Nat} {w : World} {g n m : Nat} {zs : List Nat} (h : Loc base w g n m zs) {k : Nat} (hk : k ≤ n) : Loc base w g k m (zs.take k) := by
  refine ⟨by rw [List.length_take, h.1]; omega, h.2.1.take k, by rw [length_u32l, List.length_take, h.1]; omega, ?_⟩
  rcases h.2.2.2 with ⟨h', _⟩ | ⟨g', cap', cur, h', hb, hg, hnc, hcm, hcs, ht⟩
  · simp at h'
  · simp only [Value.slice.injEq, Option.some.injEq, Addr.mk.injEq, and_true, true_and] at h'
    obtain ⟨h1, h2⟩ := h'
    refine .inr ⟨g', cap', cur, by rw [h1, h2], hb, hg, by omega, hcm, hcs, ?_⟩
    have e : u32l (zs.take k) = (u32l zs).take k := by simp [u32l, List.map_take]
    rw [e, ← ht, List.take_take]
    congr 1
    omega

theorem Loc.res {base : Nat} {w : World} {g n m : Nat} {zs : List Nat} (h : Loc base w g n m zs) : Res base w (.slice (some ⟨g, 0, none⟩) n m) zs := by
  unfold Res; rw [h.1]; exact h.2.2

theorem Loc.trim {base : Nat} {w : World} {g n m : Nat} {zs : List Nat} (h : Loc base w g n m zs) : Res base w (.slice (some ⟨g, 0, none⟩) (tl zs) m) (ofN (wv zs)) := by
  have h1 := h.take (k := tl zs) (by have := tl_le h.2.1; have := h.1; omega)
  have e : zs.take (tl zs) = ofN (wv zs) := by
    have := wv_take_drop zs (tl zs) (tl_le h.2.1)
    exact take_tl h.2.1
  rw [e] at h1
  exact h1.res

/-- make([]uint32, l). -/
theorem make_u32 (w : World) (l : Int) (h0 : 0 ≤ l) (h1 : l ≤ 1099511627776) :
    (Instr.makeSlice tU32s (.int .i64 l) (.int .i64 l)).run Tryz.prog w = .ok (.slice (some ⟨w.heap.size, 0, none⟩) l.toNat l.toNat) (w.alloc (.cells (u32l (List.replicate l.toNat 0)).toArray tU32)) := by
  obtain ⟨i0, hi, hz0, hz1, hz2⟩ := info_parts Tryz.infoU32
  have h := run_make (P := Tryz.prog) w tU32s tU32 i0 (.int .u32 0) Tryz.underlying42 hi hz0 .i64 .i64 l l h0 (Int.le_refl _) (by rw [hz2]; omega) (by omega)
  rw [h, hz1, Nat.mul_one]
  have e : madeCells (Value.int IntKind.u32 0).cells l.toNat = (u32l (List.replicate l.toNat 0)).toArray := by
    apply Array.toList_inj.1
    rw [show (Value.int IntKind.u32 0).cells = #[Value.int IntKind.u32 0] from rfl, toList_madeCells_one]
    simp [u32l]
  rw [e]

end Go.Proofs.YtihdnfhclocndaaGreatDoor
