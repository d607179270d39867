/- Plain arithmetic of words of 32 bits: lists of numbers below 2^32, the least first. No program in sight. Plain arithmetic of words of 32 bits: what one round of each loop does to the number. No program in sight. -/
namespace Go.Proofs.YtihdnfhclocndaaGreatDoor
namespace W

def wv : List Nat → Nat
  | [] => 0
  | x :: xs => x + 4294967296 * wv xs

def Small (xs : List Nat) : Prop := ∀ x ∈ xs, x < 4294967296

def Norm (xs : List Nat) : Prop := Small xs ∧ xs.getLast? ≠ some 0

theorem wv_nil : wv [] = 0 := rfl
theorem wv_cons (x : Nat) (xs : List Nat) : wv (x :: xs) = x + 4294967296 * wv xs := rfl

theorem wv_append (xs ys : List Nat) : wv (xs ++ ys) = wv xs + 4294967296 ^ xs.length * wv ys := by
  induction xs with
  | nil => simp [wv]
  | cons x xs ih => simp only [List.cons_append, wv, ih, List.length_cons, Nat.pow_succ]; grind

theorem wv_take_succ (xs : List Nat) (k : Nat) (h : k < xs.length) :
    wv (xs.take (k + 1)) = wv (xs.take k) + 4294967296 ^ k * xs[k] := by
  rw [List.take_succ_eq_append_getElem h, wv_append]
  simp [wv, List.length_take, Nat.min_eq_left (Nat.le_of_lt h)]

theorem wv_take_drop (xs : List Nat) (k : Nat) (h : k ≤ xs.length) :
    wv xs = wv (xs.take k) + 4294967296 ^ k * wv (xs.drop k) := by
  have := wv_append (xs.take k) (xs.drop k)
  rw [List.take_append_drop, List.length_take, Nat.min_eq_left h] at this
  exact this

theorem small_nil : Small [] := fun _ h => by cases h
theorem small_cons {x : Nat} {xs : List Nat} : Small (x :: xs) ↔ x < 4294967296 ∧ Small xs := by
  simp [Small]
theorem small_append {xs ys : List Nat} : Small (xs ++ ys) ↔ Small xs ∧ Small ys := by
  simp only [Small, List.mem_append]
  exact ⟨fun h => ⟨fun x hx => h x (.inl hx), fun x hx => h x (.inr hx)⟩, fun h x hx => hx.elim (h.1 x) (h.2 x)⟩
theorem Small.take {xs : List Nat} (h : Small xs) (k : Nat) : Small (xs.take k) := fun x hx => h x (List.mem_of_mem_take hx)
theorem Small.drop {xs : List Nat} (h : Small xs) (k : Nat) : Small (xs.drop k) := fun x hx => h x (List.mem_of_mem_drop hx)
theorem Small.get {xs : List Nat} (h : Small xs) (k : Nat) (hk : k < xs.length) : xs[k] < 4294967296 := h _ (List.getElem_mem hk)
theorem Small.getD {xs : List Nat} (h : Small xs) (k : Nat) : xs.getD k 0 < 4294967296 := by
  rw [List.getD_eq_getElem?_getD]
  rcases Nat.lt_or_ge k xs.length with hk | hk
  · simp [List.getElem?_eq_getElem hk, h.get k hk]
  · simp [List.getElem?_eq_none hk]
theorem Small.set {xs : List Nat} (h : Small xs) (k : Nat) {v : Nat} (hv : v < 4294967296) : Small (xs.set k v) := by
  intro x hx
  rcases List.mem_or_eq_of_mem_set hx with hx | rfl
  · exact h x hx
  · exact hv
theorem small_replicate (n : Nat) : Small (List.replicate n 0) := fun x hx => by
  have := List.eq_of_mem_replicate hx; omega

theorem wv_lt {xs : List Nat} (h : Small xs) : wv xs < 4294967296 ^ xs.length := by
  induction xs with
  | nil => simp [wv]
  | cons x xs ih =>
    have h' := small_cons.1 h
    have := ih h'.2
    simp only [wv, List.length_cons, Nat.pow_succ]
    generalize 4294967296 ^ xs.length = p at *
    omega

theorem wv_replicate (n : Nat) : wv (List.replicate n 0) = 0 := by
  induction n with
  | zero => rfl
  | succ n ih => simp [List.replicate_succ, wv, ih]

/-- The words of a number. -/
def ofN (n : Nat) : List Nat := if h : n = 0 then [] else n % 4294967296 :: ofN (n / 4294967296)
termination_by n
decreasing_by omega

theorem ofN_zero : ofN 0 = [] := by rw [ofN]; simp
theorem ofN_pos {n : Nat} (h : n ≠ 0) : ofN n = n % 4294967296 :: ofN (n / 4294967296) := by rw [ofN]; simp [h]

theorem wv_ofN (n : Nat) : wv (ofN n) = n := by
  induction n using Nat.strongRecOn with
  | _ n ih =>
    by_cases h : n = 0
    · subst h; rw [ofN_zero]; rfl
    · rw [ofN_pos h, wv, ih _ (by omega)]; omega

theorem small_ofN (n : Nat) : Small (ofN n) := by
  induction n using Nat.strongRecOn with
  | _ n ih =>
    by_cases h : n = 0
    · subst h; rw [ofN_zero]; exact small_nil
    · rw [ofN_pos h]; exact small_cons.2 ⟨by omega, ih _ (by omega)⟩

theorem ofN_eq_nil {n : Nat} : ofN n = [] ↔ n = 0 := by
  refine ⟨fun h => ?_, fun h => by subst h; exact ofN_zero⟩
  have := wv_ofN n; rw [h] at this; exact this.symm

theorem norm_ofN (n : Nat) : Norm (ofN n) := by
  refine ⟨small_ofN n, ?_⟩
  induction n using Nat.strongRecOn with
  | _ n ih =>
    by_cases h : n = 0
    · subst h; rw [ofN_zero]; simp
    · rw [ofN_pos h]
      by_cases h2 : n / 4294967296 = 0
      · rw [h2, ofN_zero]; simp; omega
      · rw [ofN_pos h2, List.getLast?_cons_cons, ← ofN_pos h2]; exact ih _ (by omega)

theorem norm_tail {x : Nat} {xs : List Nat} (h : Norm (x :: xs)) : Norm xs := by
  refine ⟨(small_cons.1 h.1).2, ?_⟩
  cases xs with
  | nil => simp
  | cons y ys => have := h.2; rwa [List.getLast?_cons_cons] at this

theorem ofN_wv {xs : List Nat} (h : Norm xs) : ofN (wv xs) = xs := by
  induction xs with
  | nil => exact ofN_zero
  | cons x xs ih =>
    have hx := (small_cons.1 h.1).1
    have ih' := ih (norm_tail h)
    have hne : wv (x :: xs) ≠ 0 := by
      intro h0
      simp only [wv] at h0
      have hx0 : x = 0 := by omega
      have hw : wv xs = 0 := by omega
      rw [hw, ofN_zero] at ih'
      subst ih'; subst hx0
      exact h.2 rfl
    rw [ofN_pos hne]
    have e1 : wv (x :: xs) % 4294967296 = x := by simp only [wv]; omega
    have e2 : wv (x :: xs) / 4294967296 = wv xs := by simp only [wv]; omega
    rw [e1, e2, ih']

theorem norm_eq {xs ys : List Nat} (hx : Norm xs) (hy : Norm ys) (h : wv xs = wv ys) : xs = ys := by
  rw [← ofN_wv hx, ← ofN_wv hy, h]

/-- How many words stay when the noughts at the end go. -/
def tl (xs : List Nat) : Nat := (ofN (wv xs)).length

theorem length_ofN_le {n k : Nat} (h : n < 4294967296 ^ k) : (ofN n).length ≤ k := by
  induction k generalizing n with
  | zero => have : n = 0 := by simpa using h
            subst this; rw [ofN_zero]; simp
  | succ k ih =>
    by_cases h0 : n = 0
    · subst h0; rw [ofN_zero]; simp
    · rw [ofN_pos h0, List.length_cons]
      have : n / 4294967296 < 4294967296 ^ k := by
        rw [Nat.pow_succ] at h
        exact Nat.div_lt_of_lt_mul (by rw [Nat.mul_comm]; exact h)
      have := ih this
      omega

theorem le_length_ofN {n k : Nat} (h : 4294967296 ^ k ≤ n) : k + 1 ≤ (ofN n).length := by
  rcases Nat.lt_or_ge k (ofN n).length with h1 | h1
  · exact h1
  · have h2 := wv_lt (small_ofN n)
    rw [wv_ofN] at h2
    have := Nat.pow_le_pow_right (n := 4294967296) (by omega) h1
    omega

/-- Cut behind the last word that is not nought: the words of the number. -/
theorem take_eq_ofN {xs : List Nat} (hs : Small xs) {m : Nat} (hm : m ≤ xs.length)
    (hz : ∀ j, m ≤ j → xs.getD j 0 = 0) (hl : m = 0 ∨ xs.getD (m - 1) 0 ≠ 0) : xs.take m = ofN (wv xs) := by
  have hw : wv xs = wv (xs.take m) := by
    rw [wv_take_drop xs m hm]
    have : wv (xs.drop m) = 0 := by
      have he : xs.drop m = List.replicate (xs.drop m).length 0 := by
        apply List.eq_replicate_of_mem
        intro b hb
        obtain ⟨i, hi, rfl⟩ := List.mem_iff_getElem.1 hb
        have := hz (m + i) (by omega)
        rw [List.getElem_drop]
        rw [List.length_drop] at hi
        rw [List.getD_eq_getElem?_getD, List.getElem?_eq_getElem (by omega)] at this
        simpa using this
      rw [he, wv_replicate]
    rw [this]; omega
  rw [hw]
  symm
  apply ofN_wv
  refine ⟨hs.take m, ?_⟩
  rcases hl with rfl | hl
  · simp
  · intro hc
    rw [List.getLast?_eq_getElem?, List.length_take, Nat.min_eq_left hm] at hc
    rcases Nat.eq_zero_or_pos m with h0 | h0
    · subst h0; simp at hc
    · rw [List.getElem?_take_of_lt (by omega)] at hc
      rw [List.getD_eq_getElem?_getD, hc] at hl
      exact hl rfl

theorem tl_eq {xs : List Nat} (hs : Small xs) {m : Nat} (hm : m ≤ xs.length)
    (hz : ∀ j, m ≤ j → xs.getD j 0 = 0) (hl : m = 0 ∨ xs.getD (m - 1) 0 ≠ 0) : tl xs = m := by
  unfold tl
  rw [← take_eq_ofN hs hm hz hl, List.length_take, Nat.min_eq_left hm]

theorem take_tl {xs : List Nat} (hs : Small xs) : xs.take (tl xs) = ofN (wv xs) := by
  -- the greatest place that is not nought
  have key : ∀ m, m ≤ xs.length → (∀ j, m ≤ j → xs.getD j 0 = 0) → ∃ k, k ≤ xs.length ∧ (∀ j, k ≤ j → xs.getD j 0 = 0) ∧ (k = 0 ∨ xs.getD (k - 1) 0 ≠ 0) := by
    intro m
    induction m with
    | zero => intro _ h; exact ⟨0, by omega, h, .inl rfl⟩
    | succ m ih =>
      intro hm h
      by_cases h0 : xs.getD m 0 = 0
      · refine ih (by omega) fun j hj => ?_
        rcases Nat.eq_or_lt_of_le hj with rfl | hj
        · exact h0
        · exact h j hj
      · exact ⟨m + 1, hm, h, .inr (by simpa using h0)⟩
  obtain ⟨k, hk, hz, hl⟩ := key xs.length (Nat.le_refl _) (fun j hj => by rw [List.getD_eq_getElem?_getD, List.getElem?_eq_none hj]; rfl)
  rw [tl_eq hs hk hz hl]
  exact take_eq_ofN hs hk hz hl

theorem tl_le {xs : List Nat} (hs : Small xs) : tl xs ≤ xs.length := length_ofN_le (wv_lt hs)

end W
end Go.Proofs.YtihdnfhclocndaaGreatDoor
namespace Go.Proofs.YtihdnfhclocndaaGreatDoor
namespace W

/-- The word at a place; beyond the end: 0. -/
def nth (xs : List Nat) (k : Nat) : Nat := xs.getD k 0

theorem nth_lt {xs : List Nat} (h : Small xs) (k : Nat) : nth xs k < 4294967296 := h.getD k
theorem nth_ge {xs : List Nat} {k : Nat} (h : xs.length ≤ k) : nth xs k = 0 := by
  unfold nth; rw [List.getD_eq_getElem?_getD, List.getElem?_eq_none h]; rfl
theorem nth_get {xs : List Nat} {k : Nat} (h : k < xs.length) : nth xs k = xs[k] := by
  unfold nth; rw [List.getD_eq_getElem?_getD, List.getElem?_eq_getElem h]; rfl

theorem wv_take (xs : List Nat) (k : Nat) : wv (xs.take (k + 1)) = wv (xs.take k) + 4294967296 ^ k * nth xs k := by
  rcases Nat.lt_or_ge k xs.length with h | h
  · rw [nth_get h]; exact wv_take_succ xs k h
  · rw [nth_ge h, List.take_of_length_le (by omega), List.take_of_length_le h]; simp

theorem wv_drop {xs : List Nat} {k : Nat} (h : k < xs.length) : wv (xs.drop k) = nth xs k + 4294967296 * wv (xs.drop (k + 1)) := by
  rw [nth_get h, List.drop_eq_getElem_cons h]; rfl

theorem wv_snoc (os : List Nat) (x : Nat) : wv (os ++ [x]) = wv os + 4294967296 ^ os.length * x := by
  rw [wv_append]; simp [wv]

theorem wv_set {xs : List Nat} {k : Nat} (v : Nat) (h : k < xs.length) : wv (xs.set k v) + 4294967296 ^ k * nth xs k = wv xs + 4294967296 ^ k * v := by
  induction xs generalizing k with
  | nil => simp at h
  | cons x xs ih =>
    cases k with
    | zero => simp [nth, wv]; omega
    | succ k =>
      have := ih (k := k) (by simpa using h)
      have e : nth (x :: xs) (k + 1) = nth xs k := by simp [nth]
      rw [e]
      simp only [List.set_cons_succ, wv, Nat.pow_succ]
      generalize 4294967296 ^ k = p at *
      grind

theorem pow_succ_word (i : Nat) : 4294967296 ^ (i + 1) = 4294967296 ^ i * 4294967296 := Nat.pow_succ ..

/-- A round of an addition. -/
theorem add_step {V X x y os i t : Nat} (h : os + V * 4294967296 ^ i = X) (ht : t = x + V + y) :
    os + 4294967296 ^ i * (t % 4294967296) + t / 4294967296 * 4294967296 ^ (i + 1) = X + 4294967296 ^ i * x + 4294967296 ^ i * y := by
  have e := Nat.mod_add_div t 4294967296
  rw [Nat.pow_succ]
  generalize t % 4294967296 = m at *
  generalize t / 4294967296 = d at *
  generalize 4294967296 ^ i = p at *
  subst ht
  grind

/-- A round of an addition, on lists: the sum's next word and the carry. -/
theorem add_round {xs ys os : List Nat} {c t : Nat} (h : wv os + c * 4294967296 ^ os.length = wv (xs.take os.length) + wv (ys.take os.length))
    (ht : t = nth xs os.length + c + nth ys os.length) :
    wv (os ++ [t % 4294967296]) + t / 4294967296 * 4294967296 ^ (os ++ [t % 4294967296]).length =
      wv (xs.take (os ++ [t % 4294967296]).length) + wv (ys.take (os ++ [t % 4294967296]).length) := by
  rw [List.length_append, List.length_singleton, wv_snoc, wv_take, wv_take]
  have := add_step h ht
  omega

theorem take_set_snoc {zs : List Nat} {k : Nat} (v : Nat) (h : k < zs.length) : (zs.set k v).take (k + 1) = zs.take k ++ [v] := by
  rw [List.take_succ_eq_append_getElem (by simpa using h), List.getElem_set_self, List.take_set_of_le (Nat.le_refl k)]

theorem add_place {xs ys zs : List Nat} {k c t : Nat} (hk : k < zs.length) (h : wv (zs.take k) + c * 4294967296 ^ k = wv (xs.take k) + wv (ys.take k))
    (ht : t = nth xs k + c + nth ys k) :
    wv ((zs.set k (t % 4294967296)).take (k + 1)) + t / 4294967296 * 4294967296 ^ (k + 1) = wv (xs.take (k + 1)) + wv (ys.take (k + 1)) := by
  have hl : (zs.take k).length = k := by rw [List.length_take]; omega
  have := add_round (os := zs.take k) (xs := xs) (ys := ys) (c := c) (t := t) (by rw [hl]; exact h) (by rw [hl]; exact ht)
  rw [List.length_append, List.length_singleton, hl] at this
  rw [take_set_snoc _ hk]; exact this

theorem sub_place {xs ys zs : List Nat} {k c o d : Nat} (hk : k < zs.length) (h : wv (zs.take k) + wv (ys.take k) = wv (xs.take k) + c * 4294967296 ^ k)
    (ht : nth xs k + d * 4294967296 = o + c + nth ys k) :
    wv ((zs.set k o).take (k + 1)) + wv (ys.take (k + 1)) = wv (xs.take (k + 1)) + d * 4294967296 ^ (k + 1) := by
  rw [take_set_snoc _ hk, wv_snoc, wv_take, wv_take, Nat.pow_succ, List.length_take, Nat.min_eq_left (Nat.le_of_lt hk)]
  generalize 4294967296 ^ k = p at *
  grind

/-- -1, 0 or 1. -/
def cmpI (a b : Nat) : Int := if a < b then -1 else if b < a then 1 else 0

theorem cmpI_lt {a b : Nat} (h : a < b) : cmpI a b = -1 := by unfold cmpI; rw [if_pos h]
theorem cmpI_gt {a b : Nat} (h : b < a) : cmpI a b = 1 := by unfold cmpI; rw [if_neg (by omega), if_pos h]
theorem cmpI_eq (a : Nat) : cmpI a a = 0 := by unfold cmpI; rw [if_neg (by omega), if_neg (by omega)]
theorem cmpI_bd (a b : Nat) : -1 ≤ cmpI a b ∧ cmpI a b ≤ 1 := by unfold cmpI; split <;> (try split) <;> omega

theorem norm_length_lt {xs ys : List Nat} (hx : Small xs) (hy : Norm ys) (h : xs.length < ys.length) : wv xs < wv ys := by
  have h1 := wv_lt hx
  have h2 : ys = ofN (wv ys) := (ofN_wv hy).symm
  rcases Nat.lt_or_ge (wv xs) (wv ys) with h3 | h3
  · exact h3
  · have h4 : wv ys < 4294967296 ^ xs.length := by omega
    have h5 := length_ofN_le h4
    rw [← h2] at h5
    omega

theorem wv_lt_of_top {xs ys : List Nat} {k : Nat} (hx : Small xs) (hlx : k < xs.length) (hly : k < ys.length) (hd : xs.drop (k + 1) = ys.drop (k + 1)) (h : nth xs k < nth ys k) : wv xs < wv ys := by
  have h1 := wv_take_drop xs k (by omega)
  have h2 := wv_take_drop ys k (by omega)
  rw [wv_drop hlx] at h1
  rw [wv_drop hly, ← hd] at h2
  have h3 := wv_lt (hx.take k)
  rw [List.length_take, Nat.min_eq_left (by omega)] at h3
  rw [h1, h2]
  generalize wv (xs.drop (k + 1)) = r at *
  generalize wv (xs.take k) = a at *
  generalize wv (ys.take k) = b at *
  generalize 4294967296 ^ k = p at *
  obtain ⟨d, hd⟩ : ∃ d, nth ys k = nth xs k + 1 + d := ⟨nth ys k - nth xs k - 1, by omega⟩
  rw [hd]
  have : p * (nth xs k + 1 + d + 4294967296 * r) = p * (nth xs k + 4294967296 * r) + p + p * d := by grind
  omega

theorem drop_eq_cons {xs ys : List Nat} {k : Nat} (hlx : k < xs.length) (hly : k < ys.length) (hd : xs.drop (k + 1) = ys.drop (k + 1)) (h : nth xs k = nth ys k) : xs.drop k = ys.drop k := by
  rw [List.drop_eq_getElem_cons hlx, List.drop_eq_getElem_cons hly, hd, ← nth_get hlx, ← nth_get hly, h]

theorem drop_set_cons {zs : List Nat} {k : Nat} (v : Nat) (h : k < zs.length) : (zs.set k v).drop k = v :: zs.drop (k + 1) := by
  rw [List.drop_eq_getElem_cons (by simpa using h), List.getElem_set_self, List.drop_set_of_lt (by omega)]

theorem div_place {xs zs : List Nat} {d r t k : Nat} (hx : k < xs.length) (hz : k < zs.length) (h : wv (zs.drop (k + 1)) * d + r = wv (xs.drop (k + 1)))
    (ht : t = r * 4294967296 + nth xs k) : wv ((zs.set k (t / d)).drop k) * d + t % d = wv (xs.drop k) := by
  rw [drop_set_cons _ hz, wv_drop hx, wv_cons]
  have e := Nat.mod_add_div t d
  generalize t % d = a at *
  generalize t / d = q at *
  subst ht
  grind

theorem word_div_lt {r x d : Nat} (hr : r < d) (hx : x < 4294967296) : (r * 4294967296 + x) / d < 4294967296 := by
  apply Nat.div_lt_of_lt_mul
  have : (r + 1) * 4294967296 ≤ d * 4294967296 := Nat.mul_le_mul_right _ hr
  omega

/-- A round of a subtraction. -/
theorem sub_round {xs ys os : List Nat} {c o d : Nat} (h : wv os + wv (ys.take os.length) = wv (xs.take os.length) + c * 4294967296 ^ os.length)
    (ht : nth xs os.length + d * 4294967296 = o + c + nth ys os.length) :
    wv (os ++ [o]) + wv (ys.take (os ++ [o]).length) = wv (xs.take (os ++ [o]).length) + d * 4294967296 ^ (os ++ [o]).length := by
  rw [List.length_append, List.length_singleton, wv_snoc, wv_take, wv_take, Nat.pow_succ]
  generalize 4294967296 ^ os.length = p at *
  grind

/-- A round of a product by one word. -/
theorem mul_round {xs os : List Nat} {m c c0 t : Nat} (h : wv os + c * 4294967296 ^ os.length = wv (xs.take os.length) * m + c0)
    (ht : t = nth xs os.length * m + c) :
    wv (os ++ [t % 4294967296]) + t / 4294967296 * 4294967296 ^ (os ++ [t % 4294967296]).length = wv (xs.take (os ++ [t % 4294967296]).length) * m + c0 := by
  rw [List.length_append, List.length_singleton, wv_snoc, wv_take, Nat.pow_succ]
  have e := Nat.mod_add_div t 4294967296
  generalize t % 4294967296 = a at *
  generalize t / 4294967296 = d at *
  generalize 4294967296 ^ os.length = p at *
  subst ht
  grind

/-- A round of a quotient by one word, from the top down. -/
theorem div_round {xs os : List Nat} {d r t k : Nat} (hk : k < xs.length) (h : wv os * d + r = wv (xs.drop (k + 1)))
    (ht : t = r * 4294967296 + nth xs k) : wv (t / d :: os) * d + t % d = wv (xs.drop k) := by
  rw [wv_drop hk, wv_cons]
  have e := Nat.mod_add_div t d
  generalize t % d = a at *
  generalize t / d = q at *
  subst ht
  grind

/-- A round of a product in place, word by word: 'at' words stand ahead. -/
theorem plain_round {out ys : List Nat} {S x c t i j : Nat} (hij : i + j < out.length)
    (h : wv out + c * 4294967296 ^ (i + j) = S + 4294967296 ^ i * x * wv (ys.take j))
    (ht : t = x * nth ys j + nth out (i + j) + c) :
    wv (out.set (i + j) (t % 4294967296)) + t / 4294967296 * 4294967296 ^ (i + (j + 1)) = S + 4294967296 ^ i * x * wv (ys.take (j + 1)) := by
  have e := Nat.mod_add_div t 4294967296
  have s := wv_set (xs := out) (k := i + j) (t % 4294967296) hij
  rw [wv_take, ← Nat.add_assoc, Nat.pow_succ]
  rw [Nat.pow_add] at *
  generalize t % 4294967296 = a at *
  generalize t / 4294967296 = q at *
  generalize 4294967296 ^ i = p at *
  generalize 4294967296 ^ j = p2 at *
  subst ht
  grind

/-- A round of an addition in place. -/
theorem addAt_round {a b : List Nat} {S c t at_ i : Nat} (hij : at_ + i < a.length)
    (h : wv a + c * 4294967296 ^ (at_ + i) = S + 4294967296 ^ at_ * wv (b.take i))
    (ht : t = nth a (at_ + i) + c + nth b i) :
    wv (a.set (at_ + i) (t % 4294967296)) + t / 4294967296 * 4294967296 ^ (at_ + (i + 1)) = S + 4294967296 ^ at_ * wv (b.take (i + 1)) := by
  have e := Nat.mod_add_div t 4294967296
  have s := wv_set (xs := a) (k := at_ + i) (t % 4294967296) hij
  rw [wv_take, ← Nat.add_assoc, Nat.pow_succ]
  rw [Nat.pow_add] at *
  generalize t % 4294967296 = m at *
  generalize t / 4294967296 = q at *
  generalize 4294967296 ^ at_ = p at *
  generalize 4294967296 ^ i = p2 at *
  subst ht
  grind

end W
end Go.Proofs.YtihdnfhclocndaaGreatDoor
