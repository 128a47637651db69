/- Plain words on cams: lists of lifts that go round. -/
namespace Go.Proofs.Ytpjibhedpieafaa.M

/-- The lift at a step that may be any number. -/
def at_ (l : List Int) (i : Int) : Int := l.getD (i % (l.length : Int)).toNat 0
abbrev I16 (l : List Int) : Prop := ∀ x ∈ l, -32768 ≤ x ∧ x ≤ 32767
def isLiftB (x : Int) : Bool := decide (0 ≤ x) && decide (x ≤ 10000)
def isStepsB (n : Int) : Bool := decide (8 ≤ n) && decide (n ≤ 360)
def validB (l : List Int) : Bool := isStepsB l.length && !(l.any fun x => !isLiftB x)
/-- A valid cam. -/
structure Ok (l : List Int) : Prop where
  lo : 8 ≤ l.length
  hi : l.length ≤ 360
  lift : ∀ x ∈ l, 0 ≤ x ∧ x ≤ 10000
theorem validB_iff (l : List Int) : validB l = true ↔ Ok l := by
  unfold validB isStepsB isLiftB
  simp only [Bool.and_eq_true, decide_eq_true_eq, Bool.not_eq_true', List.any_eq_false, Bool.not_eq_true, Bool.not_eq_false', Bool.and_eq_true, decide_eq_true_eq]
  constructor
  · rintro ⟨⟨h1, h2⟩, h3⟩; exact ⟨by omega, by omega, fun x hx => by simpa using h3 x hx⟩
  · rintro ⟨h1, h2, h3⟩; exact ⟨⟨by omega, by omega⟩, fun x hx => by simpa using h3 x hx⟩
theorem Ok.i16 {l : List Int} (h : Ok l) : I16 l := fun x hx => by have := h.lift x hx; omega
theorem Ok.pos {l : List Int} (h : Ok l) : 0 < l.length := by have := h.lo; omega

theorem at_mem {l : List Int} (h : 0 < l.length) (i : Int) : at_ l i ∈ l := by
  unfold at_
  have h1 : 0 ≤ i % (l.length : Int) := Int.emod_nonneg _ (by omega)
  have h2 : i % (l.length : Int) < l.length := Int.emod_lt_of_pos _ (by omega)
  rw [List.getD_eq_getElem?_getD, List.getElem?_eq_getElem (by omega)]
  exact List.getElem_mem _
theorem at_nat {l : List Int} {i : Nat} (h : i < l.length) : at_ l i = l[i] := by
  unfold at_
  have : (i : Int) % (l.length : Int) = i := Int.emod_eq_of_lt (by omega) (by omega)
  rw [this]; simp [h]
theorem at_add_len (l : List Int) (i : Int) : at_ l (i + l.length) = at_ l i := by unfold at_; rw [Int.add_emod_right]
theorem at_mod (l : List Int) (i : Int) : at_ l (i % l.length) = at_ l i := by unfold at_; rw [Int.emod_emod]

/-- What a function tells of the first n numbers. -/
def mapN (n : Nat) (g : Int → Int) : List Int := (List.range n).map fun i => g (i : Nat)
theorem mapN_zero (g : Int → Int) : mapN 0 g = [] := rfl
theorem mapN_succ (n : Nat) (g : Int → Int) : mapN (n + 1) g = mapN n g ++ [g n] := by simp [mapN, List.range_succ]
theorem mapN_length (n : Nat) (g : Int → Int) : (mapN n g).length = n := by simp [mapN]
attribute [local simp] mapN_length
theorem mapN_get (n : Nat) (g : Int → Int) (i : Nat) (h : i < (mapN n g).length) : (mapN n g)[i] = g i := by simp [mapN]
theorem at_mapN {n : Nat} (g : Int → Int) (i : Int) (h : 0 < n) : at_ (mapN n g) i = g (i % n) := by
  unfold at_
  have h1 : 0 ≤ i % (n : Int) := Int.emod_nonneg _ (by omega)
  have h2 : i % (n : Int) < n := Int.emod_lt_of_pos _ (by omega)
  have h3 : (i % (n : Int)).toNat < (mapN n g).length := by simp; omega
  rw [mapN_length, List.getD_eq_getElem?_getD, List.getElem?_eq_getElem h3, Option.getD_some, mapN_get]
  congr 1; omega
theorem mem_mapN {n : Nat} {g : Int → Int} {x : Int} : x ∈ mapN n g ↔ ∃ i : Nat, i < n ∧ g i = x := by simp [mapN]
theorem mapN_congr {n : Nat} {g h : Int → Int} (e : ∀ i : Nat, i < n → g i = h i) : mapN n g = mapN n h := by
  unfold mapN; exact List.map_congr_left fun i hi => e i (List.mem_range.mp hi)
theorem mapN_at (l : List Int) : mapN l.length (at_ l) = l := by
  apply List.ext_getElem (by simp)
  intro i h1 h2
  rw [mapN_get]; exact at_nat h2
theorem eq_of_at {a b : List Int} (h : a.length = b.length) (e : ∀ i : Nat, i < a.length → at_ a i = at_ b i) : a = b := by
  rw [← mapN_at a, ← mapN_at b, h]; exact mapN_congr fun i hi => e i (by omega)

/-- Go's quotient rounded down. -/
theorem floor_tdiv {a b : Int} (hb : 0 < b) : a.tdiv b - (if a.tmod b < 0 then 1 else 0) = a / b := by
  rw [Int.tdiv_eq_ediv, Int.tmod_eq_emod]
  have h1 := Int.emod_nonneg a (show b ≠ 0 by omega)
  have h2 := Int.emod_lt_of_pos a hb
  have hn : (b.natAbs : Int) = b := by omega
  by_cases h : 0 ≤ a ∨ b ∣ a
  · simp only [if_pos h]; split <;> omega
  · simp only [if_neg h, Int.sign_eq_one_of_pos hb]; split <;> omega

/-! ### changes -/
abbrev changeAt (l : List Int) (i : Int) : Int := at_ l (i + 1) - at_ l i
def changes (l : List Int) : List Int := mapN l.length (changeAt l)
/-- The least of some numbers, of which there is one at least. -/
def minL : List Int → Int
  | [] => 0
  | x :: xs => xs.foldl min x
def maxL : List Int → Int
  | [] => 0
  | x :: xs => xs.foldl max x
theorem foldl_min_le (xs : List Int) (m : Int) : xs.foldl min m ≤ m ∧ ∀ x ∈ xs, xs.foldl min m ≤ x := by
  induction xs generalizing m with
  | nil => simp
  | cons y ys ih => 
    have h := ih (min m y)
    simp only [List.foldl_cons]
    refine ⟨by omega, fun x hx => ?_⟩
    rcases List.mem_cons.mp hx with rfl | hx
    · omega
    · exact h.2 x hx
theorem foldl_min_mem (xs : List Int) (m : Int) : xs.foldl min m = m ∨ xs.foldl min m ∈ xs := by
  induction xs generalizing m with
  | nil => simp
  | cons y ys ih =>
    simp only [List.foldl_cons, List.mem_cons]
    rcases ih (min m y) with h | h
    · rw [h]; by_cases c : m ≤ y
      · left; omega
      · right; left; omega
    · right; right; exact h
theorem foldl_max_ge (xs : List Int) (m : Int) : m ≤ xs.foldl max m ∧ ∀ x ∈ xs, x ≤ xs.foldl max m := by
  induction xs generalizing m with
  | nil => simp
  | cons y ys ih => 
    have h := ih (max m y)
    simp only [List.foldl_cons]
    refine ⟨by omega, fun x hx => ?_⟩
    rcases List.mem_cons.mp hx with rfl | hx
    · omega
    · exact h.2 x hx
theorem foldl_max_mem (xs : List Int) (m : Int) : xs.foldl max m = m ∨ xs.foldl max m ∈ xs := by
  induction xs generalizing m with
  | nil => simp
  | cons y ys ih =>
    simp only [List.foldl_cons, List.mem_cons]
    rcases ih (max m y) with h | h
    · rw [h]; by_cases c : y ≤ m
      · left; omega
      · right; left; omega
    · right; right; exact h
theorem minL_le {xs : List Int} {x : Int} (h : x ∈ xs) : minL xs ≤ x := by
  cases xs with
  | nil => cases h
  | cons y ys => 
    have := foldl_min_le ys y
    rcases List.mem_cons.mp h with rfl | h
    · exact this.1
    · exact this.2 _ h
theorem minL_mem {xs : List Int} (h : xs ≠ []) : minL xs ∈ xs := by
  cases xs with
  | nil => exact absurd rfl h
  | cons y ys =>
    rcases foldl_min_mem ys y with e | e
    · simp [minL, e]
    · simp only [minL]; exact List.mem_cons_of_mem _ e
theorem le_maxL {xs : List Int} {x : Int} (h : x ∈ xs) : x ≤ maxL xs := by
  cases xs with
  | nil => cases h
  | cons y ys => 
    have := foldl_max_ge ys y
    rcases List.mem_cons.mp h with rfl | h
    · exact this.1
    · exact this.2 _ h
theorem maxL_mem {xs : List Int} (h : xs ≠ []) : maxL xs ∈ xs := by
  cases xs with
  | nil => exact absurd rfl h
  | cons y ys =>
    rcases foldl_max_mem ys y with e | e
    · simp [maxL, e]
    · simp only [maxL]; exact List.mem_cons_of_mem _ e
/-- The greatest of 1 and the opposites of some numbers. -/
def negMost (xs : List Int) : Int := xs.foldl (fun m x => max m (-x)) 1
theorem foldl_neg (xs : List Int) (m : Int) : xs.foldl (fun m x => max m (-x)) m = (xs.map fun x => -x).foldl max m := by rw [List.foldl_map]
theorem negMost_ge (xs : List Int) : 1 ≤ negMost xs ∧ ∀ x ∈ xs, -x ≤ negMost xs := by
  unfold negMost; rw [foldl_neg]
  have h := foldl_max_ge (xs.map fun x => -x) 1
  exact ⟨h.1, fun x hx => h.2 _ (List.mem_map_of_mem hx)⟩
theorem negMost_is (xs : List Int) : negMost xs = 1 ∨ ∃ x ∈ xs, negMost xs = -x := by
  unfold negMost; rw [foldl_neg]
  rcases foldl_max_mem (xs.map fun x => -x) 1 with h | h
  · exact .inl h
  · obtain ⟨x, hx, e⟩ := List.mem_map.mp h; exact .inr ⟨x, hx, e.symm⟩
theorem negMost_min {xs : List Int} (h : xs ≠ []) : negMost xs = max 1 (-(minL xs)) := by
  have h1 := negMost_ge xs
  have h2 := h1.2 _ (minL_mem h)
  rcases negMost_is xs with e | ⟨x, hx, e⟩
  · omega
  · have := minL_le hx; omega

/-! ### lag -/
/-- The greatest of what the first k steps before lift, with a damper. -/
def lagU (l : List Int) (r i : Int) : Nat → Int
  | 0 => at_ l i
  | j + 1 => max (lagU l r i j) (at_ l (i - j) - r * j)
abbrev lagAt (l : List Int) (r i : Int) : Int := lagU l r i l.length
theorem lagU_one (l : List Int) (r i : Int) : lagU l r i 1 = at_ l i := by simp [lagU]
theorem lagU_ge (l : List Int) (r i : Int) (k : Nat) : at_ l i ≤ lagU l r i k := by
  induction k with
  | zero => exact Int.le_refl _
  | succ k ih => simp only [lagU]; omega
theorem lagU_le (l : List Int) (r i : Int) (k : Nat) (b : Int) (h : ∀ x ∈ l, x ≤ b) (hl : 0 < l.length) (hr : 0 ≤ r) : lagU l r i k ≤ b := by
  induction k with
  | zero => exact h _ (at_mem hl _)
  | succ k ih =>
    simp only [lagU]
    have := h _ (at_mem hl (i - k))
    have := Int.mul_nonneg hr (show (0 : Int) ≤ k by omega)
    omega

/-! ### feet -/
def op2 (b : Bool) (x y : Int) : Int := if b then max x y else min x y
def footU (b : Bool) (l : List Int) (f i : Int) : Nat → Int
  | 0 => at_ l i
  | k + 1 => op2 b (footU b l f i k) (at_ l (i + (k - f)))
abbrev footAt (b : Bool) (l : List Int) (f i : Int) : Int := footU b l f i (2 * f + 1).toNat
def footL (b : Bool) (l : List Int) (f : Int) : List Int := mapN l.length (footAt b l f)
def reachedL (l : List Int) (f : Int) : List Int := footL false (footL true l f) f
theorem op2_mem {b : Bool} {x y : Int} : op2 b x y = x ∨ op2 b x y = y := by unfold op2; cases b <;> simp <;> omega
theorem footU_mem (b : Bool) {l : List Int} (h : 0 < l.length) (f i : Int) (k : Nat) : footU b l f i k ∈ l := by
  induction k with
  | zero => exact at_mem h _
  | succ k ih =>
    rcases op2_mem (b := b) (x := footU b l f i k) (y := at_ l (i + (k - f))) with e | e
    · simp only [footU]; rw [e]; exact ih
    · simp only [footU]; rw [e]; exact at_mem h _
theorem footL_length (b : Bool) (l : List Int) (f : Int) : (footL b l f).length = l.length := by simp [footL]
theorem footL_sub {b : Bool} {l : List Int} (h : 0 < l.length) {f x : Int} (hx : x ∈ footL b l f) : x ∈ l := by
  obtain ⟨i, _, e⟩ := mem_mapN.mp hx
  rw [← e]; exact footU_mem b h f i _
theorem footL_ok {b : Bool} {l : List Int} (h : Ok l) (f : Int) : Ok (footL b l f) :=
  ⟨by rw [footL_length]; exact h.lo, by rw [footL_length]; exact h.hi, fun x hx => h.lift x (footL_sub h.pos hx)⟩
theorem reachedL_ok {l : List Int} (h : Ok l) (f : Int) : Ok (reachedL l f) := footL_ok (footL_ok h f) f
theorem reachedL_length (l : List Int) (f : Int) : (reachedL l f).length = l.length := by simp [reachedL, footL_length]

/-! ### numbers that are told by a property -/
def filtN (n : Nat) (p : Int → Bool) : List Int := ((List.range n).filter fun i => p (i : Nat)).map fun i => ((i : Nat) : Int)
theorem filtN_zero (p : Int → Bool) : filtN 0 p = [] := rfl
theorem filtN_succ_t {n : Nat} {p : Int → Bool} (h : p n = true) : filtN (n + 1) p = filtN n p ++ [(n : Int)] := by simp [filtN, List.range_succ, List.filter_append, h]
theorem filtN_succ_f {n : Nat} {p : Int → Bool} (h : p n = false) : filtN (n + 1) p = filtN n p := by simp [filtN, List.range_succ, List.filter_append, h]
theorem filtN_le (n : Nat) (p : Int → Bool) : (filtN n p).length ≤ n := by
  unfold filtN; rw [List.length_map]; have := List.length_filter_le (fun i : Nat => p (i : Nat)) (List.range n); simpa using this
theorem mem_filtN {n : Nat} {p : Int → Bool} {x : Int} : x ∈ filtN n p ↔ 0 ≤ x ∧ x < n ∧ p x = true := by
  unfold filtN
  simp only [List.mem_map, List.mem_filter, List.mem_range]
  constructor
  · rintro ⟨i, ⟨h1, h2⟩, rfl⟩; exact ⟨by omega, by omega, h2⟩
  · rintro ⟨h1, h2, h3⟩; exact ⟨x.toNat, ⟨by omega, by rwa [Int.toNat_of_nonneg h1]⟩, by omega⟩
/-- The steps that a foot does not reach. -/
abbrev missed (l : List Int) (f i : Int) : Bool := decide (at_ (reachedL l f) i ≠ at_ l i)
abbrev missedL (l : List Int) (f : Int) : List Int := filtN l.length (missed l f)
/-- The widest foot, looked for from a foot on. -/
def widF (l : List Int) : Nat → Int → Int
  | 0, f => f
  | k + 1, f => if reachedL l (f + 1) = l then widF l k (f + 1) else f
abbrev widest (l : List Int) : Int := widF l 40 0
end Go.Proofs.Ytpjibhedpieafaa.M
