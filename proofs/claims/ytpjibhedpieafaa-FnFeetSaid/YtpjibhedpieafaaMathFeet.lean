/- Plain laws: lag and feet. -/
import Derived.Test.YtpjibhedpieafaaMath
namespace Go.Proofs.Ytpjibhedpieafaa.M
attribute [local simp] mapN_length

/-! ### lag -/
theorem at_periodic {l : List Int} {i j : Int} (h : i % l.length = j % l.length) : at_ l i = at_ l j := by unfold at_; rw [h]
theorem lagU_periodic (l : List Int) (r i : Int) (k : Nat) : lagU l r (i % l.length) k = lagU l r i k := by
  induction k with
  | zero => exact at_mod l i
  | succ k ih =>
    simp only [lagU]; rw [ih]
    rw [at_periodic (i := i % l.length - k) (j := i - k) (by rw [Int.sub_emod, Int.emod_emod, ← Int.sub_emod])]
theorem at_lag {l : List Int} (h : 0 < l.length) (r i : Int) : at_ (mapN l.length (lagAt l r)) i = lagAt l r i := by
  rw [at_mapN _ _ h]; exact lagU_periodic l r i _
theorem lagU_get {l : List Int} {r i : Int} {k j : Nat} (h : j < k) : at_ l (i - j) - r * j ≤ lagU l r i k := by
  induction k with
  | zero => omega
  | succ k ih =>
    simp only [lagU]
    by_cases e : j = k
    · subst e; omega
    · have := ih (by omega); omega
theorem lagU_bound {l : List Int} {r i b : Int} {k : Nat} (h0 : at_ l i ≤ b) (h : ∀ j : Nat, j < k → at_ l (i - j) - r * j ≤ b) : lagU l r i k ≤ b := by
  induction k with
  | zero => exact h0
  | succ k ih => 
    simp only [lagU]
    have := ih (fun j hj => h j (by omega))
    have := h k (by omega)
    omega
theorem changeAt_mem {l : List Int} (h : 0 < l.length) (i : Int) : changeAt l i ∈ changes l := by
  refine mem_mapN.mpr ⟨(i % l.length).toNat, ?_, ?_⟩
  · have := Int.emod_lt_of_pos i (show (0 : Int) < l.length by omega); have := Int.emod_nonneg i (show (l.length : Int) ≠ 0 by omega); omega
  · have := Int.emod_nonneg i (show (l.length : Int) ≠ 0 by omega)
    rw [Int.toNat_of_nonneg this]
    unfold changeAt
    rw [at_mod, at_periodic (i := i % l.length + 1) (j := i + 1) (by rw [Int.add_emod, Int.emod_emod, ← Int.add_emod])]
theorem fall_le {l : List Int} (h : 0 < l.length) (i : Int) (j : Nat) : at_ l (i - j) - negMost (changes l) * j ≤ at_ l i := by
  induction j with
  | zero => simp
  | succ j ih =>
    have hc := (negMost_ge (changes l)).2 _ (changeAt_mem h (i - (j + 1 : Nat)))
    have e : i - ((j + 1 : Nat) : Int) + 1 = i - j := by omega
    unfold changeAt at hc
    rw [e] at hc
    have e2 : negMost (changes l) * ((j + 1 : Nat) : Int) = negMost (changes l) * j + negMost (changes l) := by rw [Int.natCast_succ, Int.mul_add]; omega
    rw [e2]; omega
/-- With the least rate there is no lag. -/
theorem lag_least {l : List Int} (h : 0 < l.length) : mapN l.length (lagAt l (negMost (changes l))) = l := by
  conv => rhs; rw [← mapN_at l]
  refine mapN_congr fun i _ => ?_
  have h1 := lagU_ge l (negMost (changes l)) i l.length
  have h2 := lagU_bound (l := l) (r := negMost (changes l)) (i := i) (b := at_ l i) (k := l.length) (Int.le_refl _) (fun j _ => fall_le h i j)
  show lagU _ _ _ _ = _
  omega
/-- With a lesser one there is. -/
theorem lag_less {l : List Int} (h : 1 < l.length) (h1 : 1 < negMost (changes l)) : mapN l.length (lagAt l (negMost (changes l) - 1)) ≠ l := by
  intro e
  rcases negMost_is (changes l) with hc | ⟨x, hx, hc⟩
  · omega
  · obtain ⟨i, hi, hxi⟩ := mem_mapN.mp hx
    have h2 := at_lag (l := l) (by omega) (negMost (changes l) - 1) (i + 1)
    rw [e] at h2
    have h3 := lagU_get (l := l) (r := negMost (changes l) - 1) (i := i + 1) (k := l.length) (j := 1) (by omega)
    have e1 : (i : Int) + 1 - ((1 : Nat) : Int) = i := by omega
    have e2 : (negMost (changes l) - 1) * ((1 : Nat) : Int) = negMost (changes l) - 1 := by simp
    rw [e1, e2] at h3
    unfold changeAt at hxi
    have h4 : lagAt l (negMost (changes l) - 1) (i + 1) = lagU l (negMost (changes l) - 1) (i + 1) l.length := rfl
    omega
/-- A lagging cam falls no faster than told. -/
theorem lag_fall {l : List Int} (h : 1 < l.length) {r : Int} (hr : 1 ≤ r) : negMost (changes (mapN l.length (lagAt l r))) ≤ r := by
  rcases negMost_is (changes (mapN l.length (lagAt l r))) with hc | ⟨x, hx, hc⟩
  · omega
  · obtain ⟨i, hi, hxi⟩ := mem_mapN.mp hx
    unfold changeAt at hxi
    rw [at_lag (by omega), at_lag (by omega)] at hxi
    have hb : lagU l r i l.length ≤ lagU l r (i + 1) l.length + r := by
      refine lagU_bound ?_ fun j hj => ?_
      · have := lagU_get (l := l) (r := r) (i := (i : Int) + 1) (k := l.length) (j := 1) h
        have e1 : (i : Int) + 1 - ((1 : Nat) : Int) = i := by omega
        rw [e1] at this
        simp at this
        omega
      · by_cases hj2 : j + 1 < l.length
        · have := lagU_get (l := l) (r := r) (i := (i : Int) + 1) (k := l.length) (j := j + 1) hj2
          have e1 : (i : Int) + 1 - ((j + 1 : Nat) : Int) = i - j := by omega
          have e2 : r * ((j + 1 : Nat) : Int) = r * j + r := by rw [Int.natCast_succ, Int.mul_add]; omega
          rw [e1, e2] at this
          omega
        · have := lagU_ge l r (i + 1) l.length
          have e1 : at_ l (i - j) = at_ l (i + 1) := by
            rw [← at_add_len l (i - j)]
            congr 1; omega
          have := Int.mul_nonneg (show 0 ≤ r by omega) (show (0 : Int) ≤ j by omega)
          omega
    have h4 : lagAt l r (i + 1) = lagU l r (i + 1) l.length := rfl
    have h5 : lagAt l r i = lagU l r i l.length := rfl
    omega
theorem lag_above {l : List Int} (r : Int) (i : Nat) (h : i < l.length) : at_ l i ≤ at_ (mapN l.length (lagAt l r)) i := by
  rw [at_lag (by omega)]; exact lagU_ge l r i _

/-! ### feet -/
theorem footU_periodic (b : Bool) (l : List Int) (f i : Int) (k : Nat) : footU b l f (i % l.length) k = footU b l f i k := by
  induction k with
  | zero => exact at_mod l i
  | succ k ih =>
    simp only [footU]; rw [ih]
    rw [at_periodic (i := i % l.length + (k - f)) (j := i + (k - f)) (by rw [Int.add_emod, Int.emod_emod, ← Int.add_emod])]
theorem at_foot (b : Bool) {l : List Int} (h : 0 < l.length) (f i : Int) : at_ (footL b l f) i = footAt b l f i := by
  unfold footL; rw [at_mapN _ _ h]; exact footU_periodic b l f i _
theorem footU_top {l : List Int} {f i : Int} {k : Nat} (j : Nat) (h : j < k) : at_ l (i + (j - f)) ≤ footU true l f i k := by
  induction k with
  | zero => omega
  | succ k ih =>
    simp only [footU, op2, if_true]
    by_cases e : j = k
    · subst e; omega
    · have := ih (by omega); omega
theorem footU_bot {l : List Int} {f i : Int} {k : Nat} (j : Nat) (h : j < k) : footU false l f i k ≤ at_ l (i + (j - f)) := by
  induction k with
  | zero => omega
  | succ k ih =>
    simp only [footU, op2, Bool.false_eq_true, if_false]
    by_cases e : j = k
    · subst e; omega
    · have := ih (by omega); omega
theorem footU_is {b : Bool} {l : List Int} {f i : Int} (hf : 0 ≤ f) (k : Nat) (hk : (k : Int) ≤ 2 * f + 1) : ∃ d : Int, -f ≤ d ∧ d ≤ f ∧ footU b l f i k = at_ l (i + d) := by
  induction k with
  | zero => exact ⟨0, by omega, by omega, by simp [footU]⟩
  | succ k ih =>
    obtain ⟨d, h1, h2, e⟩ := ih (by omega)
    rcases op2_mem (b := b) (x := footU b l f i k) (y := at_ l (i + (k - f))) with c | c
    · exact ⟨d, h1, h2, by simp only [footU]; rw [c]; exact e⟩
    · exact ⟨k - f, by omega, by omega, by simp only [footU]; rw [c]⟩
theorem foot_top {l : List Int} {f i d : Int} (h1 : -f ≤ d) (h2 : d ≤ f) : at_ l (i + d) ≤ footAt true l f i := by
  have := footU_top (l := l) (f := f) (i := i) (k := (2 * f + 1).toNat) (d + f).toNat (by omega)
  rwa [show ((d + f).toNat : Int) - f = d by omega] at this
theorem foot_bot {l : List Int} {f i d : Int} (h1 : -f ≤ d) (h2 : d ≤ f) : footAt false l f i ≤ at_ l (i + d) := by
  have := footU_bot (l := l) (f := f) (i := i) (k := (2 * f + 1).toNat) (d + f).toNat (by omega)
  rwa [show ((d + f).toNat : Int) - f = d by omega] at this
theorem foot_is {b : Bool} {l : List Int} {f i : Int} (hf : 0 ≤ f) : ∃ d : Int, -f ≤ d ∧ d ≤ f ∧ footAt b l f i = at_ l (i + d) := footU_is hf _ (by omega)
/-- The foot's lift is no less than the cam's. -/
theorem foot_ge {l : List Int} (h : 0 < l.length) {f : Int} (hf : 0 ≤ f) (i : Int) : at_ l i ≤ at_ (footL true l f) i := by
  rw [at_foot _ h]; have := foot_top (l := l) (f := f) (i := i) (d := 0) (by omega) hf; simpa using this
theorem reached_at {l : List Int} (h : 0 < l.length) (f i : Int) : at_ (reachedL l f) i = footAt false (footL true l f) f i := by
  unfold reachedL; exact at_foot _ (by rw [footL_length]; exact h) f i
theorem reached_ge {l : List Int} (h : 0 < l.length) {f : Int} (hf : 0 ≤ f) (i : Int) : at_ l i ≤ at_ (reachedL l f) i := by
  rw [reached_at h]
  obtain ⟨d, h1, h2, e⟩ := foot_is (b := false) (l := footL true l f) (i := i) hf
  rw [e, at_foot _ h]
  have := foot_top (l := l) (f := f) (i := i + d) (d := -d) (by omega) (by omega)
  rwa [show i + d + -d = i by omega] at this
theorem reached_le {l : List Int} (h : 0 < l.length) {f : Int} (hf : 0 ≤ f) (i : Int) : at_ (reachedL l f) i ≤ at_ (footL true l f) i := by
  rw [reached_at h]
  have := foot_bot (l := footL true l f) (f := f) (i := i) (d := 0) (by omega) hf
  simpa using this
/-- What a foot reaches has the same foot. -/
theorem foot_reached {l : List Int} (h : 0 < l.length) {f : Int} (hf : 0 ≤ f) : footL true (reachedL l f) f = footL true l f := by
  have hl : (reachedL l f).length = l.length := reachedL_length l f
  have hp : 0 < (reachedL l f).length := by omega
  refine eq_of_at (by rw [footL_length, footL_length, hl]) fun i _ => ?_
  rw [at_foot _ hp, at_foot _ h]
  obtain ⟨d, h1, h2, e⟩ := foot_is (b := true) (l := reachedL l f) (i := i) hf
  obtain ⟨d2, h3, h4, e2⟩ := foot_is (b := true) (l := l) (i := i) hf
  have a1 : footAt true (reachedL l f) f i ≤ footAt true l f i := by
    rw [e, reached_at h]
    have := foot_bot (l := footL true l f) (f := f) (i := i + d) (d := -d) (by omega) (by omega)
    rw [show (i : Int) + d + -d = i by omega, at_foot _ h] at this
    exact this
  have a2 : footAt true l f i ≤ footAt true (reachedL l f) f i := by
    rw [e2]
    have b1 := reached_ge h hf (i + d2)
    have b2 := foot_top (l := reachedL l f) (f := f) (i := i) (d := d2) h3 h4
    omega
  omega
/-- What a foot reaches is reached by it again. -/
theorem reached_again {l : List Int} (h : 0 < l.length) {f : Int} (hf : 0 ≤ f) : reachedL (reachedL l f) f = reachedL l f := by
  show footL false (footL true (reachedL l f) f) f = _
  rw [foot_reached h hf]; rfl
theorem reached_zero {l : List Int} (h : 0 < l.length) : reachedL l 0 = l := by
  refine eq_of_at (reachedL_length l 0) fun i _ => ?_
  have h1 := reached_ge h (f := 0) (by omega) i
  have h2 := reached_le h (f := 0) (by omega) i
  rw [at_foot _ h] at h2
  obtain ⟨d, h3, h4, e⟩ := foot_is (b := true) (l := l) (f := 0) (i := i) (by omega)
  have : d = 0 := by omega
  subst this
  rw [e] at h2
  simp at h2
  omega
theorem widF_ge (l : List Int) (k : Nat) (f : Int) : f ≤ widF l k f := by
  induction k generalizing f with
  | zero => exact Int.le_refl _
  | succ k ih => simp only [widF]; split; have := ih (f + 1); omega; omega
theorem widF_all {l : List Int} (k : Nat) (f g : Int) (h1 : f < g) (h2 : g ≤ widF l k f) : reachedL l g = l := by
  induction k generalizing f with
  | zero => simp only [widF] at h2; omega
  | succ k ih =>
    simp only [widF] at h2
    split at h2
    · rename_i e
      by_cases c : g = f + 1
      · rw [c]; exact e
      · exact ih (f + 1) (by omega) h2
    · omega
theorem widest_all {l : List Int} (h : 0 < l.length) {g : Int} (h1 : 0 ≤ g) (h2 : g ≤ widest l) : reachedL l g = l := by
  by_cases c : g = 0
  · rw [c]; exact reached_zero h
  · exact widF_all 40 0 g (by omega) h2
theorem missed_none {l : List Int} {f : Int} (h : reachedL l f = l) : missedL l f = [] := by
  have : ∀ n, filtN n (missed l f) = [] := by
    intro n
    induction n with
    | zero => rfl
    | succ n ih => rw [filtN_succ_f (by simp [missed, h])]; exact ih
  exact this _
end Go.Proofs.Ytpjibhedpieafaa.M
