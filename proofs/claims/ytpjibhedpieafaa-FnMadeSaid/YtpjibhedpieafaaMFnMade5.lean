/- What the law FnMade stands on, part 5 of 6: kinds, plain forms of functions, their walks, and plain laws. -/
import Derived.Test.YtpjibhedpieafaaMFnMade1
import Derived.Test.YtpjibhedpieafaaMFnMade2
import Derived.Test.YtpjibhedpieafaaMFnMade3
import Derived.Test.YtpjibhedpieafaaMFnMade4
namespace Go.Proofs.Ytpjibhedpieafaa.H
open Go.RowKit Go.Proofs.YtpjibhedpieafaaW.PrintWords Go.Proofs.YtpjibhedpieafaaW.PrintLast Go.Proofs.YtpjibhedpieafaaW.PrintMore
theorem Ev.succ {α : Type} {g : Nat → Option α} {r : α} (h : Ev (fun k => g (k + 1)) r) : Ev g r := Ev.step (f := fun k => g (k + 1)) (fun _ => rfl) h
theorem Ev.is {α : Type} {o : Option α} {r : α} (h : o = some r) : Ev (fun _ => o) r := ⟨0, fun _ _ => h⟩
theorem Ev.pos {α : Type} {c : Prop} [Decidable c] {f g : Nat → Option α} {r : α} (hc : c) (h : Ev f r) : Ev (fun k => if c then f k else g k) r := by simpa only [if_pos hc] using h
theorem Ev.neg {α : Type} {c : Prop} [Decidable c] {f g : Nat → Option α} {r : α} (hc : ¬ c) (h : Ev g r) : Ev (fun k => if c then f k else g k) r := by simpa only [if_neg hc] using h
theorem Ev.got {α β : Type} {o : Option α} {f : Nat → α → Option β} {a : α} {r : β} (h : o = some a) (k : Ev (fun n => f n a) r) : Ev (fun n => o.bind (f n)) r := by simpa only [h, Option.bind_some] using k
theorem Ev.at_ {α : Type} {g : Nat → Option α} {r : α} (hg : ∀ k, LeO (g k) (g (k + 1))) {k : Nat} (h : g k = some r) {j : Nat} (hj : k ≤ j) : g j = some r := at_rounds hg hj h
end Go.Proofs.Ytpjibhedpieafaa.H
namespace Go.Proofs.Ytpjibhedpieafaa.H
open Go.RowKit Go.Proofs.YtpjibhedpieafaaW.PrintWords Go.Proofs.YtpjibhedpieafaaW.PrintLast Go.Proofs.YtpjibhedpieafaaW.PrintMore Go.Proofs.Ytpjibhedpieafaa.M
theorem like_loop {code : List Int} (hc : B8 code) (hl : code.length ≤ 140737488351232) (a : List Int) (ha : a.length ≤ 1000) (m : Nat) :
    ∀ (k : Nat) (out : List Int) (i at_' s : Int), (i = out.length) → out.length ≤ a.length → a.length - out.length = m → m < k → L60 out → 0 ≤ at_' → at_' ≤ 2 * out.length →
    ∃ r, spec_P6Like.l0 k a out i code at_' s = some r ∧ r.length = a.length ∧ L60 r := by
  induction m with
  | zero =>
    intro k out i at_' s hi hle hm hk h60 h0 h1
    obtain ⟨k, rfl⟩ : ∃ p, k = p + 1 := ⟨k - 1, by omega⟩
    simp only [spec_P6Like.l0]
    rw [if_neg (by omega)]
    exact ⟨out, rfl, by omega, h60⟩
  | succ m ih =>
    intro k out i at_' s hi hle hm hk h60 h0 h1
    obtain ⟨k, rfl⟩ : ∃ p, k = p + 1 := ⟨k - 1, by omega⟩
    simp only [spec_P6Like.l0]
    rw [if_pos (by omega)]
    obtain ⟨p, a1, s1, e1, hp0, hp1, _, h3, h4⟩ := pick_some hc hl (s := s) 61 h0 (by omega) (by omega)
    have := hp1 (by omega)
    rw [e1]; simp only [Option.bind_some]
    rw [if_pos (by omega), i16_id (by omega) (by omega), wrap64_id (by omega) (by omega)]
    exact ih k (out ++ [p]) (i + 1) a1 s1 (by simp; omega) (by simp; omega) (by simp; omega) (by omega) (by intro x hx; rcases List.mem_append.mp hx with h | h; exact h60 x h; rw [List.mem_singleton.mp h]; omega) (by omega) (by simp; omega)
end Go.Proofs.Ytpjibhedpieafaa.H
namespace Go.Proofs.Ytpjibhedpieafaa.H
open Go.RowKit Go.Proofs.YtpjibhedpieafaaW.PrintWords Go.Proofs.YtpjibhedpieafaaW.PrintLast Go.Proofs.YtpjibhedpieafaaW.PrintMore Go.Proofs.Ytpjibhedpieafaa.M
attribute [local go_sem] max2_int min2_int max_two min_two max_three min_three max_four min_four
/-- A slice that reads as runs. -/
structure RunsR (w : World) (A : Option Addr) (c : Nat) (rs : List SRun) : Prop where
  rd : Kd.C k76 w A rs.length rs
  cap : rs.length ≤ c
theorem RunsR.mv {w W : World} {A : Option Addr} {c : Nat} {l : List SRun} (h : RunsR w A c l) (hb : Below w.heap.size w W) : RunsR W A c l := ⟨Kd.C_below h.rd hb, h.cap⟩
theorem RunsR.drewN {w : World} {A : Option Addr} {c : Nat} {l : List SRun} (h : RunsR w A c l) (n : Nat) : RunsR (w.drewN n) A c l := ⟨Kd.C_drewN h.rd n, h.cap⟩
theorem RunsR.alloc {w : World} {A : Option Addr} {c : Nat} {l : List SRun} (h : RunsR w A c l) (o : Obj) : RunsR (w.alloc o) A c l := h.mv (below_alloc (Below.refl _ _) o)
abbrev runsS (l : List Int) : List SRun := (runsL (kd l) l.length).map toS
theorem ok_mapN {n : Nat} {g : Int → Int} (h1 : 8 ≤ n) (h2 : n ≤ 360) (hv : ∀ i : Nat, i < n → 0 ≤ g i ∧ g i ≤ 10000) : Ok (mapN n g) :=
  ⟨by rw [mapN_length]; exact h1, by rw [mapN_length]; exact h2, fun x hx => by obtain ⟨i, hi, e⟩ := mem_mapN.mp hx; rw [← e]; exact hv i hi⟩
theorem blend_ok {l m : List Int} {s : Int} (hs : 0 ≤ s ∧ s ≤ 100) (hl : Ok l) (hm : Ok m) : ∀ i : Nat, i < l.length → 0 ≤ blendAt l m s i ∧ blendAt l m s i ≤ 10000 := fun i _ => by
  have h1 := blend_ge (a := l) (b := m) (i := i) hs.1 hs.2
  have h2 := blend_le (a := l) (b := m) (i := i) hs.1 hs.2
  have := hl.lift _ (at_mem hl.pos i)
  have := hm.lift _ (at_mem hm.pos i)
  omega
end Go.Proofs.Ytpjibhedpieafaa.H
namespace Go.Proofs.Ytpjibhedpieafaa.H
open Go.RowKit Go.Proofs.YtpjibhedpieafaaW.PrintWords Go.Proofs.YtpjibhedpieafaaW.PrintLast Go.Proofs.YtpjibhedpieafaaW.PrintMore Go.Proofs.Ytpjibhedpieafaa.M
theorem ref_val {a : List Int} (h : Ok a) {t : Nat} (ht : 1 ≤ t ∧ t ≤ 45) (i : Nat) : 0 ≤ refAt a t i ∧ refAt a t i ≤ 10000 := by
  have hm := Int.emod_nonneg (i : Int) (show (t : Int) ≠ 0 by omega)
  have hl := Int.emod_lt_of_pos (i : Int) (show 0 < (t : Int) by omega)
  have hx := h.lift _ (at_mem h.pos ((i : Int) / t))
  have hy := h.lift _ (at_mem h.pos ((i : Int) / t + 1))
  unfold refAt
  generalize at_ a ((i : Int) / t) = x at *
  generalize at_ a ((i : Int) / t + 1) = y at *
  generalize (i : Int) % t = k at *
  have e : x * (t : Int) + (y - x) * k = x * (t - k) + y * k := by rw [Int.sub_mul, Int.mul_sub]; omega
  have h1 : 0 ≤ x * ((t : Int) - k) := Int.mul_nonneg hx.1 (by omega)
  have h2 : 0 ≤ y * k := Int.mul_nonneg hy.1 hm
  have h3 : x * ((t : Int) - k) ≤ 10000 * (t - k) := Int.mul_le_mul_of_nonneg_right hx.2 (by omega)
  have h4 : y * k ≤ 10000 * k := Int.mul_le_mul_of_nonneg_right hy.2 hm
  rw [e]
  exact ⟨near_ge (by omega) (by omega), near_le (by omega) (by omega)⟩
theorem refine_l1 {a : List Int} (h : Ok a) {t : Nat} (ht : 1 ≤ t ∧ t ≤ 45) {i : Nat} (hi : i < a.length) (hn : a.length * t ≤ 360) (f : Nat) : ∀ (j k : Nat), j + f = t →
    spec_RefineCam.l1 (k + f + 1) a t (mapN (i * t + j) (refAt a t)) i (at_ a i) (at_ a (i + 1)) j = spec_RefineCam.l0 k a t (mapN ((i + 1) * t) (refAt a t)) ((i : Int) + 1) := by
  have hit : (i + 1) * t ≤ a.length * t := Nat.mul_le_mul_right t hi
  have hit2 : (i + 1) * t = i * t + t := Nat.succ_mul i t
  have hlen := h.hi
  have hx := h.lift _ (at_mem h.pos (i : Int))
  have hy := h.lift _ (at_mem h.pos ((i : Int) + 1))
  induction f with
  | zero =>
    intro j k hj
    simp only [spec_RefineCam.l1]
    rw [if_neg (by omega), wrap64_id (by omega) (by omega), show i * t + j = (i + 1) * t by omega]
  | succ f ih =>
    intro j k hj
    rw [show k + (f + 1) + 1 = (k + f + 1) + 1 by omega]
    have ih2 := ih (j + 1) k (by omega)
    generalize k + f + 1 = K at *
    simp only [spec_RefineCam.l1]
    have p1 := Int.mul_le_mul_of_nonneg_right (show at_ a ((i : Int) + 1) - at_ a i ≤ 10000 by omega) (show (0 : Int) ≤ j by omega)
    have p2 := Int.mul_le_mul_of_nonneg_right (show -10000 ≤ at_ a ((i : Int) + 1) - at_ a i by omega) (show (0 : Int) ≤ j by omega)
    rw [if_pos (by omega), wrap64_id (x := at_ a ((i : Int) + 1) - at_ a i) (by omega) (by omega), wrap64_id (x := (at_ a ((i : Int) + 1) - at_ a i) * j) (by omega) (by omega), near_some _ _ (by omega) (by omega)]
    simp only [Option.bind_some]
    have hv := ref_val h ht (i * t + j)
    have e1 : ((i * t + j : Nat) : Int) / t = i := by
      rw [show ((i * t + j : Nat) : Int) = (j : Int) + i * t by simp; omega, Int.add_mul_ediv_right _ _ (by omega), Int.ediv_eq_zero_of_lt (by omega) (by omega)]; omega
    have e2 : ((i * t + j : Nat) : Int) % t = j := by
      rw [show ((i * t + j : Nat) : Int) = (j : Int) + i * t by simp; omega, Int.add_mul_emod_self_right, Int.emod_eq_of_lt (by omega) (by omega)]
    have e : at_ a i + near ((at_ a ((i : Int) + 1) - at_ a i) * j) t = refAt a t ((i * t + j : Nat) : Int) := by
      rw [ref_at a (by omega), e1, e2]
    rw [e, if_pos (by rw [mapN_length]; omega), wrap64_id (x := refAt a t ((i * t + j : Nat) : Int)) (by omega) (by omega), i16_id (by omega) (by omega), wrap64_id (x := (j : Int) + 1) (by omega) (by omega), ← mapN_succ]
    exact ih2
theorem refine_l0 {a : List Int} (h : Ok a) {t : Nat} (ht : 1 ≤ t ∧ t ≤ 45) (hn : a.length * t ≤ 360) (m : Nat) : ∀ (i k : Nat), i + m = a.length → m * (t + 2) + 1 ≤ k →
    spec_RefineCam.l0 k a t (mapN (i * t) (refAt a t)) i = some (mapN (a.length * t) (refAt a t), 0) := by
  have hlen := h.hi
  induction m with
  | zero =>
    intro i k hi hk
    obtain ⟨k, rfl⟩ : ∃ p, k = p + 1 := ⟨k - 1, by omega⟩
    simp only [spec_RefineCam.l0]
    rw [if_neg (by omega), show i = a.length by omega]
  | succ m ih =>
    intro i k hi hk
    rw [Nat.succ_mul] at hk
    obtain ⟨k, rfl⟩ : ∃ p, k = p + t + 1 + 1 := ⟨k - t - 2, by omega⟩
    simp only [spec_RefineCam.l0]
    rw [if_pos (by omega), at_some h _ (by omega)]; simp only [Option.bind_some]
    rw [wrap64_id (x := (i : Int) + 1) (by omega) (by omega), at_some h _ (by omega)]; simp only [Option.bind_some]
    have := refine_l1 h ht (i := i) (by omega) hn t 0 k (by omega)
    simp only [Nat.add_zero] at this
    rw [show ((0 : Nat) : Int) = 0 from rfl] at this
    rw [this]
    exact ih (i + 1) k (by omega) (by omega)
theorem RefineCam_some {a : List Int} (h : Ok a) {t : Nat} (ht : 1 ≤ t ∧ t ≤ 45) (hn : a.length * t ≤ 360) : spec_RefineCam.f 3000 a t = some (mapN (a.length * t) (refAt a t), 0) := by
  have hlen := h.hi
  have hlo := h.lo
  have hge := Nat.mul_le_mul hlo ht.1
  have hc : ((t : Int) * (a.length : Int)) = ((a.length * t : Nat) : Int) := by rw [Int.natCast_mul, Int.mul_comm]
  unfold spec_RefineCam.f spec_l01Times.f
  rw [ok_some h _ (by omega)]; simp only [Option.bind_some]; rw [if_pos trivial, in_some]; simp only [Option.bind_some]
  rw [if_pos (by simp; omega), hc, wrap64_id (by omega) (by omega), steps_some]; simp only [Option.bind_some]
  rw [if_pos (by simp; omega)]
  have h2 : a.length * (t + 2) = a.length * t + a.length * 2 := Nat.mul_add _ _ _
  have := refine_l0 h ht hn a.length 0 3000 (by omega) (by omega)
  rw [Nat.zero_mul] at this
  exact this
end Go.Proofs.Ytpjibhedpieafaa.H
namespace Go.Proofs.Ytpjibhedpieafaa.H
open Go.RowKit Go.Proofs.YtpjibhedpieafaaW.PrintWords Go.Proofs.YtpjibhedpieafaaW.PrintLast Go.Proofs.YtpjibhedpieafaaW.PrintMore Go.Proofs.Ytpjibhedpieafaa.M
theorem L60.at {l : List Int} (h : L60 l) (hk : Ok l) (i : Int) : 0 ≤ at_ l i ∧ at_ l i ≤ 60 := h _ (at_mem hk.pos i)
abbrev upL (l : List Int) : List Int := mapN l.length (raiseAt l 7)
abbrev dblL (l : List Int) : List Int := mapN l.length (scaleAt l 2 1)
theorem up_val {l : List Int} (h : L60 l) (hk : Ok l) (i : Nat) (_ : i < l.length) : 0 ≤ raiseAt l 7 i ∧ raiseAt l 7 i ≤ 10000 := by have := h.at hk i; unfold raiseAt; omega
theorem dbl_val {l : List Int} (h : L60 l) (hk : Ok l) (i : Nat) (_ : i < l.length) : 0 ≤ scaleAt l 2 1 i ∧ scaleAt l 2 1 i ≤ 10000 := by
  have := h.at hk i; unfold scaleAt
  have e := near_self (x := at_ l i * 2) (t := 1) (by omega)
  rw [Int.mul_one] at e; rw [e]; omega
theorem sum_val {l m : List Int} (h : L60 l) (hk : Ok l) (h2 : L60 m) (hk2 : Ok m) (i : Nat) (_ : i < l.length) : 0 ≤ addAt l m i ∧ addAt l m i ≤ 10000 := by have := h.at hk i; have := h2.at hk2 i; unfold addAt; omega
end Go.Proofs.Ytpjibhedpieafaa.H
namespace Go.Proofs.Ytpjibhedpieafaa.H
open Go.RowKit Go.Proofs.YtpjibhedpieafaaW.PrintWords Go.Proofs.YtpjibhedpieafaaW.PrintLast Go.Proofs.YtpjibhedpieafaaW.PrintMore Go.Proofs.Ytpjibhedpieafaa.M
theorem same_loop (l : List Int) (hn : l.length ≤ 1099511627776) (m : Nat) : ∀ i : Nat, i + m = l.length → Ev (fun k => spec_l01Same.l0 k l l i) true := by
  induction m with
  | zero =>
    intro i hi
    refine Ev.succ ?_
    simp only [spec_l01Same.l0]
    exact Ev.neg (by omega) (Ev.now _)
  | succ m ih =>
    intro i hi
    refine Ev.succ ?_
    simp only [spec_l01Same.l0]
    refine Ev.pos (by omega) (Ev.pos (by omega) (Ev.pos (by omega) (Ev.pos (by trivial) ?_)))
    rw [wrap64_id (by omega) (by omega)]
    exact ih (i + 1) (by omega)
theorem SameCam_ev (l : List Int) (hn : l.length ≤ 1099511627776) : Ev (fun k => spec_SameCam.f k l l) true := by
  unfold spec_SameCam.f spec_l01Same.f
  refine Ev.bind (a := true) (Ev.pos rfl ?_) (Ev.now _)
  exact same_loop l hn l.length 0 (by omega)
section
variable {a b : List Int} {n : Int}
theorem made_l0 (code : List Int) (ha : Ok a) (hb : Ok b) (hl : a.length = b.length) (h60 : L60 a) (hb60 : L60 b) {s : Int} (hs : 0 ≤ s ∧ s ≤ 100) {R : Bool}
    (hend : Ev (fun k => laws_FnMade.l0 k code a b n (mapN a.length (addAt a b)) (mapN a.length (blendAt a b s)) (a.length : Int)) R) (m : Nat) : ∀ i : Nat, i + m = a.length →
    Ev (fun k => laws_FnMade.l0 k code a b n (mapN a.length (addAt a b)) (mapN a.length (blendAt a b s)) (i : Int)) R := by
  have hlen := ha.hi
  induction m with
  | zero =>
    intro i hi
    obtain rfl : i = a.length := by omega
    exact hend
  | succ m ih =>
    intro i hi
    refine Ev.succ ?_
    simp only [laws_FnMade.l0]
    have e6 : (mapN a.length (blendAt a b s)).length = a.length := mapN_length _ _
    have e4 : (mapN a.length (addAt a b)).length = a.length := mapN_length _ _
    have r1 : rd a i = at_ a i := by rw [rd_get a i (by omega), at_nat (by omega)]
    have r2 : rd b i = at_ b i := by rw [rd_get b i (by omega), at_nat (by omega)]
    have r4 : rd (mapN a.length (addAt a b)) i = at_ a i + at_ b i := by rw [rd_get _ i (by omega), mapN_get]
    have r6 : rd (mapN a.length (blendAt a b s)) i = blendAt a b s i := by rw [rd_get _ i (by omega), mapN_get]
    have g1 := h60.at ha i
    have g2 := hb60.at hb i
    have g6 := blend_ge (a := a) (b := b) (i := i) hs.1 hs.2
    have g7 := blend_le (a := a) (b := b) (i := i) hs.1 hs.2
    rw [r1, r2, r4, r6, i16_id (x := at_ a i + at_ b i) (by omega) (by omega)]
    refine Ev.pos (by omega) (Ev.pos (by omega) (Ev.pos (by omega) (Ev.pos (by omega) (Ev.pos (by omega) (Ev.pos rfl (Ev.neg ?_ (Ev.neg ?_ ?_)))))))
    · unfold mn; omega
    · unfold mx; omega
    · rw [wrap64_id (by omega) (by omega)]
      exact ih (i + 1) (by omega)
end
theorem rd_runs (rs : List Run) (i : Nat) (h : i < rs.length) : rd_T76 (rs.map toS) i = toS rs[i] := by
  unfold rd_T76
  rw [Int.toNat_natCast, List.getD_eq_getElem?_getD, List.getElem?_map, List.getElem?_eq_getElem h]; rfl
theorem kind_up (d : Int) : decide (d > 0) = (kindOf d == 1) := by unfold kindOf; split <;> (try split) <;> simp <;> omega
theorem kind_down (d : Int) : decide (d < 0) = (kindOf d == -1) := by unfold kindOf; split <;> (try split) <;> simp <;> omega
section
variable {a : List Int} {rs : List Run} {s : Nat → Int}
theorem runs_inner (ha : Ok a) (ht : Go.Proofs.Ytpjibhedpieafaa.M.Told (kd a) a.length rs s) {all : Int} {i : Nat} (hi : i < rs.length) {R : Bool}
    (hend : Ev (fun k => laws_FnMade.l1 k (a.length : Int) (rs.map toS) (changes a) all ((i : Int) + 1)) R) (m : Nat) : ∀ j : Nat, (j : Int) + m = s (i + 1) - s i →
    Ev (fun k => laws_FnMade.l2 k (a.length : Int) (rs.map toS) (changes a) all i (j : Int) (kd a (s i)) (s i % a.length) (s (i + 1) - s i)) R := by
  have h1 := ha.hi; have h0 := ha.lo
  have hl := ht.len i hi
  have hm := ht.most
  have e0 := Int.emod_nonneg (s i) (show (a.length : Int) ≠ 0 by omega)
  have e1 := Int.emod_lt_of_pos (s i) (show (0 : Int) < a.length by omega)
  have hc : (changes a).length = a.length := by simp [changes, mapN_length]
  induction m with
  | zero =>
    intro j hj
    refine Ev.succ ?_
    simp only [laws_FnMade.l2]
    rw [wrap64_id (x := s (i + 1) - s i) (by omega) (by omega), wrap64_id (x := (i : Int) + 1) (by omega) (by omega)]
    exact Ev.neg (by omega) hend
  | succ m ih =>
    intro j hj
    refine Ev.succ ?_
    simp only [laws_FnMade.l2]
    have f0 := Int.emod_nonneg (s i % a.length + j) (show (a.length : Int) ≠ 0 by omega)
    have f1 := Int.emod_lt_of_pos (s i % a.length + j) (show (0 : Int) < a.length by omega)
    have hs := ht.same i hi j (by omega) (by omega)
    have hr : rd (changes a) ((s i % (a.length : Int) + j) % a.length) = changeAt a ((s i % (a.length : Int) + j) % a.length) := by
      have := rd_changes (l := a) (by omega) ((s i % (a.length : Int) + j) % a.length)
      rwa [Int.emod_emod] at this
    rw [wrap64_id (x := s (i + 1) - s i) (by omega) (by omega), wrap64_id (x := s i % (a.length : Int)) (by omega) (by omega), wrap64_id (x := s i % (a.length : Int) + j) (by omega) (by omega), wrap64_id (x := (j : Int) + 1) (by omega) (by omega), Int.tmod_eq_emod_of_nonneg (show 0 ≤ s i % (a.length : Int) + j by omega), hr, kind_up, kind_down]
    refine Ev.pos (by omega) (Ev.neg (by omega) (Ev.pos f0 (Ev.pos (by rw [hc]; exact f1) (Ev.neg ?_ (Ev.neg ?_ (ih (j + 1) (by omega)))))))
    · rw [show kindOf (changeAt a ((s i % (a.length : Int) + j) % a.length)) = kd a (s i) from hs]; simp
    · rw [show kindOf (changeAt a ((s i % (a.length : Int) + j) % a.length)) = kd a (s i) from hs]; simp
theorem runs_outer (ha : Ok a) (ht : Go.Proofs.Ytpjibhedpieafaa.M.Told (kd a) a.length rs s) (m : Nat) : ∀ i : Nat, i + m = rs.length →
    Ev (fun k => laws_FnMade.l1 k (a.length : Int) (rs.map toS) (changes a) (s i - s 0) (i : Int)) true := by
  have h1 := ha.hi; have h0 := ha.lo
  have hm := ht.most
  have hlen : (rs.map toS).length = rs.length := List.length_map ..
  have hmono : ∀ i, i ≤ rs.length → 0 ≤ s i - s 0 ∧ s i - s 0 ≤ 360 * i := by
    intro i; induction i with
    | zero => intro _; simp
    | succ i ih => intro hi; have := ih (by omega); have := ht.len i (by omega); omega
  induction m with
  | zero =>
    intro i hi
    obtain rfl : i = rs.length := by omega
    refine Ev.succ ?_
    simp only [laws_FnMade.l1]
    refine Ev.neg (by omega) ?_
    have := ht.all
    rw [show s rs.length - s 0 = (a.length : Int) by omega]
    simpa using Ev.now true
  | succ m ih =>
    intro i hi
    have hl := ht.len i (by omega)
    have hmo := hmono i (by omega)
    have hnext : Ev (fun k => laws_FnMade.l1 k (a.length : Int) (rs.map toS) (changes a) (s (i + 1) - s 0) ((i : Int) + 1)) true := ih (i + 1) (by omega)
    have e0 := Int.emod_nonneg (s i) (show (a.length : Int) ≠ 0 by omega)
    have e1 := Int.emod_lt_of_pos (s i) (show (0 : Int) < a.length by omega)
    have hin := runs_inner ha ht (show i < rs.length by omega) hnext (s (i + 1) - s i).toNat 0 (by omega)
    have hj6 : Ev (fun k => laws_FnMade.j6 k (a.length : Int) (rs.map toS) (changes a) (s (i + 1) - s 0) i false (kd a (s i)) (s i % a.length) (s (i + 1) - s i)) true := by
      refine Ev.succ ?_
      simp only [laws_FnMade.j6]
      exact Ev.neg (by simp) hin
    have hr : rd_T76 (rs.map toS) i = ⟨kd a (s i), s i % a.length, s (i + 1) - s i⟩ := by rw [rd_runs rs i (by omega), ht.run i (by omega)]
    refine Ev.succ ?_
    simp only [laws_FnMade.l1]
    rw [hr]
    simp only
    rw [wrap64_id (x := s (i + 1) - s i) (by omega) (by omega), wrap64_id (x := s i - s 0 + (s (i + 1) - s i)) (by omega) (by omega), show s i - s 0 + (s (i + 1) - s i) = s (i + 1) - s 0 by omega, wrap64_id (x := s i % (a.length : Int)) (by omega) (by omega), wrap64_id (x := s i % (a.length : Int) + (s (i + 1) - s i)) (by omega) (by omega), wrap64_id (x := (i : Int) + 1) (by omega) (by omega)]
    refine Ev.pos (by omega) (Ev.pos (by omega) (Ev.neg (by omega) ?_))
    by_cases hone : 1 < rs.length
    · obtain ⟨hj, hk, hp⟩ := ht.next i (by omega) hone
      have ej : Int.tmod ((i : Int) + 1) ((rs.map toS).length : Int) = (((i + 1) % rs.length : Nat) : Int) := by
        rw [hlen, Int.tmod_eq_emod_of_nonneg (by omega)]; simp
      have hq := rd_runs rs _ hj
      rw [ej, hq]
      have f0 := Int.emod_nonneg (s i % a.length + (s (i + 1) - s i)) (show (a.length : Int) ≠ 0 by omega)
      have f1 := Int.emod_lt_of_pos (s i % a.length + (s (i + 1) - s i)) (show (0 : Int) < a.length by omega)
      refine Ev.pos (by omega) (Ev.neg (by omega) (Ev.pos (by omega) (Ev.pos (by omega) (Ev.neg hk (Ev.neg (by omega) ?_)))))
      rw [show (toS rs[(i + 1) % rs.length]).f1 = (s i % a.length + (s (i + 1) - s i)) % a.length from hp, wrap64_id (x := (s i % (a.length : Int) + (s (i + 1) - s i)) % a.length) (by omega) (by omega), Int.tmod_eq_emod_of_nonneg (by omega)]
      simpa using hj6
    · exact Ev.neg (by omega) hj6
end
theorem FnMade_ev {code more : List Int} (hc : B8 code) (hm : B8 more) (hcl : code.length ≤ 4096) (hml : more.length ≤ 4096) : Ev (fun k => laws_FnMade.j0 k code more false) true := by
  obtain ⟨a, ea, ha, h60, h36⟩ := P6Cam_some hc (by omega)
  obtain ⟨b, eb, hbl, hb60⟩ := like_loop hm (by omega) a (by omega) a.length 400 [] 0 0 0 rfl (by simp) (by simp) (by omega) (fun x hx => by cases hx) (by omega) (by simp)
  have hlen := ha.hi; have hlo := ha.lo
  have hb : Ok b := ⟨by omega, by omega, fun x hx => by have := hb60 x hx; omega⟩
  obtain ⟨s, es, hs0, hs1, _⟩ := P6Pick_some hm (by omega) 101 (by omega)
  have hs : 0 ≤ s ∧ s ≤ 100 := ⟨hs0, by have := hs1 (by omega); omega⟩
  obtain ⟨p, ep, hp0, hp1, _⟩ := P6Pick_some hc (by omega) 5 (by omega)
  have hp2 := hp1 (by omega)
  have hlab : a.length = b.length := by omega
  have hsum : ∀ i : Nat, i < a.length → 0 ≤ addAt a b i ∧ addAt a b i ≤ 10000 := sum_val h60 ha hb60 hb
  have hbl2 := blend_ok hs ha hb
  have va := (validB_iff a).mpr ha
  have vb := (validB_iff b).mpr hb
  have hup : Ok (upL a) := ok_mapN hlo hlen (up_val h60 ha)
  have hdb : Ok (dblL a) := ok_mapN hlo hlen (dbl_val h60 ha)
  -- the end
  obtain ⟨t, ht⟩ := runsL_told (kd_per a) (show 2 ≤ a.length by omega)
  have hEnd : Ev (fun k => laws_FnMade.j3 k a (a.length : Int) false) true := by
    refine Ev.succ ?_
    simp only [laws_FnMade.j3]
    refine Ev.neg (by simp) (Ev.got (a := (runsS a, 0)) ?_ (Ev.bind (a := (runsS a, 0)) (Ev.of (spec_RunsOf.mono a) (RunsOf_some ha)) (Ev.bind (a := (changes a, 0)) (Ev.of (spec_ChangesOf.mono a) (ChangesOf_some ha)) ?_)))
    · unfold impl_RunsOf.f impl_Cam_runs.f
      rw [ValidCam_some ha]; simp only [Option.bind_some]; rw [if_pos trivial, if_pos va]; rfl
    · have hmost := ht.most
      have hsome := ht.some_
      have hrl : (runsS a).length = (runsL (kd a) a.length).length := List.length_map ..
      refine Ev.pos rfl (Ev.pos rfl (Ev.bind (a := true) (Ev.of (spec_SameRuns.mono _ _) (SameRuns_some (runsS a) (by omega))) (Ev.pos rfl (Ev.pos rfl ?_))))
      rw [show decide (((runsS a).length : Int) < 1) = false from decide_eq_false (by omega)]
      refine Ev.succ ?_
      simp only [laws_FnMade.j4]
      refine Ev.neg (by simp) ?_
      have := runs_outer ha ht (runsL (kd a) a.length).length 0 (by omega)
      simpa using this
  have hMid : Ev (fun k => laws_FnMade.l0 k code a b (a.length : Int) (mapN a.length (addAt a b)) (mapN a.length (blendAt a b s)) (a.length : Int)) true := by
    obtain ⟨u, hu⟩ : ∃ u : Nat, (u : Int) = 1 + p := ⟨(1 + p).toNat, by omega⟩
    have hu5 : 1 ≤ u ∧ u ≤ 5 := by omega
    have hau : a.length * u ≤ 360 := Nat.le_trans (Nat.mul_le_mul h36 hu5.2) (by omega)
    have hau8 : 8 ≤ a.length * u := Nat.le_trans hlo (Nat.le_trans (by omega) (Nat.mul_le_mul_left a.length hu5.1))
    have href := fun i (_ : i < a.length * u) => ref_val ha (t := u) (by omega) i
    have hf : Ok (mapN (a.length * u) (refAt a u)) := ok_mapN hau8 hau href
    have e6 : (mapN a.length (blendAt a b s)).length = a.length := mapN_length _ _
    have eF : (mapN (a.length * u) (refAt a u)).length = a.length * u := mapN_length _ _
    have eD : a.length * u / u = a.length := Nat.mul_div_cancel _ (by omega)
    have eT := thin_back a u (by omega) ha.pos
    have hslow := ref_slow a u (by omega) ha.pos
    refine Ev.succ ?_
    simp only [laws_FnMade.l0]
    refine Ev.neg (by omega) (Ev.got ep ?_)
    rw [wrap64_id (x := 1 + p) (by omega) (by omega), ← hu]
    refine Ev.got (a := (mapN (a.length * u) (refAt a u), 0)) ?_ (Ev.bind (a := (mapN (a.length * u) (refAt a u), 0)) (Ev.of (spec_RefineCam.mono a u) (RefineCam_some ha (by omega) hau)) (Ev.got (a := (a, 0)) ?_ (Ev.got (a := (greatAt (changes a), big (changes a), 0)) ?_ (Ev.got (a := (greatAt (changes (mapN (a.length * u) (refAt a u))), big (changes (mapN (a.length * u) (refAt a u))), 0)) ?_ ?_))))
    · unfold impl_RefineCam.f
      rw [Int.toNat_natCast]
      exact made_mk (by simp [va]; omega) (lifts_of href)
    · unfold impl_ThinCam.f
      simp only [Int.toNat_natCast, eF, eD]
      rw [eT]
      exact made_mk (by rw [(validB_iff _).mpr hf]; simp; omega) (liftsB_iff.mpr ha.lift)
    · unfold impl_SteepestOf.f; rw [if_pos va]
    · unfold impl_SteepestOf.f; rw [if_pos ((validB_iff _).mpr hf)]
    · refine Ev.pos rfl (Ev.pos rfl (Ev.bind (a := true) (SameCam_ev _ (by dsimp only; omega)) (Ev.pos rfl (Ev.pos rfl (Ev.bind (a := true) (SameCam_ev _ (by dsimp only; omega)) (Ev.pos rfl (Ev.pos rfl (Ev.pos rfl ?_))))))))
      simp only
      rw [show decide (big (changes (mapN (a.length * u) (refAt a u))) > big (changes a)) = false from decide_eq_false (by omega)]
      exact hEnd
  -- the begin
  refine Ev.succ ?_
  simp only [laws_FnMade.j0]
  refine Ev.neg (by simp) (Ev.bind (a := a) (Ev.of (spec_P6Cam.mono code) ea) (Ev.bind (a := b) (Ev.of (spec_P6Like.mono more a) (show spec_P6Like.f 400 more a = some b by unfold spec_P6Like.f spec_l00From.f; simp only [Option.bind_some]; exact eb)) ?_))
  refine Ev.got (a := (mapN a.length (addAt a b), 0)) ?_ (Ev.bind (a := (mapN a.length (addAt a b), 0)) (Ev.of (spec_AddCams.mono a b) (AddCams_some ha hb hlab hsum)) (Ev.got es ?_))
  · exact made_mk (by simp [va, vb]; omega) (lifts_of hsum)
  refine Ev.got (a := (mapN a.length (blendAt a b s), 0)) ?_ (Ev.bind (a := (mapN a.length (blendAt a b s), 0)) (Ev.of (spec_BlendCams.mono a b s) (BlendCams_some hs ha hb hlab hbl2)) ?_)
  · exact made_mk (by simp [va, vb]; omega) (lifts_of hbl2)
  refine Ev.got (a := (upL a, 0)) ?_ (Ev.got (a := (a, 0)) ?_ (Ev.got (a := (dblL a, 0)) ?_ (Ev.got (a := (a, 0)) ?_ ?_)))
  · exact made_mk (by simp [va]) (lifts_of (up_val h60 ha))
  · have e := raise_back a 7
    unfold impl_RaiseCam.f
    simp only
    rw [show mapN (upL a).length (raiseAt (upL a) (-7)) = a from e]
    exact made_mk (by rw [(validB_iff _).mpr hup]; simp) (liftsB_iff.mpr ha.lift)
  · exact made_mk (by simp [va]) (lifts_of (dbl_val h60 ha))
  · have e := scale_back a
    unfold impl_ScaleCam.f
    simp only
    rw [show mapN (dblL a).length (scaleAt (dblL a) 1 2) = a from e]
    exact made_mk (by rw [(validB_iff _).mpr hdb]; simp) (liftsB_iff.mpr ha.lift)
  have l4 : (mapN a.length (addAt a b)).length = a.length := mapN_length _ _
  have l6 : (mapN a.length (blendAt a b s)).length = a.length := mapN_length _ _
  refine Ev.pos rfl (Ev.pos rfl (Ev.bind (a := true) (SameCam_ev _ (by dsimp only; omega)) (Ev.pos rfl (Ev.pos rfl (Ev.pos rfl (Ev.bind (a := true) (SameCam_ev _ (by dsimp only; omega)) (Ev.pos rfl (Ev.pos rfl (Ev.pos rfl (Ev.bind (a := true) (SameCam_ev _ (by dsimp only; omega)) (Ev.pos rfl (Ev.pos rfl (Ev.pos rfl (Ev.bind (a := true) (SameCam_ev _ (by dsimp only; omega)) ?_))))))))))))))
  refine Ev.succ ?_
  simp only [laws_FnMade.j1]
  refine Ev.neg (by simp) ?_
  exact made_l0 code ha hb hlab h60 hb60 hs hMid a.length 0 (by omega)
end Go.Proofs.Ytpjibhedpieafaa.H
namespace Go.Proofs.Ytpjibhedpieafaa.Pure
open Go.RowKit Go.Proofs.Ytpjibhedpieafaa.H Go.Proofs.YtpjibhedpieafaaW.PrintWords
theorem FnMade : laws_FnMade.Pure := by
  intro l0 l1 _ hl0 hw0 _ hl1 hw1
  have b0 : B8 l0 := fun x hx => by have hz := hw0 x hx; simp [Lit.wf] at hz; exact ⟨hz.1, hz.2⟩
  have b1 : B8 l1 := fun x hx => by have hz := hw1 x hx; simp [Lit.wf] at hz; exact ⟨hz.1, hz.2⟩
  refine Ev.rounds (g := fun k => laws_FnMade.f k l0 l1) ?_
  unfold laws_FnMade.f laws_f6big.f
  simp only [Option.bind_some]
  have hlong : Ev (fun k => laws_FnMade.j0 k l0 l1 true) true := Ev.succ (by simp only [laws_FnMade.j0]; exact Ev.pos (by trivial) (Ev.now _))
  by_cases h0 : (l0.length : Int) > 4096
  · exact Ev.pos (by simpa using h0) hlong
  · refine Ev.neg (by simpa using h0) ?_
    by_cases h1 : (l1.length : Int) > 4096
    · rw [show decide ((l1.length : Int) > 4096) = true from decide_eq_true h1]; exact hlong
    · rw [show decide ((l1.length : Int) > 4096) = false from decide_eq_false h1]; exact FnMade_ev b0 b1 (by omega) (by omega)
end Go.Proofs.Ytpjibhedpieafaa.Pure
