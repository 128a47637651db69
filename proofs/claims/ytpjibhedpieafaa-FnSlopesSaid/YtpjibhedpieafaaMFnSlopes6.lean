/- What the law FnSlopes stands on, part 6 of 7: kinds, plain forms of functions, their walks, and plain laws. -/
import Derived.Test.YtpjibhedpieafaaMFnSlopes1
import Derived.Test.YtpjibhedpieafaaMFnSlopes2
import Derived.Test.YtpjibhedpieafaaMFnSlopes3
import Derived.Test.YtpjibhedpieafaaMFnSlopes4
import Derived.Test.YtpjibhedpieafaaMFnSlopes5
set_option linter.unusedVariables false
set_option linter.unusedSimpArgs false
namespace Go.Proofs.Ytpjibhedpieafaa.H
open Go.RowKit Go.Proofs.YtpjibhedpieafaaW.PrintWords Go.Proofs.YtpjibhedpieafaaW.PrintLast Go.Proofs.YtpjibhedpieafaaW.PrintMore
theorem Ev.succ {α : Type} {g : Nat → Option α} {r : α} (h : Ev (fun k => g (k + 1)) r) : Ev g r := Ev.step (f := fun k => g (k + 1)) (fun _ => rfl) h
theorem Ev.is {α : Type} {o : Option α} {r : α} (h : o = some r) : Ev (fun _ => o) r := ⟨0, fun _ _ => h⟩
theorem Ev.pos {α : Type} {c : Prop} [Decidable c] {f g : Nat → Option α} {r : α} (hc : c) (h : Ev f r) : Ev (fun k => if c then f k else g k) r := by simpa only [if_pos hc] using h
theorem Ev.neg {α : Type} {c : Prop} [Decidable c] {f g : Nat → Option α} {r : α} (hc : ¬ c) (h : Ev g r) : Ev (fun k => if c then f k else g k) r := by simpa only [if_neg hc] using h
theorem Ev.got {α β : Type} {o : Option α} {f : Nat → α → Option β} {a : α} {r : β} (h : o = some a) (k : Ev (fun n => f n a) r) : Ev (fun n => o.bind (f n)) r := by simpa only [h, Option.bind_some] using k
theorem Ev.at_ {α : Type} {g : Nat → Option α} {r : α} (hg : ∀ k, LeO (g k) (g (k + 1))) {k : Nat} (h : g k = some r) {j : Nat} (hj : k ≤ j) : g j = some r := at_rounds hg hj h
end Go.Proofs.Ytpjibhedpieafaa.H
namespace Go.Proofs.Ytpjibhedpieafaa.H
open Go.RowKit Go.Proofs.YtpjibhedpieafaaW.PrintWords Go.Proofs.YtpjibhedpieafaaW.PrintLast Go.Proofs.YtpjibhedpieafaaW.PrintMore Go.Proofs.Ytpjibhedpieafaa.M
attribute [local go_sem] max2_int min2_int max_two min_two max_three min_three max_four min_four
/-- A slice that reads as int64s. -/
structure NumR (w : World) (A : Option Addr) (c : Nat) (l : List Int) : Prop where
  rd : Kd.C (Kd.int .i64) w A l.length l
  cap : l.length ≤ c
theorem NumR.mv {w W : World} {A : Option Addr} {c : Nat} {l : List Int} (h : NumR w A c l) (hb : Below w.heap.size w W) : NumR W A c l := ⟨Kd.C_below h.rd hb, h.cap⟩
theorem NumR.drewN {w : World} {A : Option Addr} {c : Nat} {l : List Int} (h : NumR w A c l) (n : Nat) : NumR (w.drewN n) A c l := ⟨Kd.C_drewN h.rd n, h.cap⟩
theorem NumR.alloc {w : World} {A : Option Addr} {c : Nat} {l : List Int} (h : NumR w A c l) (o : Obj) : NumR (w.alloc o) A c l := h.mv (below_alloc (Below.refl _ _) o)
end Go.Proofs.Ytpjibhedpieafaa.H
namespace Go.Proofs.Ytpjibhedpieafaa.H
open Go.RowKit Go.Proofs.YtpjibhedpieafaaW.PrintWords Go.Proofs.YtpjibhedpieafaaW.PrintLast Go.Proofs.YtpjibhedpieafaaW.PrintMore Go.Proofs.Ytpjibhedpieafaa.M
abbrev B8 (l : List Int) : Prop := ∀ x ∈ l, 0 ≤ x ∧ x ≤ 255
theorem rd_mem {l : List Int} {i : Int} (h0 : 0 ≤ i) (h1 : i < l.length) : rd l i ∈ l := by
  have h : i.toNat < l.length := by omega
  unfold rd; rw [List.getD_eq_getElem?_getD, List.getElem?_eq_getElem h]; exact List.getElem_mem _
theorem u64_bd (x : Int) : 0 ≤ IntKind.u64.wrap x ∧ IntKind.u64.wrap x < 18446744073709551616 := by
  unfold IntKind.wrap; simp only [IntKind.bits, IntKind.signed, Bool.false_and, if_false, show (2 : Int) ^ 64 = 18446744073709551616 from rfl]
  simp only [Bool.false_eq_true, if_false]
  omega
theorem u64_wraps (n : Int) (h₀ : 0 ≤ n) (h₁ : n < 2 ^ 64) : IntKind.u64.wrap n = n := by
  unfold IntKind.wrap; simp only [IntKind.bits, IntKind.signed, Bool.false_and, Bool.false_eq_true, if_false]
  exact Int.emod_eq_of_lt h₀ h₁
theorem u64_and255 {x : Int} (h0 : 0 ≤ x) (h1 : x < 18446744073709551616) : Go.bits .and .u64 x 255 = x % 256 := bits_mask .u64 64 (by decide) u64_wraps 8 (by decide) x h0 (by simpa using h1)
/-- The next number. -/
theorem next_some {code : List Int} (hc : B8 code) (hl : code.length ≤ 140737488351232) {a s : Int} (h0 : 0 ≤ a) (h1 : a ≤ 1099511627776) : ∃ r s', spec_l00Src_next.f code a s = some (r, a + 1, s') ∧ 0 ≤ r ∧ r ≤ 255 := by
  have hw : wrap64 (a + 1) = a + 1 := wrap64_id (by omega) (by omega)
  have tail : ∀ X : Int, 0 ≤ wrap64 (Go.bits .and .u64 (IntKind.u64.wrap X / 1099511627776) 255) ∧ wrap64 (Go.bits .and .u64 (IntKind.u64.wrap X / 1099511627776) 255) ≤ 255 := by
    intro X
    have := u64_bd X
    rw [u64_and255 (by omega) (by omega), wrap64_id (by omega) (by omega)]
    omega
  unfold spec_l00Src_next.f
  rw [hw]
  by_cases h : a < (code.length : Int)
  · rw [if_pos h, if_pos h0]
    have hb := hc _ (rd_mem h0 h)
    rw [if_pos (by omega)]
    exact ⟨_, _, rfl, by rw [wrap64_id (by omega) (by omega)]; exact hb.1, by rw [wrap64_id (by omega) (by omega)]; exact hb.2⟩
  · rw [if_neg h, if_neg (by omega)]
    exact ⟨_, _, rfl, (tail _).1, (tail _).2⟩
/-- A pick. -/
theorem pick_some {code : List Int} (hc : B8 code) (hl : code.length ≤ 140737488351232) {a s : Int} (n : Int) (h0 : 0 ≤ a) (h1 : a ≤ 1099511627000) (hn : n ≤ 9000000000000) : ∃ r a' s', spec_l00Src_pick.f code a s n = some (r, a', s') ∧ 0 ≤ r ∧ (0 < n → r < n) ∧ (n ≤ 0 → r = 0) ∧ a ≤ a' ∧ a' ≤ a + 2 := by
  unfold spec_l00Src_pick.f
  by_cases h : n ≤ 1
  · rw [if_pos h]; exact ⟨0, a, s, rfl, by omega, by omega, by omega, by omega, by omega⟩
  · rw [if_neg h]
    obtain ⟨r, s', e, hr0, hr1⟩ := next_some hc hl (s := s) h0 (by omega)
    rw [e]; simp only [Option.bind_some]
    by_cases h2 : n > 200
    · rw [if_pos h2]
      obtain ⟨r2, s2, e2, hr20, hr21⟩ := next_some hc hl (a := a + 1) (s := s') (by omega) (by omega)
      rw [e2]; simp only [Option.bind_some]; rw [if_neg (by omega)]
      refine ⟨_, _, _, rfl, ?_, ?_, by omega, by omega, by omega⟩
      · rw [wrap64_id (x := r * 256) (by omega) (by omega), wrap64_id (by omega) (by omega)]; exact Int.tmod_nonneg _ (by omega)
      · intro _; exact Int.tmod_lt_of_pos _ (by omega)
    · rw [if_neg h2, if_neg (by omega)]
      exact ⟨_, _, _, rfl, Int.tmod_nonneg _ hr0, fun _ => Int.tmod_lt_of_pos _ (by omega), by omega, by omega, by omega⟩
/-- Lifts of at most 60. -/
abbrev L60 (l : List Int) : Prop := ∀ x ∈ l, 0 ≤ x ∧ x ≤ 60
theorem one_some {code : List Int} (hc : B8 code) (hl : code.length ≤ 140737488351232) {a s : Int} (h0 : 0 ≤ a) (h1 : a ≤ 1099511627000) : ∃ b a' s', spec_l00Src_one.f code a s 8 = some (b, a', s') ∧ a ≤ a' ∧ a' ≤ a + 2 := by
  unfold spec_l00Src_one.f
  obtain ⟨r, a', s', e, _, _, _, h3, h4⟩ := pick_some hc hl (s := s) 8 h0 h1 (by omega)
  rw [e]; exact ⟨_, _, _, rfl, h3, h4⟩
/-- What a cam that is drawn is like. -/
structure Drw (n : Int) (l : List Int) : Prop where
  len : (l.length : Int) = n
  lift : L60 l
theorem drawn_end {code : List Int} (hc : B8 code) (hl : code.length ≤ 140737488351232) {n : Int} (hn : n ∈ [8, 9, 12, 16, 24, 36]) {out : List Int} (ho : (out.length : Int) = n) (h60 : L60 out) {lift a s : Int} (h0 : 0 ≤ a) (h1 : a ≤ 1099511627000) (k : Nat) :
    ∃ r a' s', spec_l01Drawn.l0 (k + 1) n out lift code a s = some (r, a', s') ∧ Drw n r ∧ a ≤ a' ∧ a' ≤ a + 2 := by
  have hn' : 8 ≤ n ∧ n ≤ 36 := by simp at hn; omega
  obtain ⟨b, a', s', e, h3, h4⟩ := one_some hc hl (s := s) h0 h1
  simp only [spec_l01Drawn.l0]
  rw [if_neg (by omega), e]; simp only [Option.bind_some]
  have ht : Int.tdiv n 2 = n / 2 := Int.tdiv_eq_ediv_of_nonneg (by omega)
  have ht2 : Int.tmod n 2 = n % 2 := Int.tmod_eq_emod_of_nonneg (by omega)
  rw [ht, ht2, wrap64_id (x := n / 2) (by omega) (by omega)]
  cases b with
  | false => exact ⟨out, a', s', by simp, ⟨ho, h60⟩, h3, h4⟩
  | true =>
    simp only [if_true]
    rw [if_pos (by omega), if_pos (by omega)]
    by_cases hp : n % 2 = 0
    · rw [if_pos hp]
      have hlen : (out.take (n / 2).toNat).length = (n / 2).toNat := by rw [List.length_take]; omega
      rw [if_pos (by simp; omega), if_pos (by simp; omega)]
      refine ⟨_, _, _, rfl, ⟨?_, ?_⟩, h3, h4⟩
      · simp; omega
      · intro x hx
        simp at hx
        exact h60 x (List.mem_of_mem_take hx)
    · rw [if_neg hp]; exact ⟨out, a', s', rfl, ⟨ho, h60⟩, h3, h4⟩
/-- The loops: fuel enough, a cam comes out. -/
theorem drawn_loop {code : List Int} (hc : B8 code) (hl : code.length ≤ 140737488351232) {n : Int} (hn : n ∈ [8, 9, 12, 16, 24, 36]) (m : Nat) :
    (∀ (k : Nat) (out : List Int) (lift a s : Int), k ≤ m → n - out.length ≤ 36 → (out.length : Int) ≤ n → 20 * (n - out.length) + 2 ≤ k → L60 out → 0 ≤ lift → lift ≤ 60 → 0 ≤ a → a ≤ 1000000000 + 4 * out.length → ∃ r a' s', spec_l01Drawn.l0 k n out lift code a s = some (r, a', s') ∧ Drw n r ∧ a ≤ a' ∧ a' ≤ 1000000002 + 4 * n) ∧
    (∀ (k : Nat) (out : List Int) (lift by_ x7 a s : Int), k ≤ m → n - out.length ≤ 36 → (out.length : Int) ≤ n → (20 * (n - out.length) + 4 ≤ k ∨ (0 < x7 ∧ (out.length : Int) < n ∧ 20 * (n - out.length) + 1 ≤ k)) → L60 out → 0 ≤ lift → lift ≤ 60 → -10 ≤ by_ → by_ ≤ 10 → 0 ≤ x7 → x7 ≤ 10 → 0 ≤ a → (a ≤ 1000000000 + 4 * out.length ∨ (0 < x7 ∧ (out.length : Int) < n ∧ a ≤ 1000000004 + 4 * out.length)) → ∃ r a' s', spec_l01Drawn.l1 k n out lift by_ x7 code a s = some (r, a', s') ∧ Drw n r ∧ a ≤ a' ∧ a' ≤ 1000000002 + 4 * n) := by
  have hn' : 8 ≤ n ∧ n ≤ 36 := by simp at hn; omega
  induction m with
  | zero => exact ⟨fun k out lift a s hk _ _ hf => by omega, fun k out lift by_ x7 a s hk _ _ hf => by omega⟩
  | succ m ih =>
    obtain ⟨ih0, ih1⟩ := ih
    refine ⟨?_, ?_⟩
    · intro k out lift a s hk h36 hle hf h60 hl0 hl1 ha0 ha1
      obtain ⟨k, rfl⟩ : ∃ p, k = p + 1 := ⟨k - 1, by omega⟩
      by_cases hlt : (out.length : Int) < n
      · simp only [spec_l01Drawn.l0]
        rw [if_pos hlt]
        obtain ⟨p, a1, s1, e1, hp0, hp1, _, h3, h4⟩ := pick_some hc hl (s := s) 7 ha0 (by omega) (by omega)
        rw [e1]; simp only [Option.bind_some]
        obtain ⟨q, a2, s2, e2, hq0, hq1, _, h5, h6⟩ := pick_some hc hl (a := a1) (s := s1) 5 (by omega) (by omega) (by omega)
        rw [e2]; simp only [Option.bind_some]
        have := hp1 (by omega)
        have := hq1 (by omega)
        rw [wrap64_id (x := p - 3) (by omega) (by omega), wrap64_id (x := 1 + q) (by omega) (by omega)]
        obtain ⟨r, a', s', e, hd, h7, h8⟩ := ih1 k out lift (p - 3) (1 + q) a2 s2 (by omega) h36 hle (.inr ⟨by omega, hlt, by omega⟩) h60 hl0 hl1 (by omega) (by omega) (by omega) (by omega) (by omega) (.inr ⟨by omega, hlt, by omega⟩)
        exact ⟨r, a', s', e, hd, by omega, h8⟩
      · obtain ⟨r, a', s', e, hd, h3, h4⟩ := drawn_end hc hl hn (out := out) (by omega) h60 (lift := lift) (s := s) ha0 (by omega) k
        exact ⟨r, a', s', e, hd, h3, by omega⟩
    · intro k out lift by_ x7 a s hk h36 hle hf h60 hl0 hl1 hb0 hb1 hx0 hx1 ha0 ha1
      obtain ⟨k, rfl⟩ : ∃ p, k = p + 2 := ⟨k - 2, by omega⟩
      simp only [spec_l01Drawn.l1]
      by_cases hgo : 0 < x7 ∧ (out.length : Int) < n
      · rw [if_pos (by omega)]
        simp only [spec_l01Drawn.j2]
        rw [if_pos (by simpa using hgo.2)]
        have em : ∀ x y : Int, spec_l00Min.f x y = some (if x < y then x else y) := by intro x y; unfold spec_l00Min.f; split <;> rfl
        have ex : ∀ x y : Int, spec_l00Max.f x y = some (if x > y then x else y) := by intro x y; unfold spec_l00Max.f; split <;> rfl
        rw [em]; simp only [Option.bind_some]; rw [ex]; try simp only [Option.bind_some]
        rw [if_pos (by omega), wrap64_id (x := lift + by_) (by omega) (by omega), wrap64_id (x := x7 - 1) (by omega) (by omega)]
        obtain ⟨z, hz⟩ : ∃ z, (if (0 : Int) > (if 60 < lift + by_ then 60 else lift + by_) then 0 else (if 60 < lift + by_ then 60 else lift + by_)) = z := ⟨_, rfl⟩
        rw [hz]
        have hz2 : 0 ≤ z ∧ z ≤ 60 := by rw [← hz]; split <;> split <;> omega
        rw [i16_id (by omega) (by omega)]
        obtain ⟨r, a', s', e, hd, h7, h8⟩ := ih1 k (out ++ [z]) z by_ (x7 - 1) a s (by omega) (by simp; omega) (by simp; omega) (.inl (by simp; omega)) (by intro x hx; rcases List.mem_append.mp hx with h | h; exact h60 x h; rw [List.mem_singleton.mp h]; exact hz2) hz2.1 hz2.2 hb0 hb1 (by omega) (by omega) ha0 (.inl (by simp; omega))
        exact ⟨r, a', s', e, hd, h7, h8⟩
      · have hstep : ∀ b : Bool, b = false → spec_l01Drawn.j2 (k + 1) n out lift by_ x7 b code a s = spec_l01Drawn.l0 k n out lift code a s := by intro b hb; simp only [spec_l01Drawn.j2]; rw [hb]; simp
        have h20 : 20 * (n - out.length) + 4 ≤ ((k + 2 : Nat) : Int) := by rcases hf with h | h; exact h; omega
        have ha2 : a ≤ 1000000000 + 4 * out.length := by rcases ha1 with h | h; exact h; omega
        obtain ⟨r, a', s', e, hd, h7, h8⟩ := ih0 k out lift a s (by omega) h36 hle (by omega) h60 hl0 hl1 ha0 ha2
        refine ⟨r, a', s', ?_, hd, h7, h8⟩
        split
        · rw [hstep _ (by simp; omega)]; exact e
        · rw [hstep _ rfl]; exact e
theorem drawn_some {code : List Int} (hc : B8 code) (hl : code.length ≤ 140737488351232) {a s : Int} (h0 : 0 ≤ a) (h1 : a ≤ 900000000) : ∃ r a' s', spec_l01Drawn.f 1000 code a s = some (r, a', s') ∧ (8 ≤ r.length ∧ r.length ≤ 36) ∧ L60 r ∧ a ≤ a' ∧ a' ≤ 1000000200 := by
  unfold spec_l01Drawn.f spec_l00Src_among.f
  obtain ⟨p, a1, s1, e1, hp0, hp1, _, h3, h4⟩ := pick_some hc hl (s := s) 6 h0 (by omega) (by omega)
  have := hp1 (by omega)
  simp only [List.length_cons, List.length_nil]
  simp only [show ((0 + 1 + 1 + 1 + 1 + 1 + 1 : Nat) : Int) = 6 from rfl]
  rw [e1]; simp only [Option.bind_some]; rw [if_pos hp0, if_pos (by omega)]; try simp only [Option.bind_some]
  obtain ⟨q, a2, s2, e2, hq0, hq1, _, h5, h6⟩ := pick_some hc hl (a := a1) (s := s1) 20 (by omega) (by omega) (by omega)
  have := hq1 (by omega)
  rw [e2]; simp only [Option.bind_some]
  have hm : rd [8, 9, 12, 16, 24, 36] p ∈ ([8, 9, 12, 16, 24, 36] : List Int) := rd_mem hp0 (by simp; omega)
  generalize rd [8, 9, 12, 16, 24, 36] p = n at hm
  have hn' : 8 ≤ n ∧ n ≤ 36 := by simp at hm; omega
  obtain ⟨r, a', s', e, hd, h7, h8⟩ := (drawn_loop hc hl hm 1000).1 1000 [] q a2 s2 (by omega) (by simp; omega) (by simp; omega) (by simp; omega) (fun x hx => by cases hx) (by omega) (by omega) (by omega) (by simp; omega)
  have := hd.len
  exact ⟨r, a', s', e, ⟨by omega, by omega⟩, hd.lift, by omega, by omega⟩
theorem P6Cam_some {code : List Int} (hc : B8 code) (hl : code.length ≤ 140737488351232) : ∃ r, spec_P6Cam.f 1000 code = some r ∧ Ok r ∧ L60 r ∧ r.length ≤ 36 := by
  unfold spec_P6Cam.f spec_l00From.f
  simp only [Option.bind_some]
  obtain ⟨r, a', s', e, h1, h2, _, _⟩ := drawn_some hc hl (a := 0) (s := 0) (by omega) (by omega)
  rw [e]
  exact ⟨r, rfl, ⟨h1.1, by omega, fun x hx => by have := h2 x hx; omega⟩, h2, h1.2⟩
theorem P6Pick_some {code : List Int} (hc : B8 code) (hl : code.length ≤ 140737488351232) (n : Int) (hn : n ≤ 9000000000000) : ∃ r, spec_P6Pick.f code n = some r ∧ 0 ≤ r ∧ (0 < n → r < n) ∧ (n ≤ 0 → r = 0) := by
  unfold spec_P6Pick.f spec_l00From.f
  simp only [Option.bind_some]
  obtain ⟨r, a', s', e, h1, h2, h3, _⟩ := pick_some hc hl (a := 0) (s := 0) n (by omega) (by omega) hn
  rw [e]
  exact ⟨r, rfl, h1, h2, h3⟩
/-- A slice that reads as bytes. -/
structure BytR (w : World) (A : Option Addr) (c : Nat) (l : List Int) : Prop where
  rd : Kd.C (Kd.int .u8) w A l.length l
  cap : l.length ≤ c
  b8 : B8 l
  len : l.length ≤ 140737488351232
theorem BytR.mv {w W : World} {A : Option Addr} {c : Nat} {l : List Int} (h : BytR w A c l) (hb : Below w.heap.size w W) : BytR W A c l := ⟨Kd.C_below h.rd hb, h.cap, h.b8, h.len⟩
theorem BytR.drewN {w : World} {A : Option Addr} {c : Nat} {l : List Int} (h : BytR w A c l) (n : Nat) : BytR (w.drewN n) A c l := ⟨Kd.C_drewN h.rd n, h.cap, h.b8, h.len⟩
theorem BytR.alloc {w : World} {A : Option Addr} {c : Nat} {l : List Int} (h : BytR w A c l) (o : Obj) : BytR (w.alloc o) A c l := h.mv (below_alloc (Below.refl _ _) o)
end Go.Proofs.Ytpjibhedpieafaa.H
namespace Go.Proofs.Ytpjibhedpieafaa.M
attribute [local simp] mapN_length
abbrev siz (x : Int) : Int := if x < 0 then -x else x
end Go.Proofs.Ytpjibhedpieafaa.M
namespace Go.Proofs.Ytpjibhedpieafaa.H
open Go.RowKit Go.Proofs.YtpjibhedpieafaaW.PrintWords Go.Proofs.YtpjibhedpieafaaW.PrintLast Go.Proofs.YtpjibhedpieafaaW.PrintMore
attribute [local go_sem] max2_int min2_int max_two min_two max_three min_three max_four min_four   -- for this text's walks alone
set_option linter.unusedVariables false
set_option linter.unusedSimpArgs false
def impl_greatest.l0 : Nat → Int → Int → List Int → Int → Int → Option (Int × Int)
  | 0, _, _, _, _, _ => none
  | k + 1, x4, x5, x8, x9, x10 => if x10 < x9 then (if 0 ≤ x10 then (if x10 < (x8.length : Int) then ((impl_abs.f (rd x8 x10)).bind fun t102 => (if t102 > x5 then ((impl_abs.f (rd x8 x10)).bind fun t103 => (impl_greatest.l0 k x10 t103 x8 x9 (wrap64 (x10 + 1)))) else (impl_greatest.l0 k x4 x5 x8 x9 (wrap64 (x10 + 1))))) else (none)) else (none)) else (some (x4, x5))
def impl_greatest.f (k : Nat) (l0 : List Int) : Option (Int × Int) := impl_greatest.l0 k 0 (-1) l0 (l0.length : Int) 0
theorem impl_greatest.mono_l : ∀ k, (∀ y0 y1 y2 y3 y4, LeO (impl_greatest.l0 k y0 y1 y2 y3 y4) (impl_greatest.l0 (k + 1) y0 y1 y2 y3 y4))
  | 0 => fun _ _ _ _ _ r h => by simp [impl_greatest.l0] at h
  | k + 1 => by
    have ih0 := impl_greatest.mono_l k
    · intro y0 y1 y2 y3 y4
      unfold impl_greatest.l0
      repeat' first
      | (with_reducible exact ih0 _ _ _ _ _)
      | (with_reducible exact LeO.refl _)
      | (with_reducible exact LeO.none _)
      | (with_reducible refine LeO.ite ?_ ?_)
      | (with_reducible refine LeO.bind ?_ (fun _ => ?_))
      | exact ih0 _ _ _ _ _
      | exact LeO.none _
      | refine LeO.ite ?_ ?_
      | refine LeO.bind ?_ (fun _ => ?_)
theorem impl_greatest.mono : ∀ a0 k, LeO (impl_greatest.f k a0) (impl_greatest.f (k + 1) a0) := by
  intro a0 k
  have ih0 := impl_greatest.mono_l k
  unfold impl_greatest.f
  repeat' first
      | (with_reducible exact ih0 _ _ _ _ _)
      | (with_reducible exact LeO.refl _)
      | (with_reducible exact LeO.none _)
      | (with_reducible refine LeO.ite ?_ ?_)
      | (with_reducible refine LeO.bind ?_ (fun _ => ?_))
      | exact ih0 _ _ _ _ _
      | exact LeO.none _
      | refine LeO.ite ?_ ?_
      | refine LeO.bind ?_ (fun _ => ?_)
def spec_l01Made.l0 : Nat → List Int → List Int → Int → Option (List Int × Int)
  | 0, _, _, _ => none
  | k + 1, x0, x4, x5 => if x5 < (x0.length : Int) then (if 0 ≤ x5 then ((spec_l01Lift.f (rd x0 x5)).bind fun t105 => (if t105 = true then (if x4.length < 70368744177664 then (spec_l01Made.l0 k x0 (x4 ++ [IntKind.i16.wrap (rd x0 x5)]) (wrap64 (x5 + 1))) else (none)) else (some ((([] : List Int)), 3)))) else (none)) else (some (x4, 0))
def spec_l01Made.f (k : Nat) (l0 : List Int) : Option (List Int × Int) := spec_l01Made.l0 k l0 (([] : List Int)) 0
theorem spec_l01Made.mono_l : ∀ k, (∀ y0 y1 y2, LeO (spec_l01Made.l0 k y0 y1 y2) (spec_l01Made.l0 (k + 1) y0 y1 y2))
  | 0 => fun _ _ _ r h => by simp [spec_l01Made.l0] at h
  | k + 1 => by
    have ih0 := spec_l01Made.mono_l k
    · intro y0 y1 y2
      unfold spec_l01Made.l0
      repeat' first
      | (with_reducible exact ih0 _ _ _)
      | (with_reducible exact LeO.refl _)
      | (with_reducible exact LeO.none _)
      | (with_reducible refine LeO.ite ?_ ?_)
      | (with_reducible refine LeO.bind ?_ (fun _ => ?_))
      | exact ih0 _ _ _
      | exact LeO.none _
      | refine LeO.ite ?_ ?_
      | refine LeO.bind ?_ (fun _ => ?_)
theorem spec_l01Made.mono : ∀ a0 k, LeO (spec_l01Made.f k a0) (spec_l01Made.f (k + 1) a0) := by
  intro a0 k
  have ih0 := spec_l01Made.mono_l k
  unfold spec_l01Made.f
  repeat' first
      | (with_reducible exact ih0 _ _ _)
      | (with_reducible exact LeO.refl _)
      | (with_reducible exact LeO.none _)
      | (with_reducible refine LeO.ite ?_ ?_)
      | (with_reducible refine LeO.bind ?_ (fun _ => ?_))
      | exact ih0 _ _ _
      | exact LeO.none _
      | refine LeO.ite ?_ ?_
      | refine LeO.bind ?_ (fun _ => ?_)
def spec_l01Two.j0 : Nat → List Int → List Int → Bool → Option (Int)
  | 0, _, _, _ => none
  | k + 1, x0, x1, x12 => if x12 = true then (some 1) else (if (x0.length : Int) = (x1.length : Int) then (some 0) else (some 4))
def spec_l01Two.f (k : Nat) (l0 : List Int) (l1 : List Int) : Option (Int) := (spec_l01Ok.f k l0).bind fun t101 => (if t101 = true then ((spec_l01Ok.f k l1).bind fun t102 => (spec_l01Two.j0 k l0 l1 (!t102))) else (spec_l01Two.j0 k l0 l1 true))
theorem spec_l01Two.mono_l : ∀ k, (∀ y0 y1 y2, LeO (spec_l01Two.j0 k y0 y1 y2) (spec_l01Two.j0 (k + 1) y0 y1 y2))
  | 0 => fun _ _ _ r h => by simp [spec_l01Two.j0] at h
  | k + 1 => by
    have ih0 := spec_l01Two.mono_l k
    · intro y0 y1 y2
      unfold spec_l01Two.j0
      repeat' first
      | (with_reducible exact ih0 _ _ _)
      | (with_reducible exact spec_l01Ok.mono _ _)
      | (with_reducible exact LeO.refl _)
      | (with_reducible exact LeO.none _)
      | (with_reducible refine LeO.ite ?_ ?_)
      | (with_reducible refine LeO.bind ?_ (fun _ => ?_))
      | exact ih0 _ _ _
      | exact spec_l01Ok.mono _ _
      | exact LeO.none _
      | refine LeO.ite ?_ ?_
      | refine LeO.bind ?_ (fun _ => ?_)
theorem spec_l01Two.mono : ∀ a0 a1 k, LeO (spec_l01Two.f k a0 a1) (spec_l01Two.f (k + 1) a0 a1) := by
  intro a0 a1 k
  have ih0 := spec_l01Two.mono_l k
  unfold spec_l01Two.f
  repeat' first
      | (with_reducible exact ih0 _ _ _)
      | (with_reducible exact spec_l01Ok.mono _ _)
      | (with_reducible exact LeO.refl _)
      | (with_reducible exact LeO.none _)
      | (with_reducible refine LeO.ite ?_ ?_)
      | (with_reducible refine LeO.bind ?_ (fun _ => ?_))
      | exact ih0 _ _ _
      | exact spec_l01Ok.mono _ _
      | exact LeO.none _
      | refine LeO.ite ?_ ?_
      | refine LeO.bind ?_ (fun _ => ?_)
def spec_AddCams.l0 : Nat → List Int → List Int → List Int → Int → Option (List Int × Int)
  | 0, _, _, _, _ => none
  | k + 1, x0, x1, x7, x8 => if x8 < (x0.length : Int) then (if 0 ≤ x8 then (if x8 < (x1.length : Int) then (if x7.length < 17592186044416 then (spec_AddCams.l0 k x0 x1 (x7 ++ [wrap64 ((wrap64 (rd x0 x8)) + (wrap64 (rd x1 x8)))]) (wrap64 (x8 + 1))) else (none)) else (none)) else (none)) else ((spec_l01Made.f k x7).bind fun bt113 => (some (bt113.1, bt113.2)))
def spec_AddCams.f (k : Nat) (l0 : List Int) (l1 : List Int) : Option (List Int × Int) := (spec_l01Two.f k l0 l1).bind fun t101 => (if t101 = 0 then (spec_AddCams.l0 k l0 l1 (([] : List Int)) 0) else (some ((([] : List Int)), t101)))
theorem spec_AddCams.mono_l : ∀ k, (∀ y0 y1 y2 y3, LeO (spec_AddCams.l0 k y0 y1 y2 y3) (spec_AddCams.l0 (k + 1) y0 y1 y2 y3))
  | 0 => fun _ _ _ _ r h => by simp [spec_AddCams.l0] at h
  | k + 1 => by
    have ih0 := spec_AddCams.mono_l k
    · intro y0 y1 y2 y3
      unfold spec_AddCams.l0
      repeat' first
      | (with_reducible exact ih0 _ _ _ _)
      | (with_reducible exact spec_l01Made.mono _ _)
      | (with_reducible exact spec_l01Two.mono _ _ _)
      | (with_reducible exact LeO.refl _)
      | (with_reducible exact LeO.none _)
      | (with_reducible refine LeO.ite ?_ ?_)
      | (with_reducible refine LeO.bind ?_ (fun _ => ?_))
      | exact ih0 _ _ _ _
      | exact spec_l01Made.mono _ _
      | exact spec_l01Two.mono _ _ _
      | exact LeO.none _
      | refine LeO.ite ?_ ?_
      | refine LeO.bind ?_ (fun _ => ?_)
theorem spec_AddCams.mono : ∀ a0 a1 k, LeO (spec_AddCams.f k a0 a1) (spec_AddCams.f (k + 1) a0 a1) := by
  intro a0 a1 k
  have ih0 := spec_AddCams.mono_l k
  unfold spec_AddCams.f
  repeat' first
      | (with_reducible exact ih0 _ _ _ _)
      | (with_reducible exact spec_l01Made.mono _ _)
      | (with_reducible exact spec_l01Two.mono _ _ _)
      | (with_reducible exact LeO.refl _)
      | (with_reducible exact LeO.none _)
      | (with_reducible refine LeO.ite ?_ ?_)
      | (with_reducible refine LeO.bind ?_ (fun _ => ?_))
      | exact ih0 _ _ _ _
      | exact spec_l01Made.mono _ _
      | exact spec_l01Two.mono _ _ _
      | exact LeO.none _
      | refine LeO.ite ?_ ?_
      | refine LeO.bind ?_ (fun _ => ?_)
def spec_AddCams.B8 : List Nat := [0, 0, 0, 6, 14, 30, 0, 0, 192, 448, 960, 2046, 4094, 8191, 16383]
def spec_l01Near.f (a0 : Int) (a1 : Int) : Option (Int) := if (wrap64 (2 * a1)) = 0 then (none) else (if (Int.tmod (wrap64 ((wrap64 (2 * a0)) + a1)) (wrap64 (2 * a1))) < 0 then (some (wrap64 ((wrap64 (Int.tdiv (wrap64 ((wrap64 (2 * a0)) + a1)) (wrap64 (2 * a1)))) - 1))) else (some (wrap64 (Int.tdiv (wrap64 ((wrap64 (2 * a0)) + a1)) (wrap64 (2 * a1))))))
end Go.Proofs.Ytpjibhedpieafaa.H
namespace Go.Proofs.Ytpjibhedpieafaa.H
open Go.RowKit Go.Proofs.YtpjibhedpieafaaW.PrintWords Go.Proofs.YtpjibhedpieafaaW.PrintLast Go.Proofs.YtpjibhedpieafaaW.PrintMore
attribute [local go_sem] max2_int min2_int max_two min_two max_three min_three max_four min_four   -- for this text's walks alone
set_option linter.unusedVariables false
set_option linter.unusedSimpArgs false
mutual
def spec_BlendCams.j0 : Nat → List Int → List Int → Int → Int → Bool → Option (List Int × Int)
  | 0, _, _, _, _, _ => none
  | k + 1, x0, x1, x2, x8, x20 => if x20 = true then (spec_BlendCams.j1 k x0 x1 x2 2) else (spec_BlendCams.j1 k x0 x1 x2 x8)
def spec_BlendCams.j1 : Nat → List Int → List Int → Int → Int → Option (List Int × Int)
  | 0, _, _, _, _ => none
  | k + 1, x0, x1, x2, x8 => if x8 = 0 then (spec_BlendCams.l0 k x0 x1 x2 (([] : List Int)) 0) else (some ((([] : List Int)), x8))
def spec_BlendCams.l0 : Nat → List Int → List Int → Int → List Int → Int → Option (List Int × Int)
  | 0, _, _, _, _, _ => none
  | k + 1, x0, x1, x2, x9, x10 => if x10 < (x0.length : Int) then (if 0 ≤ x10 then (if x10 < (x1.length : Int) then ((spec_l01Near.f (wrap64 ((wrap64 ((wrap64 (rd x0 x10)) * (wrap64 (100 - x2)))) + (wrap64 ((wrap64 (rd x1 x10)) * x2)))) 100).bind fun t111 => (if x9.length < 17592186044416 then (spec_BlendCams.l0 k x0 x1 x2 (x9 ++ [t111]) (wrap64 (x10 + 1))) else (none))) else (none)) else (none)) else ((spec_l01Made.f k x9).bind fun bt115 => (some (bt115.1, bt115.2)))
end
def spec_BlendCams.f (k : Nat) (l0 : List Int) (l1 : List Int) (a2 : Int) : Option (List Int × Int) := (spec_l01Two.f k l0 l1).bind fun t101 => (if t101 = 0 then ((spec_l00In.f a2 0 100).bind fun t102 => (spec_BlendCams.j0 k l0 l1 a2 t101 (!t102))) else (spec_BlendCams.j0 k l0 l1 a2 t101 false))
theorem spec_BlendCams.mono_l : ∀ k, (∀ y0 y1 y2 y3 y4, LeO (spec_BlendCams.j0 k y0 y1 y2 y3 y4) (spec_BlendCams.j0 (k + 1) y0 y1 y2 y3 y4)) ∧ (∀ y0 y1 y2 y3, LeO (spec_BlendCams.j1 k y0 y1 y2 y3) (spec_BlendCams.j1 (k + 1) y0 y1 y2 y3)) ∧ (∀ y0 y1 y2 y3 y4, LeO (spec_BlendCams.l0 k y0 y1 y2 y3 y4) (spec_BlendCams.l0 (k + 1) y0 y1 y2 y3 y4))
  | 0 => ⟨fun _ _ _ _ _ r h => by simp [spec_BlendCams.j0] at h, fun _ _ _ _ r h => by simp [spec_BlendCams.j1] at h, fun _ _ _ _ _ r h => by simp [spec_BlendCams.l0] at h⟩
  | k + 1 => by
    obtain ⟨ih0, ih1, ih2⟩ := spec_BlendCams.mono_l k
    refine ⟨?_, ?_, ?_⟩
    · intro y0 y1 y2 y3 y4
      unfold spec_BlendCams.j0
      repeat' first
      | (with_reducible exact ih0 _ _ _ _ _)
      | (with_reducible exact ih1 _ _ _ _)
      | (with_reducible exact ih2 _ _ _ _ _)
      | (with_reducible exact spec_l01Made.mono _ _)
      | (with_reducible exact spec_l01Two.mono _ _ _)
      | (with_reducible exact LeO.refl _)
      | (with_reducible exact LeO.none _)
      | (with_reducible refine LeO.ite ?_ ?_)
      | (with_reducible refine LeO.bind ?_ (fun _ => ?_))
      | exact ih0 _ _ _ _ _
      | exact ih1 _ _ _ _
      | exact ih2 _ _ _ _ _
      | exact spec_l01Made.mono _ _
      | exact spec_l01Two.mono _ _ _
      | exact LeO.none _
      | refine LeO.ite ?_ ?_
      | refine LeO.bind ?_ (fun _ => ?_)
    · intro y0 y1 y2 y3
      unfold spec_BlendCams.j1
      repeat' first
      | (with_reducible exact ih0 _ _ _ _ _)
      | (with_reducible exact ih1 _ _ _ _)
      | (with_reducible exact ih2 _ _ _ _ _)
      | (with_reducible exact spec_l01Made.mono _ _)
      | (with_reducible exact spec_l01Two.mono _ _ _)
      | (with_reducible exact LeO.refl _)
      | (with_reducible exact LeO.none _)
      | (with_reducible refine LeO.ite ?_ ?_)
      | (with_reducible refine LeO.bind ?_ (fun _ => ?_))
      | exact ih0 _ _ _ _ _
      | exact ih1 _ _ _ _
      | exact ih2 _ _ _ _ _
      | exact spec_l01Made.mono _ _
      | exact spec_l01Two.mono _ _ _
      | exact LeO.none _
      | refine LeO.ite ?_ ?_
      | refine LeO.bind ?_ (fun _ => ?_)
    · intro y0 y1 y2 y3 y4
      unfold spec_BlendCams.l0
      repeat' first
      | (with_reducible exact ih0 _ _ _ _ _)
      | (with_reducible exact ih1 _ _ _ _)
      | (with_reducible exact ih2 _ _ _ _ _)
      | (with_reducible exact spec_l01Made.mono _ _)
      | (with_reducible exact spec_l01Two.mono _ _ _)
      | (with_reducible exact LeO.refl _)
      | (with_reducible exact LeO.none _)
      | (with_reducible refine LeO.ite ?_ ?_)
      | (with_reducible refine LeO.bind ?_ (fun _ => ?_))
      | exact ih0 _ _ _ _ _
      | exact ih1 _ _ _ _
      | exact ih2 _ _ _ _ _
      | exact spec_l01Made.mono _ _
      | exact spec_l01Two.mono _ _ _
      | exact LeO.none _
      | refine LeO.ite ?_ ?_
      | refine LeO.bind ?_ (fun _ => ?_)
theorem spec_BlendCams.mono : ∀ a0 a1 a2 k, LeO (spec_BlendCams.f k a0 a1 a2) (spec_BlendCams.f (k + 1) a0 a1 a2) := by
  intro a0 a1 a2 k
  obtain ⟨ih0, ih1, ih2⟩ := spec_BlendCams.mono_l k
  unfold spec_BlendCams.f
  repeat' first
      | (with_reducible exact ih0 _ _ _ _ _)
      | (with_reducible exact ih1 _ _ _ _)
      | (with_reducible exact ih2 _ _ _ _ _)
      | (with_reducible exact spec_l01Made.mono _ _)
      | (with_reducible exact spec_l01Two.mono _ _ _)
      | (with_reducible exact LeO.refl _)
      | (with_reducible exact LeO.none _)
      | (with_reducible refine LeO.ite ?_ ?_)
      | (with_reducible refine LeO.bind ?_ (fun _ => ?_))
      | exact ih0 _ _ _ _ _
      | exact ih1 _ _ _ _
      | exact ih2 _ _ _ _ _
      | exact spec_l01Made.mono _ _
      | exact spec_l01Two.mono _ _ _
      | exact LeO.none _
      | refine LeO.ite ?_ ?_
      | refine LeO.bind ?_ (fun _ => ?_)
end Go.Proofs.Ytpjibhedpieafaa.H
namespace Go.Proofs.Ytpjibhedpieafaa.H
open Go.RowKit Go.Proofs.YtpjibhedpieafaaW.PrintWords Go.Proofs.YtpjibhedpieafaaW.PrintLast Go.Proofs.YtpjibhedpieafaaW.PrintMore
attribute [local go_sem] max2_int min2_int max_two min_two max_three min_three max_four min_four   -- for this text's walks alone
set_option linter.unusedVariables false
set_option linter.unusedSimpArgs false
def spec_l01Changes.l0 : Nat → List Int → List Int → Int → Option (List Int)
  | 0, _, _, _ => none
  | k + 1, x0, x3, x4 => if x4 < (x0.length : Int) then ((spec_l01At.f x0 (wrap64 (x4 + 1))).bind fun t104 => ((spec_l01At.f x0 x4).bind fun t105 => (if x3.length < 17592186044416 then (spec_l01Changes.l0 k x0 (x3 ++ [wrap64 (t104 - t105)]) (wrap64 (x4 + 1))) else (none)))) else (some x3)
def spec_l01Changes.f (k : Nat) (l0 : List Int) : Option (List Int) := spec_l01Changes.l0 k l0 (([] : List Int)) 0
theorem spec_l01Changes.mono_l : ∀ k, (∀ y0 y1 y2, LeO (spec_l01Changes.l0 k y0 y1 y2) (spec_l01Changes.l0 (k + 1) y0 y1 y2))
  | 0 => fun _ _ _ r h => by simp [spec_l01Changes.l0] at h
  | k + 1 => by
    have ih0 := spec_l01Changes.mono_l k
    · intro y0 y1 y2
      unfold spec_l01Changes.l0
      repeat' first
      | (with_reducible exact ih0 _ _ _)
      | (with_reducible exact LeO.refl _)
      | (with_reducible exact LeO.none _)
      | (with_reducible refine LeO.ite ?_ ?_)
      | (with_reducible refine LeO.bind ?_ (fun _ => ?_))
      | exact ih0 _ _ _
      | exact LeO.none _
      | refine LeO.ite ?_ ?_
      | refine LeO.bind ?_ (fun _ => ?_)
theorem spec_l01Changes.mono : ∀ a0 k, LeO (spec_l01Changes.f k a0) (spec_l01Changes.f (k + 1) a0) := by
  intro a0 k
  have ih0 := spec_l01Changes.mono_l k
  unfold spec_l01Changes.f
  repeat' first
      | (with_reducible exact ih0 _ _ _)
      | (with_reducible exact LeO.refl _)
      | (with_reducible exact LeO.none _)
      | (with_reducible refine LeO.ite ?_ ?_)
      | (with_reducible refine LeO.bind ?_ (fun _ => ?_))
      | exact ih0 _ _ _
      | exact LeO.none _
      | refine LeO.ite ?_ ?_
      | refine LeO.bind ?_ (fun _ => ?_)
def spec_ChangesOf.f (k : Nat) (l0 : List Int) : Option (List Int × Int) := (spec_l01Ok.f k l0).bind fun t101 => (if t101 = true then ((spec_l01Changes.f k l0).bind fun t102 => (some (t102, 0))) else (some ((([] : List Int)), 1)))
theorem spec_ChangesOf.mono : ∀ a0 k, LeO (spec_ChangesOf.f k a0) (spec_ChangesOf.f (k + 1) a0) := by
  intro a0 k
  unfold spec_ChangesOf.f
  repeat' first
      | (with_reducible exact spec_l01Changes.mono _ _)
      | (with_reducible exact spec_l01Ok.mono _ _)
      | (with_reducible exact LeO.refl _)
      | (with_reducible exact LeO.none _)
      | (with_reducible refine LeO.ite ?_ ?_)
      | (with_reducible refine LeO.bind ?_ (fun _ => ?_))
      | exact spec_l01Changes.mono _ _
      | exact spec_l01Ok.mono _ _
      | exact LeO.none _
      | refine LeO.ite ?_ ?_
      | refine LeO.bind ?_ (fun _ => ?_)
end Go.Proofs.Ytpjibhedpieafaa.H
namespace Go.Proofs.Ytpjibhedpieafaa.H
open Go.RowKit Go.Proofs.YtpjibhedpieafaaW.PrintWords Go.Proofs.YtpjibhedpieafaaW.PrintLast Go.Proofs.YtpjibhedpieafaaW.PrintMore Go.Proofs.Ytpjibhedpieafaa.M
theorem in_some (a lo hi : Int) : spec_l00In.f a lo hi = some (decide (lo ≤ a ∧ a ≤ hi)) := by
  unfold spec_l00In.f; split
  · congr 1; simp; omega
  · congr 1; simp; omega
theorem lift_some (a : Int) : spec_l01Lift.f a = some (decide (0 ≤ a ∧ a ≤ 10000)) := by unfold spec_l01Lift.f; rw [in_some]; rfl
theorem steps_some (a : Int) : spec_l01Steps.f a = some (decide (8 ≤ a ∧ a ≤ 360)) := by unfold spec_l01Steps.f; rw [in_some]; rfl
theorem ok_loop {l : List Int} (h : Ok l) (m : Nat) : ∀ (k : Nat) (i : Nat), i ≤ l.length → l.length - i = m → m < k → spec_l01Ok.l0 k l i = some true := by
  induction m with
  | zero =>
    intro k i hi hm hk
    obtain ⟨k, rfl⟩ : ∃ p, k = p + 1 := ⟨k - 1, by omega⟩
    simp only [spec_l01Ok.l0]; rw [if_neg (by omega)]
  | succ m ih =>
    intro k i hi hm hk
    have hlen := h.hi
    obtain ⟨k, rfl⟩ : ∃ p, k = p + 1 := ⟨k - 1, by omega⟩
    have hl := h.lift _ (List.getElem_mem (show i < l.length by omega))
    simp only [spec_l01Ok.l0]
    rw [if_pos (by omega), if_pos (by omega), rd_get l i (by omega), wrap64_id (x := l[i]) (by omega) (by omega), lift_some]
    simp only [Option.bind_some]
    rw [if_pos (by simp; omega), wrap64_id (by omega) (by omega)]
    exact ih k (i + 1) (by omega) (by omega) (by omega)
theorem ok_some {l : List Int} (h : Ok l) (k : Nat) (hk : 400 ≤ k) : spec_l01Ok.f k l = some true := by
  have h1 := h.lo; have h2 := h.hi
  unfold spec_l01Ok.f; rw [steps_some]; simp only [Option.bind_some]
  rw [if_pos (by simp; omega)]
  exact ok_loop h l.length k 0 (by omega) (by omega) (by omega)
end Go.Proofs.Ytpjibhedpieafaa.H
namespace Go.Proofs.Ytpjibhedpieafaa.M
attribute [local simp] mapN_length
abbrev pP (l : List Int) (i : Int) : Int := changeAt l i * l.length * 7
abbrev qQ (l : List Int) (b i : Int) : Int := 44 * (b + at_ l i)
def gG (l : List Int) (b i : Int) : Int := (Int.gcd (pP l i) (qQ l b i) : Nat)
def slopeOf (l : List Int) (b i : Int) : Int × Int := (pP l i / gG l b i, qQ l b i / gG l b i)
theorem siz_nn (x : Int) : 0 ≤ siz x := by unfold siz; split <;> omega
theorem siz_abs (x : Int) : siz x = x.natAbs := by unfold siz; split <;> omega
theorem siz_mul (x y : Int) : siz (x * y) = siz x * siz y := by rw [siz_abs, siz_abs, siz_abs, Int.natAbs_mul, Int.natCast_mul]
theorem siz_of {x : Int} (h : 0 ≤ x) : siz x = x := by unfold siz; split <;> omega
theorem gG_pos {l : List Int} {b i : Int} (hq : 0 < qQ l b i) : 0 < gG l b i := by
  have : 0 < Int.gcd (pP l i) (qQ l b i) := by
    rcases Nat.eq_zero_or_pos (Int.gcd (pP l i) (qQ l b i)) with h | h
    · rw [Int.gcd_eq_zero_iff] at h; omega
    · exact h
  unfold gG; omega
theorem gG_p (l : List Int) (b i : Int) : gG l b i * (slopeOf l b i).1 = pP l i := Int.mul_ediv_cancel' (Int.gcd_dvd_left ..)
theorem gG_q (l : List Int) (b i : Int) : gG l b i * (slopeOf l b i).2 = qQ l b i := Int.mul_ediv_cancel' (Int.gcd_dvd_right ..)
theorem slope_q {l : List Int} {b i : Int} (hq : 0 < qQ l b i) : 0 < (slopeOf l b i).2 := by
  have h1 := gG_pos hq
  have h2 := gG_q l b i
  rcases Int.lt_or_le 0 (slopeOf l b i).2 with h | h
  · exact h
  · have := Int.mul_le_mul_of_nonneg_left h (show 0 ≤ gG l b i by omega)
    omega
theorem slope_q_le {l : List Int} {b i : Int} (hq : 0 < qQ l b i) : (slopeOf l b i).2 ≤ qQ l b i := by
  have h1 := gG_pos hq
  have h2 := gG_q l b i
  have h3 := slope_q hq
  have := Int.mul_le_mul_of_nonneg_right (show 1 ≤ gG l b i by omega) (show 0 ≤ (slopeOf l b i).2 by omega)
  omega
theorem slope_p_le {l : List Int} {b i : Int} (hq : 0 < qQ l b i) : siz (slopeOf l b i).1 ≤ siz (pP l i) := by
  have h1 := gG_pos hq
  have h2 := gG_p l b i
  have := siz_mul (gG l b i) (slopeOf l b i).1
  rw [h2, siz_of (show 0 ≤ gG l b i by omega)] at this
  have := Int.mul_le_mul_of_nonneg_right (show 1 ≤ gG l b i by omega) (siz_nn (slopeOf l b i).1)
  omega
/-- One slope's size is at most another one's. -/
def le (s t : Int × Int) : Prop := siz s.1 * t.2 ≤ siz t.1 * s.2
def cmpI (s t : Int × Int) : Int := if siz s.1 * t.2 < siz t.1 * s.2 then -1 else if siz s.1 * t.2 > siz t.1 * s.2 then 1 else 0
theorem cmp_le {s t : Int × Int} : cmpI s t ≤ 0 ↔ le s t := by unfold cmpI le; split <;> (try split) <;> omega
theorem cmp_lt {s t : Int × Int} : cmpI s t < 0 ↔ ¬ le t s := by unfold cmpI le; split <;> (try split) <;> omega
theorem cmp_gt {s t : Int × Int} : cmpI s t > 0 ↔ ¬ le s t := by unfold cmpI le; split <;> (try split) <;> omega
theorem cmp_self (s : Int × Int) : cmpI s s = 0 := by unfold cmpI; rw [if_neg (by omega), if_neg (by omega)]
theorem le_trans' {s t u : Int × Int} (hs : 0 < s.2) (ht : 0 < t.2) (hu : 0 < u.2) (h1 : le s t) (h2 : le t u) : le s u := by
  unfold le at *
  have a := Int.mul_le_mul_of_nonneg_right h1 (show 0 ≤ u.2 by omega)
  have b := Int.mul_le_mul_of_nonneg_right h2 (show 0 ≤ s.2 by omega)
  have e1 : siz s.1 * t.2 * u.2 = siz s.1 * u.2 * t.2 := by rw [Int.mul_assoc, Int.mul_comm t.2, ← Int.mul_assoc]
  have e2 : siz t.1 * s.2 * u.2 = siz t.1 * u.2 * s.2 := by rw [Int.mul_assoc, Int.mul_comm s.2, ← Int.mul_assoc]
  have e3 : siz u.1 * t.2 * s.2 = siz u.1 * s.2 * t.2 := by rw [Int.mul_assoc, Int.mul_comm t.2, ← Int.mul_assoc]
  exact Int.le_of_mul_le_mul_right (show siz s.1 * u.2 * t.2 ≤ siz u.1 * s.2 * t.2 by omega) ht
/-- The first step with the greatest slope, among the first k ones. -/
def stF (l : List Int) (b : Int) : Nat → Int × (Int × Int)
  | 0 => (0, slopeOf l b 0)
  | k + 1 => if cmpI (slopeOf l b k) (stF l b k).2 > 0 then (k, slopeOf l b k) else stF l b k
theorem stF_one (l : List Int) (b : Int) : stF l b 1 = stF l b 0 := by
  have e : stF l b 1 = if cmpI (slopeOf l b ((0 : Nat) : Int)) (stF l b 0).2 > 0 then (((0 : Nat) : Int), slopeOf l b ((0 : Nat) : Int)) else stF l b 0 := rfl
  have h : cmpI (slopeOf l b ((0 : Nat) : Int)) (stF l b 0).2 = 0 := cmp_self _
  rw [e, if_neg (by omega)]
structure Steep (l : List Int) (b : Int) (k : Nat) (w : Int) (t : Int × Int) : Prop where
  lo : 0 ≤ w
  hi : w < k
  is : t = slopeOf l b w
  most : ∀ i : Nat, i < k → cmpI (slopeOf l b i) t ≤ 0
  first : ∀ i : Nat, (i : Int) < w → cmpI (slopeOf l b i) t < 0
theorem stF_steep {l : List Int} {b : Int} (hq : ∀ i : Nat, 0 < qQ l b i) (k : Nat) : Steep l b (k + 1) (stF l b (k + 1)).1 (stF l b (k + 1)).2 := by
  induction k with
  | zero =>
    rw [stF_one]
    refine ⟨Int.le_refl _, by simp [stF], rfl, fun i hi => ?_, fun i hi => ?_⟩
    · rw [show i = 0 by omega]; simp only [stF]; rw [show ((0 : Nat) : Int) = 0 from rfl, cmp_self]; omega
    · simp only [stF] at hi; omega
  | succ k ih =>
    have e : stF l b (k + 1 + 1) = if cmpI (slopeOf l b ((k + 1 : Nat) : Int)) (stF l b (k + 1)).2 > 0 then (((k + 1 : Nat) : Int), slopeOf l b ((k + 1 : Nat) : Int)) else stF l b (k + 1) := rfl
    rw [e]
    have ht : 0 < (stF l b (k + 1)).2.2 := by
      rw [ih.is]
      obtain ⟨j, hj⟩ : ∃ j : Nat, (stF l b (k + 1)).1 = j := ⟨(stF l b (k + 1)).1.toNat, by have := ih.lo; omega⟩
      rw [hj]; exact slope_q (hq j)
    by_cases hc : cmpI (slopeOf l b ((k + 1 : Nat) : Int)) (stF l b (k + 1)).2 > 0
    · rw [if_pos hc]
      have hlt : ∀ i : Nat, i < k + 1 → cmpI (slopeOf l b i) (slopeOf l b ((k + 1 : Nat) : Int)) < 0 := fun i hi => by
        rw [cmp_lt]; intro hle
        exact cmp_gt.mp hc (le_trans' (slope_q (hq _)) (slope_q (hq i)) ht hle (cmp_le.mp (ih.most i hi)))
      refine ⟨by simp; omega, by simp; omega, rfl, fun i hi => ?_, fun i hi => hlt i (by simp at hi; omega)⟩
      rcases Nat.lt_or_eq_of_le (Nat.le_of_lt_succ hi) with h | h
      · exact Int.le_of_lt (hlt i h)
      · rw [h, cmp_self]; omega
    · rw [if_neg hc]
      refine ⟨ih.lo, by have := ih.hi; omega, ih.is, fun i hi => ?_, ih.first⟩
      rcases Nat.lt_or_eq_of_le (Nat.le_of_lt_succ hi) with h | h
      · exact ih.most i h
      · rw [h]; omega
/-- How far a step wants the base. -/
abbrev need (l : List Int) (P Q i : Int) : Int := -((-siz (changeAt l i) * l.length * 7 * Q) / (44 * P)) - at_ l i
def baseF (l : List Int) (P Q : Int) : Nat → Int
  | 0 => 1
  | k + 1 => max (baseF l P Q k) (need l P Q k)
theorem baseF_ge (l : List Int) (P Q : Int) (k : Nat) : 1 ≤ baseF l P Q k := by
  induction k with
  | zero => simp [baseF]
  | succ k ih => simp only [baseF]; omega
theorem baseF_iff (l : List Int) (P Q : Int) (k : Nat) {b : Int} (hb : 1 ≤ b) : baseF l P Q k ≤ b ↔ ∀ i : Nat, i < k → need l P Q i ≤ b := by
  induction k with
  | zero => simp [baseF]; omega
  | succ k ih =>
    simp only [baseF]
    constructor
    · intro h i hi
      rcases Nat.lt_or_eq_of_le (Nat.le_of_lt_succ hi) with h' | h'
      · exact ih.mp (by omega) i h'
      · rw [h']; omega
    · intro h
      have := ih.mpr fun i hi => h i (by omega)
      have := h k (by omega)
      omega
theorem baseF_le (l : List Int) (P Q : Int) (k : Nat) {B : Int} (hB : 1 ≤ B) (h : ∀ i : Nat, i < k → need l P Q i ≤ B) : baseF l P Q k ≤ B := (baseF_iff l P Q k hB).mpr h
theorem need_fit {l : List Int} {P Q b i : Int} (hP : 0 < P) (hq : 0 < qQ l b i) : need l P Q i ≤ b ↔ le (slopeOf l b i) (P, Q) := by
  have hg := gG_pos hq
  have e1 := gG_p l b i
  have e2 := gG_q l b i
  have e3 := siz_mul (gG l b i) (slopeOf l b i).1
  rw [e1, siz_of (show 0 ≤ gG l b i by omega)] at e3
  have e4 : siz (pP l i) = siz (changeAt l i) * l.length * 7 := by
    unfold pP; rw [siz_mul, siz_mul, siz_of (show 0 ≤ (l.length : Int) by omega), siz_of (show (0 : Int) ≤ 7 by omega)]
  rw [e4] at e3
  have key : need l P Q i ≤ b ↔ siz (changeAt l i) * l.length * 7 * Q ≤ (b + at_ l i) * (44 * P) := by
    have : need l P Q i ≤ b ↔ -(b + at_ l i) ≤ (-siz (changeAt l i) * l.length * 7 * Q) / (44 * P) := by unfold need; omega
    rw [this, Int.le_ediv_iff_mul_le (by omega), Int.neg_mul, Int.neg_mul, Int.neg_mul, Int.neg_mul]
    omega
  rw [key, e3]
  unfold le
  simp only
  rw [siz_of (show 0 ≤ P by omega)]
  have l1 : gG l b i * siz (slopeOf l b i).1 * Q = (siz (slopeOf l b i).1 * Q) * gG l b i := by rw [Int.mul_assoc, Int.mul_comm]
  have l2 : (b + at_ l i) * (44 * P) = (P * (slopeOf l b i).2) * gG l b i := by
    have h0 : (b + at_ l i) * (44 * P) = P * qQ l b i := by unfold qQ; rw [Int.mul_comm, Int.mul_comm 44 P, Int.mul_assoc]
    rw [h0, ← e2, Int.mul_comm (gG l b i), Int.mul_assoc]
  rw [l1, l2]
  exact ⟨fun h => Int.le_of_mul_le_mul_right h hg, fun h => Int.mul_le_mul_of_nonneg_right h (by omega)⟩
theorem steep_fit {l : List Int} {P Q b w : Int} {t : Int × Int} {n : Nat} (hP : 0 < P) (hQ : 0 < Q) (hb : 1 ≤ b) (hq : ∀ i : Nat, 0 < qQ l b i) (hs : Steep l b n w t) : cmpI t (P, Q) ≤ 0 ↔ baseF l P Q n ≤ b := by
  obtain ⟨j, hj⟩ : ∃ j : Nat, w = j := ⟨w.toNat, by have := hs.lo; omega⟩
  have hi := hs.hi
  rw [cmp_le, baseF_iff l P Q n hb]
  have ht : 0 < t.2 := by rw [hs.is, hj]; exact slope_q (hq j)
  constructor
  · intro h i hi
    rw [need_fit hP (hq i)]
    exact le_trans' (slope_q (hq i)) ht hQ (cmp_le.mp (hs.most i hi)) h
  · intro h
    rw [hs.is, hj]
    exact (need_fit hP (hq j)).mp (h j (by omega))
end Go.Proofs.Ytpjibhedpieafaa.M
namespace Go.Proofs.Ytpjibhedpieafaa.H
open Go.RowKit Go.Proofs.YtpjibhedpieafaaW.PrintWords Go.Proofs.YtpjibhedpieafaaW.PrintLast Go.Proofs.YtpjibhedpieafaaW.PrintMore Go.Proofs.Ytpjibhedpieafaa.M
theorem at_any {l : List Int} (h : Ok l) (i : Int) (hi : -1099511627776 ≤ i ∧ i ≤ 1099511627776) : spec_l01At.f l i = some (at_ l i) := by
  have h1 := h.lo; have h2 := h.hi
  have b0 : 0 ≤ i % (l.length : Int) ∧ i % (l.length : Int) < l.length := ⟨Int.emod_nonneg _ (by omega), Int.emod_lt_of_pos _ (by omega)⟩
  have bt : -(l.length : Int) < Int.tmod i l.length ∧ Int.tmod i l.length < l.length := by
    have := Int.tmod_lt_of_pos i (show (0 : Int) < l.length by omega)
    have := Int.lt_tmod_of_pos i (show (0 : Int) < l.length by omega)
    omega
  have e1 : Int.tmod (Int.tmod i (l.length : Int) + l.length) (l.length : Int) = i % l.length := by
    rw [Int.tmod_eq_emod_of_nonneg (by omega), Int.add_emod_right, Int.tmod_eq_emod]
    split
    · rw [show ((0 : Nat) : Int) = 0 from rfl, Int.sub_zero, Int.emod_emod]
    · rw [show ((l.length : Int).natAbs : Int) = l.length by omega, Int.sub_emod_right, Int.emod_emod]
  have hx := h.lift _ (at_mem h.pos i)
  unfold spec_l01At.f
  rw [if_neg (by omega), wrap64_id (x := Int.tmod i (l.length : Int) + l.length) (by omega) (by omega), e1, if_pos b0.1, if_pos b0.2]
  have e2 : rd l (i % (l.length : Int)) = at_ l i := rfl
  rw [e2, wrap64_id (by omega) (by omega)]
theorem steps_of (l : List Int) : impl_Cam_steps.f l = some (l.length : Int) := rfl
theorem floor_some {a b : Int} (ha : -4611686018427387904 ≤ a ∧ a ≤ 4611686018427387904) (hb : 1 ≤ b) : impl_floorDiv.f a b = some (a / b) := by
  have hf := floor_tdiv (a := a) (b := b) (by omega)
  have hq : -4611686018427387904 ≤ a / b ∧ a / b ≤ 4611686018427387904 := by
    have := Int.natAbs_ediv_le_natAbs a b
    omega
  unfold impl_floorDiv.f
  rw [if_neg (by omega)]
  by_cases hm : Int.tmod a b < 0
  · rw [if_pos hm] at hf ⊢
    rw [wrap64_id (x := Int.tdiv a b) (by omega) (by omega), wrap64_id (by omega) (by omega), hf]
  · rw [if_neg hm] at hf ⊢
    rw [wrap64_id (by omega) (by omega)]; congr 1; omega
theorem mod_some {a b : Int} (ha : -4611686018427387904 ≤ a ∧ a ≤ 4611686018427387904) (hb : 1 ≤ b ∧ b ≤ 4611686018427387904) : impl_mod.f a b = some (a % b) := by
  have e1 : a - b * (a / b) = a % b := by have := Int.emod_add_mul_ediv a b; omega
  have e2 : 0 ≤ a % b ∧ a % b < b := ⟨Int.emod_nonneg _ (by omega), Int.emod_lt_of_pos _ (by omega)⟩
  unfold impl_mod.f
  rw [floor_some ha hb.1]; simp only [Option.bind_some]
  rw [wrap64_id (x := b * (a / b)) (by omega) (by omega), wrap64_id (by omega) (by omega), e1]
theorem iat_some {l : List Int} (h : Ok l) (i : Int) (hi : -1099511627776 ≤ i ∧ i ≤ 1099511627776) : impl_Cam_at.f l i = some (at_ l i) := by
  have h1 := h.lo; have h2 := h.hi
  have b0 : 0 ≤ i % (l.length : Int) ∧ i % (l.length : Int) < l.length := ⟨Int.emod_nonneg _ (by omega), Int.emod_lt_of_pos _ (by omega)⟩
  have hx := h.lift _ (at_mem h.pos i)
  unfold impl_Cam_at.f
  rw [steps_of]; simp only [Option.bind_some]
  rw [mod_some (by omega) (by omega)]; simp only [Option.bind_some]
  rw [if_pos b0.1, if_pos b0.2]
  have e2 : rd l (i % (l.length : Int)) = at_ l i := rfl
  rw [e2, wrap64_id (by omega) (by omega)]
theorem ichange_some {l : List Int} (h : Ok l) (i : Int) (hi : -1099511627000 ≤ i ∧ i ≤ 1099511627000) : impl_Cam_change.f l i = some (changeAt l i) := by
  have hx := h.lift _ (at_mem h.pos i)
  have hy := h.lift _ (at_mem h.pos (i + 1))
  unfold impl_Cam_change.f
  rw [wrap64_id (x := i + 1) (by omega) (by omega), iat_some h _ (by omega), iat_some h _ (by omega)]; simp only [Option.bind_some]
  rw [wrap64_id (by omega) (by omega)]
theorem mx_siz {x : Int} (h : -4611686018427387904 ≤ x ∧ x ≤ 4611686018427387904) : mx x (wrap64 (-x)) = siz x := by
  rw [wrap64_id (by omega) (by omega)]; unfold mx siz; split <;> split <;> omega
theorem abs_some {x : Int} (h : -4611686018427387904 ≤ x ∧ x ≤ 4611686018427387904) : impl_abs.f x = some (siz x) := by unfold impl_abs.f; rw [mx_siz h]
theorem size_some {x : Int} (h : -4611686018427387904 ≤ x ∧ x ≤ 4611686018427387904) : spec_l01Size.f x = some (siz x) := by
  unfold spec_l01Size.f siz; split
  · rw [wrap64_id (by omega) (by omega)]
  · rfl
theorem in2_some (a lo hi : Int) : impl_inRange.f a lo hi = some (decide (lo ≤ a ∧ a ≤ hi)) := by
  unfold impl_inRange.f; split
  · congr 1; simp; omega
  · congr 1; simp; omega
theorem gcd_step (a b : Nat) : (Nat.gcd a b : Int) = Nat.gcd b (a % b) := by rw [Nat.gcd_comm b, ← Nat.gcd_rec, Nat.gcd_comm]
theorem igcd_ev (b : Nat) : ∀ a : Nat, Ev (fun k => impl_common.l0 k a b) ((Nat.gcd a b : Nat) : Int) := by
  induction b using Nat.strongRecOn with
  | _ b ih =>
    intro a
    refine Ev.succ ?_
    simp only [impl_common.l0]
    by_cases hb : b = 0
    · subst hb; refine Ev.pos (by omega) ?_; rw [Nat.gcd_zero_right]; exact Ev.now _
    · refine Ev.neg (by omega) ?_
      rw [Int.tmod_eq_emod_of_nonneg (by omega), ← Int.natCast_emod, gcd_step a b]
      exact ih (a % b) (Nat.mod_lt _ (by omega)) b
theorem sgcd_ev (b : Nat) : ∀ a : Nat, Ev (fun k => spec_l03Gcd.l0 k a b) ((Nat.gcd a b : Nat) : Int) := by
  induction b using Nat.strongRecOn with
  | _ b ih =>
    intro a
    refine Ev.succ ?_
    simp only [spec_l03Gcd.l0]
    by_cases hb : b = 0
    · subst hb; refine Ev.pos (by omega) ?_; rw [Nat.gcd_zero_right]; exact Ev.now _
    · refine Ev.neg (by omega) ?_
      rw [Int.tmod_eq_emod_of_nonneg (by omega), ← Int.natCast_emod, gcd_step a b]
      exact ih (a % b) (Nat.mod_lt _ (by omega)) b
/-- A cam as the law draws it. -/
structure Small (l : List Int) : Prop where
  ok : Ok l
  low : ∀ i : Int, 0 ≤ at_ l i ∧ at_ l i ≤ 60
  len : l.length ≤ 36
theorem Small.ch {l : List Int} (h : Small l) (i : Int) : -60 ≤ changeAt l i ∧ changeAt l i ≤ 60 := by have := h.low i; have := h.low (i + 1); unfold changeAt; omega
theorem Small.p {l : List Int} (h : Small l) (i : Int) : -15120 ≤ pP l i ∧ pP l i ≤ 15120 ∧ -2160 ≤ changeAt l i * l.length ∧ changeAt l i * l.length ≤ 2160 := by
  have h1 := h.ch i
  have h2 := h.len
  have a := Int.mul_le_mul_of_nonneg_right h1.2 (show 0 ≤ (l.length : Int) by omega)
  have b := Int.mul_le_mul_of_nonneg_right h1.1 (show 0 ≤ (l.length : Int) by omega)
  unfold pP; omega
theorem Small.q {l : List Int} (h : Small l) {b : Int} (hb : 1 ≤ b ∧ b ≤ 20001) (i : Int) : 44 ≤ qQ l b i ∧ qQ l b i ≤ 882684 := by have := h.low i; unfold qQ; omega
theorem slope_bd {l : List Int} (h : Small l) {b : Int} (hb : 1 ≤ b ∧ b ≤ 20001) (i : Int) : -15120 ≤ (slopeOf l b i).1 ∧ (slopeOf l b i).1 ≤ 15120 ∧ 1 ≤ (slopeOf l b i).2 ∧ (slopeOf l b i).2 ≤ 882684 ∧ 0 ≤ siz (slopeOf l b i).1 ∧ siz (slopeOf l b i).1 ≤ 15120 := by
  have hp := h.p i
  have hq := h.q hb i
  have h1 := slope_p_le (l := l) (b := b) (i := i) (by omega)
  have h2 := slope_q_le (l := l) (b := b) (i := i) (by omega)
  have h3 := slope_q (l := l) (b := b) (i := i) (by omega)
  have h4 : siz (pP l i) ≤ 15120 := by unfold siz; split <;> omega
  have h5 := siz_nn (slopeOf l b i).1
  have h6 : -(siz (slopeOf l b i).1) ≤ (slopeOf l b i).1 ∧ (slopeOf l b i).1 ≤ siz (slopeOf l b i).1 := by unfold siz; split <;> omega
  omega
theorem slope_parts {l : List Int} (h : Small l) {b : Int} (hb : 1 ≤ b ∧ b ≤ 20001) (i : Int) : (gG l b i ≠ 0) ∧ wrap64 (Int.tdiv (pP l i) (gG l b i)) = (slopeOf l b i).1 ∧ wrap64 (Int.tdiv (qQ l b i) (gG l b i)) = (slopeOf l b i).2 ∧ ((Nat.gcd (siz (pP l i)).toNat (qQ l b i).toNat : Nat) : Int) = gG l b i := by
  have hq := h.q hb i
  have hs := slope_bd h hb i
  have hg := gG_pos (l := l) (b := b) (i := i) (by omega)
  have e1 : Int.tdiv (pP l i) (gG l b i) = (slopeOf l b i).1 := Int.tdiv_eq_ediv_of_dvd (Int.gcd_dvd_left ..)
  have e2 : Int.tdiv (qQ l b i) (gG l b i) = (slopeOf l b i).2 := Int.tdiv_eq_ediv_of_dvd (Int.gcd_dvd_right ..)
  refine ⟨by omega, ?_, ?_, ?_⟩
  · rw [e1, wrap64_id (by omega) (by omega)]
  · rw [e2, wrap64_id (by omega) (by omega)]
  · unfold gG Int.gcd
    rw [siz_abs, Int.toNat_natCast, show (qQ l b i).toNat = (qQ l b i).natAbs by omega]
theorem islope_ev {l : List Int} (h : Small l) {b s : Int} (hb : 1 ≤ b ∧ b ≤ 20001) (i : Int) (hi : 0 ≤ i ∧ i ≤ 100000) : Ev (fun k => impl_Cam_slope.f k l b s i) (slopeOf l b i) := by
  have hp := h.p i
  have hq := h.q hb i
  have hl := h.low i
  obtain ⟨g0, g1, g2, g3⟩ := slope_parts h hb i
  have hc := igcd_ev (qQ l b i).toNat (siz (pP l i)).toNat
  rw [g3, Int.toNat_of_nonneg (siz_nn _), Int.toNat_of_nonneg (by omega)] at hc
  unfold impl_Cam_slope.f
  rw [ichange_some h.ok _ (by omega), steps_of, iat_some h.ok _ (by omega)]
  simp only [Option.bind_some]
  rw [wrap64_id (x := changeAt l i * (l.length : Int)) (by omega) (by omega), wrap64_id (x := changeAt l i * (l.length : Int) * 7) (by omega) (by omega), wrap64_id (x := b + at_ l i) (by omega) (by omega), wrap64_id (x := 44 * (b + at_ l i)) (by omega) (by omega), abs_some (by omega)]
  simp only [Option.bind_some]
  refine Ev.bind (a := gG l b i) (by unfold impl_common.f; exact hc) (Ev.neg g0 ?_)
  rw [g1, g2]
  exact Ev.now _
theorem sslope_ev {l : List Int} (h : Small l) {b : Int} (hb : 1 ≤ b ∧ b ≤ 20001) (i : Int) (hi : 0 ≤ i ∧ i ≤ 100000) : Ev (fun k => spec_l03Slope.f k l b i) (slopeOf l b i) := by
  have hp := h.p i
  have hq := h.q hb i
  have hl := h.low i
  have hch := h.ch i
  obtain ⟨g0, g1, g2, g3⟩ := slope_parts h hb i
  have hc := sgcd_ev (qQ l b i).toNat (siz (pP l i)).toNat
  rw [g3, Int.toNat_of_nonneg (siz_nn _), Int.toNat_of_nonneg (by omega)] at hc
  unfold spec_l03Slope.f
  rw [wrap64_id (x := i + 1) (by omega) (by omega), at_any h.ok _ (by omega), at_any h.ok _ (by omega)]
  simp only [Option.bind_some]
  rw [show at_ l (i + 1) - at_ l i = changeAt l i from rfl, wrap64_id (x := changeAt l i) (by omega) (by omega), wrap64_id (x := changeAt l i * (l.length : Int)) (by omega) (by omega), wrap64_id (x := changeAt l i * (l.length : Int) * 7) (by omega) (by omega), wrap64_id (x := b + at_ l i) (by omega) (by omega), wrap64_id (x := 44 * (b + at_ l i)) (by omega) (by omega), size_some (by omega)]
  simp only [Option.bind_some]
  refine Ev.bind (a := gG l b i) (by unfold spec_l03Gcd.f; exact hc) (Ev.neg g0 ?_)
  rw [g1, g2]
  exact Ev.now _
/-- Slopes that can be compared. -/
structure Cp (s : Int × Int) : Prop where
  p : 0 ≤ siz s.1 ∧ siz s.1 ≤ 15120
  q : 1 ≤ s.2 ∧ s.2 ≤ 882684
theorem Cp.of {l : List Int} (h : Small l) {b : Int} (hb : 1 ≤ b ∧ b ≤ 20001) (i : Int) : Cp (slopeOf l b i) := by have := slope_bd h hb i; exact ⟨by omega, by omega⟩
theorem cp_mul {s t : Int × Int} (hs : Cp s) (ht : Cp t) : 0 ≤ siz s.1 * t.2 ∧ siz s.1 * t.2 ≤ 13346182080 := by
  have h1 := hs.p; have h2 := ht.q
  have a := Int.mul_nonneg h1.1 (show 0 ≤ t.2 by omega)
  have b := Int.mul_le_mul_of_nonneg_right h1.2 (show 0 ≤ t.2 by omega)
  omega
theorem icmp_some {s t : Int × Int} (hs : Cp s) (ht : Cp t) : impl_compareSlopes.f s.1 s.2 t.1 t.2 = some (cmpI s t) := by
  have h1 := cp_mul hs ht
  have h2 := cp_mul ht hs
  have b1 : -15120 ≤ s.1 ∧ s.1 ≤ 15120 := by have := hs.p; unfold siz at this; split at this <;> omega
  have b2 : -15120 ≤ t.1 ∧ t.1 ≤ 15120 := by have := ht.p; unfold siz at this; split at this <;> omega
  unfold impl_compareSlopes.f
  rw [abs_some (by omega), abs_some (by omega)]
  simp only [Option.bind_some]
  rw [wrap64_id (x := siz s.1 * t.2) (by omega) (by omega), wrap64_id (x := siz t.1 * s.2) (by omega) (by omega)]
  unfold cmpI; split
  · rfl
  · split <;> rfl
theorem scmp_some {s t : Int × Int} (hs : Cp s) (ht : Cp t) : spec_l03Cmp.f s.1 s.2 t.1 t.2 = some (cmpI s t) := by
  have h1 := cp_mul hs ht
  have h2 := cp_mul ht hs
  have b1 : -15120 ≤ s.1 ∧ s.1 ≤ 15120 := by have := hs.p; unfold siz at this; split at this <;> omega
  have b2 : -15120 ≤ t.1 ∧ t.1 ≤ 15120 := by have := ht.p; unfold siz at this; split at this <;> omega
  unfold spec_l03Cmp.f
  rw [size_some (by omega), size_some (by omega)]
  simp only [Option.bind_some]
  rw [wrap64_id (x := siz s.1 * t.2) (by omega) (by omega), wrap64_id (x := siz t.1 * s.2) (by omega) (by omega)]
  unfold cmpI; split
  · rfl
  · split <;> rfl
theorem isSlope_some {s : Int × Int} (hs : Cp s) : impl_isSlope.f s.1 s.2 = some true := by
  have b1 : -15120 ≤ s.1 ∧ s.1 ≤ 15120 := by have := hs.p; unfold siz at this; split at this <;> omega
  have := hs.q
  unfold impl_isSlope.f
  rw [in2_some, decide_eq_true (by omega)]
  simp only [Option.bind_some, if_true]
  rw [in2_some, decide_eq_true (by omega)]; rfl
theorem told_some {s : Int × Int} (hs : Cp s) : spec_l03Told.f s.1 s.2 = some true := by
  have b1 : -15120 ≤ s.1 ∧ s.1 ≤ 15120 := by have := hs.p; unfold siz at this; split at this <;> omega
  have := hs.q
  unfold spec_l03Told.f
  rw [in_some, decide_eq_true (by omega)]
  simp only [Option.bind_some, if_true]
  rw [in_some, decide_eq_true (by omega)]; rfl
theorem CompareSlopes_some {s t : Int × Int} (hs : Cp s) (ht : Cp t) : impl_CompareSlopes.f s.1 s.2 t.1 t.2 = some (cmpI s t, 0) := by
  unfold impl_CompareSlopes.f
  rw [isSlope_some hs, isSlope_some ht]
  simp only [Option.bind_some, if_true]
  rw [icmp_some hs ht]; rfl
/-- A follower. -/
abbrev Fol (b s : Int) : Prop := (1 ≤ b ∧ b ≤ 20000) ∧ (1 ≤ s ∧ s ≤ 10000)
theorem camCode_some {l : List Int} (h : Ok l) {b s : Int} (hf : Fol b s) : impl_camCode.f l b s = some 0 := by
  unfold impl_camCode.f impl_ValidFollower.f impl_isSpring.f
  rw [ValidCam_some h]
  simp only [Option.bind_some, if_true]
  rw [in2_some, decide_eq_true (by omega)]
  simp only [Option.bind_some, if_true]
  rw [in2_some, decide_eq_true (by omega)]; rfl
theorem asked_ev {l : List Int} (h : Ok l) {b s : Int} (hf : Fol b s) : Ev (fun k => spec_l03Asked.f k l b s) 0 := by
  unfold spec_l03Asked.f spec_l03Ok.f
  refine Ev.bind (a := true) (Ev.of (spec_l01Ok.mono l) (ok_some h 400 (by omega))) ?_
  simp only [if_true]
  rw [in_some, decide_eq_true (by omega)]
  simp only [Option.bind_some, if_true]
  rw [in_some, decide_eq_true (by omega)]
  exact Ev.now _
theorem Small.qp {l : List Int} (h : Small l) {b : Int} (hb : 1 ≤ b ∧ b ≤ 20001) : ∀ i : Nat, 0 < qQ l b i := fun i => by have := h.q hb i; omega
theorem stF_cp {l : List Int} (h : Small l) {b : Int} (hb : 1 ≤ b ∧ b ≤ 20001) (k : Nat) : Cp (stF l b k).2 := by
  cases k with
  | zero => exact Cp.of h hb 0
  | succ k => rw [(stF_steep (h.qp hb) k).is]; exact Cp.of h hb _
theorem isteep_loop {l : List Int} (h : Small l) {b s : Int} (hb : 1 ≤ b ∧ b ≤ 20001) (m : Nat) : ∀ i : Nat, i + m = l.length →
    Ev (fun k => impl_SteepestSlope.l0 k l (stF l b i).1 (l.length : Int) i b s (stF l b i).2.1 (stF l b i).2.2) ((stF l b l.length).1, (stF l b l.length).2.1, (stF l b l.length).2.2, 0) := by
  have hlen := h.len
  induction m with
  | zero =>
    intro i hi
    obtain rfl : i = l.length := by omega
    refine Ev.succ ?_
    simp only [impl_SteepestSlope.l0]
    exact Ev.neg (by omega) (Ev.now _)
  | succ m ih =>
    intro i hi
    have hn := ih (i + 1) (by omega)
    refine Ev.succ ?_
    simp only [impl_SteepestSlope.l0]
    refine Ev.pos (by omega) (Ev.bind (a := slopeOf l b i) (islope_ev h hb i (by omega)) (Ev.got (icmp_some (Cp.of h hb i) (stF_cp h hb i)) ?_))
    have e : stF l b (i + 1) = if cmpI (slopeOf l b i) (stF l b i).2 > 0 then ((i : Int), slopeOf l b i) else stF l b i := rfl
    rw [wrap64_id (by omega) (by omega)]
    by_cases hc : cmpI (slopeOf l b i) (stF l b i).2 > 0
    · rw [if_pos hc] at e
      rw [e] at hn
      exact Ev.pos hc hn
    · rw [if_neg hc] at e
      rw [e] at hn
      exact Ev.neg hc hn
theorem SteepestSlope_ev {l : List Int} (h : Small l) {b s : Int} (hf : Fol b s) : Ev (fun k => impl_SteepestSlope.f k l b s) ((stF l b l.length).1, (stF l b l.length).2.1, (stF l b l.length).2.2, 0) := by
  unfold impl_SteepestSlope.f
  refine Ev.got (camCode_some h.ok hf) (Ev.pos rfl (Ev.bind (a := slopeOf l b 0) (islope_ev h (by omega) 0 (by omega)) (Ev.got (steps_of l) ?_)))
  exact isteep_loop h (by omega) l.length 0 (by omega)
theorem ssteep_loop {l : List Int} (h : Small l) {b : Int} (hb : 1 ≤ b ∧ b ≤ 20001) (m : Nat) : ∀ i : Nat, i + m = l.length →
    Ev (fun k => spec_l03Steepest.l0 k l b (stF l b i).1 i (stF l b i).2.1 (stF l b i).2.2) ((stF l b l.length).1, (stF l b l.length).2.1, (stF l b l.length).2.2) := by
  have hlen := h.len
  induction m with
  | zero =>
    intro i hi
    obtain rfl : i = l.length := by omega
    refine Ev.succ ?_
    simp only [spec_l03Steepest.l0]
    exact Ev.neg (by omega) (Ev.now _)
  | succ m ih =>
    intro i hi
    have hn := ih (i + 1) (by omega)
    refine Ev.succ ?_
    simp only [spec_l03Steepest.l0]
    refine Ev.pos (by omega) (Ev.bind (a := slopeOf l b i) (sslope_ev h hb i (by omega)) (Ev.got (scmp_some (Cp.of h hb i) (stF_cp h hb i)) ?_))
    have e : stF l b (i + 1) = if cmpI (slopeOf l b i) (stF l b i).2 > 0 then ((i : Int), slopeOf l b i) else stF l b i := rfl
    rw [wrap64_id (by omega) (by omega)]
    by_cases hc : cmpI (slopeOf l b i) (stF l b i).2 > 0
    · rw [if_pos hc] at e
      rw [e] at hn
      exact Ev.pos hc hn
    · rw [if_neg hc] at e
      rw [e] at hn
      exact Ev.neg hc hn
theorem steep_ev {l : List Int} (h : Small l) {b : Int} (hb : 1 ≤ b ∧ b ≤ 20001) : Ev (fun k => spec_l03Steepest.f k l b) ((stF l b l.length).1, (stF l b l.length).2.1, (stF l b l.length).2.2) := by
  have hlo := h.ok.lo
  unfold spec_l03Steepest.f
  refine Ev.bind (a := slopeOf l b 0) (sslope_ev h hb 0 (by omega)) ?_
  have := ssteep_loop h hb (l.length - 1) 1 (by omega)
  rw [stF_one] at this
  exact this
theorem sSteepestSlope_ev {l : List Int} (h : Small l) {b s : Int} (hf : Fol b s) : Ev (fun k => spec_SteepestSlope.f k l b s) ((stF l b l.length).1, (stF l b l.length).2.1, (stF l b l.length).2.2, 0) := by
  unfold spec_SteepestSlope.f
  exact Ev.bind (asked_ev h.ok hf) (Ev.pos rfl (Ev.bind (steep_ev h (by omega)) (Ev.now _)))
theorem SlopeAt_ev {l : List Int} (h : Small l) {b s : Int} (hf : Fol b s) {i : Int} (hi : 0 ≤ i ∧ i < l.length) : Ev (fun k => impl_SlopeAt.f k l b s i) ((slopeOf l b i).1, (slopeOf l b i).2, 0) := by
  have hlen := h.len
  unfold impl_SlopeAt.f impl_isPlace.f
  refine Ev.got (camCode_some h.ok hf) (Ev.pos rfl ?_)
  rw [wrap64_id (by omega) (by omega), in2_some, decide_eq_true (by omega)]
  simp only [Option.bind_some]
  exact Ev.pos (by trivial) (Ev.bind (islope_ev h (by omega) i (by omega)) (Ev.now _))
theorem base_bd {l : List Int} (h : Small l) {P Q : Int} (hP : 1 ≤ P ∧ P ≤ 9) (hQ : 1 ≤ Q ∧ Q ≤ 9) (i : Int) : -136080 ≤ -siz (changeAt l i) * l.length * 7 * Q ∧ -siz (changeAt l i) * l.length * 7 * Q ≤ 0 ∧ -15120 ≤ -siz (changeAt l i) * l.length * 7 ∧ -siz (changeAt l i) * l.length * 7 ≤ 0 ∧ -2160 ≤ -siz (changeAt l i) * l.length ∧ -siz (changeAt l i) * l.length ≤ 0 ∧ -4000 ≤ (-siz (changeAt l i) * l.length * 7 * Q) / (44 * P) ∧ (-siz (changeAt l i) * l.length * 7 * Q) / (44 * P) ≤ 0 := by
  have h1 := h.ch i
  have h2 := h.len
  have hs : 0 ≤ siz (changeAt l i) ∧ siz (changeAt l i) ≤ 60 := by unfold siz; split <;> omega
  have a := Int.mul_le_mul_of_nonneg_right (show -60 ≤ -siz (changeAt l i) by omega) (show 0 ≤ (l.length : Int) by omega)
  have b := Int.mul_le_mul_of_nonneg_right (show -siz (changeAt l i) ≤ 0 by omega) (show 0 ≤ (l.length : Int) by omega)
  have c := Int.mul_le_mul_of_nonneg_right (show -15120 ≤ -siz (changeAt l i) * l.length * 7 by omega) (show 0 ≤ Q by omega)
  have d := Int.mul_le_mul_of_nonneg_right (show -siz (changeAt l i) * l.length * 7 ≤ 0 by omega) (show 0 ≤ Q by omega)
  refine ⟨by omega, by omega, by omega, by omega, by omega, by omega, ?_, ?_⟩
  · rw [Int.le_ediv_iff_mul_le (by omega)]; omega
  · have := Int.ediv_le_ediv (show 0 < 44 * P by omega) (show -siz (changeAt l i) * l.length * 7 * Q ≤ 0 by omega)
    rwa [Int.zero_ediv] at this
theorem base_le {l : List Int} (h : Small l) {P Q : Int} (hP : 1 ≤ P ∧ P ≤ 9) (hQ : 1 ≤ Q ∧ Q ≤ 9) (k : Nat) : baseF l P Q k ≤ 4000 :=
  baseF_le l P Q k (by omega) fun i _ => by have := base_bd h hP hQ i; have := h.low i; unfold need; omega
theorem ibase_loop {l : List Int} (h : Small l) {P Q : Int} (hP : 1 ≤ P ∧ P ≤ 9) (hQ : 1 ≤ Q ∧ Q ≤ 9) (m : Nat) : ∀ i : Nat, i + m = l.length →
    Ev (fun k => impl_LeastBase.l0 k l (baseF l P Q i) (l.length : Int) i P Q) (baseF l P Q l.length, 0) := by
  have hlen := h.len
  induction m with
  | zero =>
    intro i hi
    obtain rfl : i = l.length := by omega
    have := base_le h hP hQ l.length
    refine Ev.succ ?_
    simp only [impl_LeastBase.l0]
    exact Ev.neg (by omega) (Ev.neg (by omega) (Ev.now _))
  | succ m ih =>
    intro i hi
    have hn := ih (i + 1) (by omega)
    have hb := base_bd h hP hQ i
    have hc := h.ch i
    have hl := h.low i
    have hs := siz_nn (changeAt l i)
    have hs2 : siz (changeAt l i) ≤ 60 := by unfold siz; split <;> omega
    refine Ev.succ ?_
    simp only [impl_LeastBase.l0]
    refine Ev.pos (by omega) (Ev.got (ichange_some h.ok _ (by omega)) (Ev.got (abs_some (by omega)) (Ev.got (steps_of l) ?_)))
    rw [wrap64_id (x := -siz (changeAt l i)) (by omega) (by omega), wrap64_id (x := -siz (changeAt l i) * (l.length : Int)) (by omega) (by omega), wrap64_id (x := -siz (changeAt l i) * (l.length : Int) * 7) (by omega) (by omega), wrap64_id (x := -siz (changeAt l i) * (l.length : Int) * 7 * Q) (by omega) (by omega), wrap64_id (x := 44 * P) (by omega) (by omega)]
    refine Ev.got (floor_some (by omega) (by omega)) (Ev.got (iat_some h.ok _ (by omega)) ?_)
    rw [wrap64_id (x := -((-siz (changeAt l i) * (l.length : Int) * 7 * Q) / (44 * P))) (by omega) (by omega), wrap64_id (x := -((-siz (changeAt l i) * (l.length : Int) * 7 * Q) / (44 * P)) - at_ l i) (by omega) (by omega), wrap64_id (x := (i : Int) + 1) (by omega) (by omega)]
    have e : mx (baseF l P Q i) (-((-siz (changeAt l i) * (l.length : Int) * 7 * Q) / (44 * P)) - at_ l i) = baseF l P Q (i + 1) := by
      have : baseF l P Q (i + 1) = max (baseF l P Q i) (need l P Q i) := rfl
      rw [this]; unfold mx need; split <;> omega
    rw [e]
    exact hn
theorem LeastBase_ev {l : List Int} (h : Small l) {P Q : Int} (hP : 1 ≤ P ∧ P ≤ 9) (hQ : 1 ≤ Q ∧ Q ≤ 9) : Ev (fun k => impl_LeastBase.f k l P Q) (baseF l P Q l.length, 0) := by
  have hcp : Cp (P, Q) := ⟨by simp only; unfold siz; split <;> omega, by simp only; omega⟩
  unfold impl_LeastBase.f
  refine Ev.got (ValidCam_some h.ok) (Ev.pos rfl (Ev.got (isSlope_some hcp) ?_))
  refine Ev.succ ?_
  simp only [impl_LeastBase.j0]
  exact Ev.neg (by simp) (Ev.neg (by omega) (Ev.got (steps_of l) (ibase_loop h hP hQ l.length 0 (by omega))))
theorem sbase_loop {l : List Int} (h : Small l) {P Q : Int} (hP : 1 ≤ P ∧ P ≤ 9) (hQ : 1 ≤ Q ∧ Q ≤ 9) (m : Nat) : ∀ lo hi : Int, 1 ≤ lo → hi ≤ 20001 → lo ≤ baseF l P Q l.length → baseF l P Q l.length ≤ hi → hi - lo = m →
    Ev (fun k => spec_LeastBase.l0 k l lo hi P Q) (baseF l P Q l.length, 0) := by
  have hcp : Cp (P, Q) := ⟨by simp only; unfold siz; split <;> omega, by simp only; omega⟩
  have hlo8 := h.ok.lo
  induction m using Nat.strongRecOn with
  | _ m ih =>
    intro lo hi h1 h2 h3 h4 hm
    have h5 := base_le h hP hQ l.length
    refine Ev.succ ?_
    simp only [spec_LeastBase.l0]
    by_cases hlt : lo < hi
    · have e1 : Int.tdiv (lo + hi) 2 = (lo + hi) / 2 := Int.tdiv_eq_ediv_of_nonneg (by omega)
      rw [wrap64_id (x := lo + hi) (by omega) (by omega), e1, wrap64_id (x := (lo + hi) / 2) (by omega) (by omega), wrap64_id (x := (lo + hi) / 2 + 1) (by omega) (by omega)]
      have hb : 1 ≤ (lo + hi) / 2 ∧ (lo + hi) / 2 ≤ 20001 := by omega
      obtain ⟨n, hn⟩ : ∃ n, l.length = n + 1 := ⟨l.length - 1, by omega⟩
      have hs := stF_steep (h.qp hb) n
      rw [← hn] at hs
      have hfit := steep_fit (P := P) (Q := Q) (by omega) (by omega) hb.1 (h.qp hb) hs
      refine Ev.pos hlt (Ev.bind (steep_ev h hb) (Ev.got (scmp_some (stF_cp h hb l.length) hcp) ?_))
      by_cases hc : cmpI (stF l ((lo + hi) / 2) l.length).2 (P, Q) ≤ 0
      · have := hfit.mp hc
        exact Ev.pos hc (ih ((lo + hi) / 2 - lo).toNat (by omega) lo _ h1 (by omega) h3 this (by omega))
      · have := fun hh => hc (hfit.mpr hh)
        exact Ev.neg hc (ih (hi - ((lo + hi) / 2 + 1)).toNat (by omega) _ hi (by omega) h2 (by omega) h4 (by omega))
    · refine Ev.neg hlt (Ev.neg (by omega) ?_)
      rw [show lo = baseF l P Q l.length by omega]; exact Ev.now _
theorem sLeastBase_ev {l : List Int} (h : Small l) {P Q : Int} (hP : 1 ≤ P ∧ P ≤ 9) (hQ : 1 ≤ Q ∧ Q ≤ 9) : Ev (fun k => spec_LeastBase.f k l P Q) (baseF l P Q l.length, 0) := by
  have hcp : Cp (P, Q) := ⟨by simp only; unfold siz; split <;> omega, by simp only; omega⟩
  have h5 := base_le h hP hQ l.length
  have h6 := baseF_ge l P Q l.length
  unfold spec_LeastBase.f
  refine Ev.bind (a := true) (Ev.of (spec_l01Ok.mono l) (ok_some h.ok 400 (by omega))) (Ev.pos rfl (Ev.got (told_some hcp) ?_))
  refine Ev.succ ?_
  simp only [spec_LeastBase.j0]
  exact Ev.neg (by simp) (Ev.neg (by omega) (sbase_loop h hP hQ 20000 1 20001 (by omega) (by omega) (by omega) (by omega) (by omega)))
end Go.Proofs.Ytpjibhedpieafaa.H
namespace Go.Proofs.Ytpjibhedpieafaa.M
attribute [local simp] mapN_length
/-- Height, speed, touch. -/
abbrev Trk := Int × Int × Bool
def nextT (t : Trk) (lift s : Int) : Trk := if t.1 + (t.2.1 - s) > lift then (t.1 + (t.2.1 - s), t.2.1 - s, false) else (lift, lift - t.1, true)
def tr (l : List Int) (s : Int) : Nat → Trk
  | 0 => (at_ l 0, changeAt l (-1), true)
  | k + 1 => nextT (tr l s k) (at_ l ((k : Int) + 1)) s
/-- Lifts from 0 to 60. -/
abbrev Low (l : List Int) : Prop := ∀ i : Int, 0 ≤ at_ l i ∧ at_ l i ≤ 60
theorem tr_bd {l : List Int} (h : Low l) {s : Int} (hs : 0 ≤ s) (k : Nat) : at_ l k ≤ (tr l s k).1 ∧ (tr l s k).1 ≤ 60 * (k + 1) ∧ -60 * (k + 1) ≤ (tr l s k).2.1 ∧ (tr l s k).2.1 ≤ 60 := by
  induction k with
  | zero =>
    have h0 := h 0
    have h1 := h (-1)
    have h2 : changeAt l (-1) = at_ l 0 - at_ l (-1) := rfl
    simp only [tr, h2]
    refine ⟨Int.le_refl _, ?_, ?_, ?_⟩ <;> (try simp) <;> omega
  | succ k ih =>
    have h1 := h ((k : Int) + 1)
    have h0 := h (k : Int)
    simp only [tr, nextT]
    split
    · refine ⟨?_, ?_, ?_, ?_⟩ <;> (try simp) <;> omega
    · refine ⟨?_, ?_, ?_, ?_⟩ <;> (try simp) <;> omega
def lands (l : List Int) (s : Int) : Nat → Bool
  | 0 => false
  | k + 1 => (tr l s (k + 1)).2.2 && !(tr l s k).2.2
def blow (l : List Int) (s : Int) : Nat → Int
  | 0 => 0
  | k + 1 => (tr l s (k + 1)).2.1 - ((tr l s k).2.1 - s)
theorem blow_nn {l : List Int} {s : Int} {k : Nat} (h : lands l s k = true) : 0 ≤ blow l s k := by
  cases k with
  | zero => simp [blow]
  | succ k =>
    simp only [lands, Bool.and_eq_true] at h
    have h1 := h.1
    simp only [blow]
    simp only [tr, nextT] at h1 ⊢
    split at h1
    · cases h1
    · rename_i hn; rw [if_neg hn]; simp; omega
theorem blow_le {l : List Int} (hl : Low l) {s : Int} (hs : 0 ≤ s) (k : Nat) : blow l s k ≤ 60 + 60 * (k + 1) + s := by
  cases k with
  | zero => simp [blow]; omega
  | succ k =>
    have h1 := tr_bd hl hs (k + 1)
    have h2 := tr_bd hl hs k
    simp only [blow]
    omega
/-- The turn of a step in the second turn. -/
def second (n j : Nat) : Nat := if j = 0 then 2 * n else n + j
def wearAt (l : List Int) (s hd : Int) (j : Nat) : Int := if lands l s (second l.length j) = true then max 0 (at_ l j - blow l s (second l.length j) / hd) else at_ l j
/-- Behind m steps of the second turn. -/
def wearM (l : List Int) (s hd : Int) (m : Nat) : List Int := (List.range l.length).map fun j => if (j = 0 ∧ l.length ≤ m) ∨ (0 < j ∧ j ≤ m) then wearAt l s hd j else at_ l (j : Nat)
abbrev wornL (l : List Int) (s hd : Int) : List Int := wearM l s hd l.length
theorem wearM_len (l : List Int) (s hd : Int) (m : Nat) : (wearM l s hd m).length = l.length := by simp [wearM]
theorem wearM_get (l : List Int) (s hd : Int) (m j : Nat) (h : j < (wearM l s hd m).length) : (wearM l s hd m)[j] = if (j = 0 ∧ l.length ≤ m) ∨ (0 < j ∧ j ≤ m) then wearAt l s hd j else at_ l (j : Nat) := by simp [wearM]
theorem wearM_zero {l : List Int} (h : 0 < l.length) (s hd : Int) : wearM l s hd 0 = l := by
  apply List.ext_getElem (wearM_len ..)
  intro j h1 h2
  rw [wearM_get, if_neg (by omega)]; exact at_nat h2
theorem wearM_step {l : List Int} {s hd : Int} {m : Nat} (hm : m < l.length) : wearM l s hd (m + 1) = (wearM l s hd m).set ((m + 1) % l.length) (wearAt l s hd ((m + 1) % l.length)) := by
  generalize hq : (m + 1) % l.length = q
  apply List.ext_getElem (by rw [List.length_set, wearM_len, wearM_len])
  intro j h1 h2
  rw [wearM_len] at h1
  rw [List.getElem_set, wearM_get]
  by_cases hl : m + 1 = l.length
  · have e : q = 0 := by rw [← hq, hl, Nat.mod_self]
    subst e
    by_cases hj : j = 0
    · rw [if_pos hj.symm, if_pos (by omega), hj]
    · rw [if_neg (show ¬ 0 = j from fun h => hj h.symm), wearM_get]
      rw [if_pos (by omega), if_pos (by omega)]
  · have e : q = m + 1 := by rw [← hq]; exact Nat.mod_eq_of_lt (by omega)
    subst e
    by_cases hj : j = m + 1
    · rw [if_pos hj.symm, if_pos (by omega), hj]
    · rw [if_neg (show ¬ m + 1 = j from fun h => hj h.symm), wearM_get]
      by_cases hc : (j = 0 ∧ l.length ≤ m) ∨ (0 < j ∧ j ≤ m)
      · rw [if_pos (by omega), if_pos hc]
      · rw [if_neg (by omega), if_neg hc]
theorem wearM_same {l : List Int} {s hd : Int} {m : Nat} (hm : m < l.length) (h : lands l s (l.length + m + 1) = false) : wearM l s hd (m + 1) = wearM l s hd m := by
  rw [wearM_step hm]
  apply List.ext_getElem (by rw [List.length_set])
  intro j h1 h2
  rw [wearM_len] at h2
  rw [List.getElem_set]
  split
  · rename_i hj
    have hs : second l.length ((m + 1) % l.length) = l.length + m + 1 := by
      unfold second
      by_cases hl : m + 1 = l.length
      · rw [hl, Nat.mod_self, if_pos rfl]; omega
      · rw [Nat.mod_eq_of_lt (by omega), if_neg (by omega)]; omega
    rw [wearM_get, hj]
    unfold wearAt
    rw [← hj, hs, h]; simp
  · rfl
theorem second_eq {n m : Nat} (hm : m < n) : second n ((m + 1) % n) = n + m + 1 := by
  unfold second
  by_cases hl : m + 1 = n
  · rw [hl, Nat.mod_self, if_pos rfl]; omega
  · rw [Nat.mod_eq_of_lt (by omega), if_neg (by omega)]; omega
theorem wearM_old {l : List Int} {s hd : Int} {m : Nat} (hm : m < l.length) (h : (m + 1) % l.length < (wearM l s hd m).length) : (wearM l s hd m)[(m + 1) % l.length] = at_ l (((m + 1) % l.length : Nat) : Int) := by
  rw [wearM_get]
  by_cases hl : m + 1 = l.length
  · rw [hl, Nat.mod_self, if_neg (by omega)]
  · rw [Nat.mod_eq_of_lt (by omega), if_neg (by omega)]
theorem wearAt_le {l : List Int} (hl : Low l) {s hd : Int} (hhd : 1 ≤ hd) (j : Nat) : 0 ≤ wearAt l s hd j ∧ wearAt l s hd j ≤ at_ l j := by
  have h := hl (j : Int)
  unfold wearAt
  split
  · rename_i hb
    have := Int.ediv_nonneg (blow_nn hb) (show 0 ≤ hd by omega)
    omega
  · omega
theorem worn_get {l : List Int} {s hd : Int} {j : Nat} (h : j < l.length) : at_ (wornL l s hd) j = wearAt l s hd j := by
  have hw : j < (wornL l s hd).length := by rw [wearM_len]; exact h
  rw [at_nat hw, wearM_get, if_pos (by omega)]
theorem worn_le {l : List Int} (hl : Low l) {s hd : Int} (hhd : 1 ≤ hd) (j : Nat) (h : j < l.length) : 0 ≤ at_ (wornL l s hd) j ∧ at_ (wornL l s hd) j ≤ at_ l j := by
  rw [worn_get h]; exact wearAt_le hl hhd j
theorem low_of {l : List Int} (h0 : 0 < l.length) (h : ∀ x ∈ l, 0 ≤ x ∧ x ≤ 60) : Low l := fun i => h _ (at_mem h0 i)
theorem low_mem {l : List Int} (h : Low l) : ∀ x ∈ l, 0 ≤ x ∧ x ≤ 60 := fun x hx => by
  obtain ⟨i, hi, e⟩ := List.mem_iff_getElem.mp hx
  have := h (i : Int)
  rw [at_nat hi] at this
  rw [← e]; exact this
theorem worn_low {l : List Int} (h0 : 0 < l.length) (hl : Low l) {s hd : Int} (hhd : 1 ≤ hd) : Low (wornL l s hd) := by
  refine low_of (by rw [wearM_len]; exact h0) fun x hx => ?_
  obtain ⟨j, hj, e⟩ := List.mem_iff_getElem.mp hx
  rw [wearM_len] at hj
  have h1 := worn_le hl (s := s) hhd j hj
  have h2 := hl (j : Int)
  rw [at_nat (by rw [wearM_len]; exact hj), e] at h1
  omega
/-- With a spring that never lets go nothing is worn. -/
theorem tr_touch {l : List Int} {s : Int} (h : ∀ i : Int, -(at_ l (i + 1) - 2 * at_ l i + at_ l (i - 1)) ≤ s) (k : Nat) : tr l s k = (at_ l k, at_ l k - at_ l ((k : Int) - 1), true) := by
  induction k with
  | zero => rfl
  | succ k ih =>
    have := h (k : Int)
    simp only [tr]
    rw [ih]
    unfold nextT
    simp only
    rw [if_neg (by omega)]
    have e : ((k + 1 : Nat) : Int) = (k : Int) + 1 := by simp
    rw [e, show (k : Int) + 1 - 1 = k by omega]
theorem worn_same {l : List Int} (h0 : 0 < l.length) {s hd : Int} (h : ∀ i : Int, -(at_ l (i + 1) - 2 * at_ l i + at_ l (i - 1)) ≤ s) : wornL l s hd = l := by
  apply List.ext_getElem (wearM_len ..)
  intro j h1 h2
  rw [wearM_get, if_pos (by omega)]
  have hn : lands l s (second l.length j) = false := by
    generalize second l.length j = i
    cases i with
    | zero => rfl
    | succ i => simp only [lands]; rw [tr_touch h i]; simp
  unfold wearAt
  rw [hn]; simp; exact at_nat h2
end Go.Proofs.Ytpjibhedpieafaa.M
namespace Go.Proofs.Ytpjibhedpieafaa.H
open Go.RowKit Go.Proofs.YtpjibhedpieafaaW.PrintWords Go.Proofs.YtpjibhedpieafaaW.PrintLast Go.Proofs.YtpjibhedpieafaaW.PrintMore Go.Proofs.Ytpjibhedpieafaa.M
attribute [local simp] mapN_length
abbrev bendAt (l : List Int) (i : Int) : Int := at_ l (i + 1) - 2 * at_ l i + at_ l (i - 1)
abbrev bends (l : List Int) : List Int := mapN l.length (bendAt l)
theorem Small.bd {l : List Int} (h : Small l) (i : Int) : -240 ≤ bendAt l i ∧ bendAt l i ≤ 240 := by have := h.low i; have := h.low (i + 1); have := h.low (i - 1); unfold bendAt; omega
theorem bends_loop {l : List Int} (h : Small l) (m : Nat) : ∀ i : Nat, i + m = l.length → Ev (fun k => spec_l01Bends.l0 k l (mapN i (bendAt l)) i) (bends l) := by
  have hlen := h.len
  induction m with
  | zero =>
    intro i hi
    obtain rfl : i = l.length := by omega
    refine Ev.succ ?_
    simp only [spec_l01Bends.l0]
    exact Ev.neg (by omega) (Ev.now _)
  | succ m ih =>
    intro i hi
    have hn := ih (i + 1) (by omega)
    have h0 := h.low i
    have h1 := h.low ((i : Int) + 1)
    have h2 := h.low ((i : Int) - 1)
    refine Ev.succ ?_
    simp only [spec_l01Bends.l0]
    rw [wrap64_id (x := (i : Int) + 1) (by omega) (by omega), wrap64_id (x := (i : Int) - 1) (by omega) (by omega), at_any h.ok _ (by omega), at_any h.ok _ (by omega), at_any h.ok _ (by omega)]
    simp only [Option.bind_some]
    rw [wrap64_id (x := 2 * at_ l i) (by omega) (by omega), wrap64_id (x := at_ l ((i : Int) + 1) - 2 * at_ l i) (by omega) (by omega), wrap64_id (x := at_ l ((i : Int) + 1) - 2 * at_ l i + at_ l ((i : Int) - 1)) (by omega) (by omega)]
    refine Ev.pos (by omega) (Ev.pos (by simp; omega) ?_)
    rw [mapN_succ] at hn
    exact hn
theorem max_some (x y : Int) : spec_l00Max.f x y = some (max x y) := by unfold spec_l00Max.f; split <;> (congr 1; omega)
theorem negMost_take {xs : List Int} {i : Nat} (h : i < xs.length) : negMost (xs.take (i + 1)) = max (negMost (xs.take i)) (-xs[i]) := by
  unfold negMost; rw [List.take_succ_eq_append_getElem h, List.foldl_append]; rfl
theorem spring_loop {xs : List Int} (hx : ∀ x ∈ xs, -240 ≤ x ∧ x ≤ 240) (hl : xs.length ≤ 1000) (m : Nat) : ∀ i : Nat, i + m = xs.length → Ev (fun k => spec_LeastSpring.l0 k xs (negMost (xs.take i)) i) (negMost xs, 0) := by
  induction m with
  | zero =>
    intro i hi
    refine Ev.succ ?_
    simp only [spec_LeastSpring.l0]
    rw [List.take_of_length_le (by omega)]
    exact Ev.neg (by omega) (Ev.now _)
  | succ m ih =>
    intro i hi
    have hn := ih (i + 1) (by omega)
    have hb := hx _ (List.getElem_mem (show i < xs.length by omega))
    refine Ev.succ ?_
    simp only [spec_LeastSpring.l0]
    rw [rd_get xs i (by omega), wrap64_id (x := -xs[i]) (by omega) (by omega), max_some, wrap64_id (x := (i : Int) + 1) (by omega) (by omega)]
    simp only [Option.bind_some]
    rw [negMost_take (by omega)] at hn
    exact Ev.pos (by omega) (Ev.pos (by omega) hn)
theorem bends_mem {l : List Int} (h : Small l) : ∀ x ∈ bends l, -240 ≤ x ∧ x ≤ 240 := fun x hx => by obtain ⟨i, _, e⟩ := mem_mapN.mp hx; rw [← e]; exact h.bd i
theorem spring_bd {l : List Int} (h : Small l) : 1 ≤ negMost (bends l) ∧ negMost (bends l) ≤ 240 := by
  refine ⟨(negMost_ge _).1, ?_⟩
  rcases negMost_is (bends l) with e | ⟨x, hx, e⟩
  · omega
  · have := bends_mem h x hx; omega
theorem LeastSpring_ev {l : List Int} (h : Small l) : Ev (fun k => spec_LeastSpring.f k l) (negMost (bends l), 0) := by
  have hlen := h.len
  unfold spec_LeastSpring.f spec_l01Bends.f
  refine Ev.bind (a := true) (Ev.of (spec_l01Ok.mono l) (ok_some h.ok 400 (by omega))) (Ev.pos rfl (Ev.bind (a := bends l) (bends_loop h l.length 0 (by omega)) ?_))
  have hb : (bends l).length = l.length := mapN_length _ _
  exact spring_loop (xs := bends l) (bends_mem h) (by omega) (bends l).length 0 (by omega)
theorem spring_all {l : List Int} (h : Small l) (i : Int) : -(at_ l (i + 1) - 2 * at_ l i + at_ l (i - 1)) ≤ negMost (bends l) := by
  have hlo := h.ok.lo
  have e0 := Int.emod_nonneg i (show (l.length : Int) ≠ 0 by omega)
  have e1 := Int.emod_lt_of_pos i (show (0 : Int) < l.length by omega)
  have e : bendAt l (i % l.length) = bendAt l i := by
    unfold bendAt
    rw [at_mod]
    have a : at_ l (i % (l.length : Int) + 1) = at_ l (i + 1) := by unfold at_; rw [Int.emod_add_emod]
    have b : at_ l (i % (l.length : Int) - 1) = at_ l (i - 1) := by unfold at_; rw [Int.emod_sub_emod]
    rw [a, b]
  have hm : bendAt l i ∈ bends l := mem_mapN.mpr ⟨(i % l.length).toNat, by omega, by rw [Int.toNat_of_nonneg e0]; exact e⟩
  exact (negMost_ge _).2 _ hm
abbrev STrk := S238
abbrev SLnd := S225
abbrev toT (t : Trk) : STrk := ⟨t.1, t.2.1, t.2.2⟩
abbrev trks (l : List Int) (s : Int) (k : Nat) : List STrk := (List.range (k + 1)).map fun j => toT (tr l s j)
theorem trks_len (l : List Int) (s : Int) (k : Nat) : (trks l s k).length = k + 1 := by simp
theorem trks_succ (l : List Int) (s : Int) (k : Nat) : trks l s (k + 1) = trks l s k ++ [toT (tr l s (k + 1))] := by unfold trks; rw [List.range_succ (n := k + 1), List.map_append]; rfl
theorem rd_trks {l : List Int} {s : Int} {k j : Nat} (h : j ≤ k) : rd_T238 (trks l s k) j = toT (tr l s j) := by
  unfold rd_T238
  rw [Int.toNat_natCast, List.getD_eq_getElem?_getD, List.getElem?_map, List.getElem?_range (by omega)]; rfl
theorem inext_some {t : Trk} {lift s : Int} (h1 : -100000 ≤ t.1 ∧ t.1 ≤ 100000) (h2 : -100000 ≤ t.2.1 ∧ t.2.1 ≤ 100000) (h3 : 0 ≤ lift ∧ lift ≤ 100000) (h4 : 0 ≤ s ∧ s ≤ 100000) : impl_Track_next.f t.1 t.2.1 t.2.2 lift s = some (nextT t lift s) := by
  unfold impl_Track_next.f nextT
  rw [wrap64_id (x := t.2.1 - s) (by omega) (by omega), wrap64_id (x := t.1 + (t.2.1 - s)) (by omega) (by omega), wrap64_id (x := lift - t.1) (by omega) (by omega)]
  split <;> rfl
theorem snext_some {t : Trk} {lift s : Int} (h1 : -100000 ≤ t.1 ∧ t.1 ≤ 100000) (h2 : -100000 ≤ t.2.1 ∧ t.2.1 ≤ 100000) (h3 : 0 ≤ lift ∧ lift ≤ 100000) (h4 : 0 ≤ s ∧ s ≤ 100000) : spec_l03Next.f t.1 t.2.1 t.2.2 lift s = some (nextT t lift s) := by
  unfold spec_l03Next.f nextT
  rw [wrap64_id (x := t.2.1 - s) (by omega) (by omega), wrap64_id (x := t.1 + (t.2.1 - s)) (by omega) (by omega), wrap64_id (x := lift - t.1) (by omega) (by omega)]
  split <;> rfl
theorem ifollow_loop {l : List Int} (h : Small l) {s : Int} (hs : 0 ≤ s ∧ s ≤ 10000) {n : Nat} (hn : n ≤ 200) (m : Nat) : ∀ i : Nat, i + m = n →
    Ev (fun k => impl_Cam_follow.l0 k l s n (trks l s i) ((i : Int) + 1) (tr l s i).1 (tr l s i).2.1 (tr l s i).2.2) (trks l s n) := by
  induction m with
  | zero =>
    intro i hi
    obtain rfl : i = n := by omega
    refine Ev.succ ?_
    simp only [impl_Cam_follow.l0]
    exact Ev.neg (by omega) (Ev.now _)
  | succ m ih =>
    intro i hi
    have hn := ih (i + 1) (by omega)
    have hb := tr_bd h.low hs.1 i
    have hl := h.low ((i : Int) + 1)
    have hl0 := h.low (i : Int)
    refine Ev.succ ?_
    simp only [impl_Cam_follow.l0]
    refine Ev.pos (by omega) (Ev.got (iat_some h.ok _ (by omega)) (Ev.got (inext_some (by omega) (by omega) (by omega) (by omega)) (Ev.pos (by rw [trks_len]; omega) ?_)))
    rw [wrap64_id (x := (i : Int) + 1 + 1) (by omega) (by omega)]
    rw [trks_succ] at hn
    exact hn
theorem follow_ev {l : List Int} (h : Small l) {s : Int} (hs : 0 ≤ s ∧ s ≤ 10000) {n : Nat} (hn : n ≤ 200) : Ev (fun k => impl_Cam_follow.f k l s n) (trks l s n) := by
  unfold impl_Cam_follow.f
  refine Ev.got (iat_some h.ok 0 (by omega)) (Ev.got (ichange_some h.ok (-1) (by omega)) ?_)
  exact ifollow_loop h hs hn n 0 (by omega)
theorem sfollow_loop {l : List Int} (h : Small l) {s : Int} (hs : 0 ≤ s ∧ s ≤ 10000) {n : Nat} (hn : n ≤ 200) (m : Nat) : ∀ i : Nat, i + m = n →
    Ev (fun k => spec_l03Follow.l0 k l s n (trks l s i) ((i : Int) + 1)) (trks l s n) := by
  induction m with
  | zero =>
    intro i hi
    obtain rfl : i = n := by omega
    refine Ev.succ ?_
    simp only [spec_l03Follow.l0]
    exact Ev.neg (by omega) (Ev.now _)
  | succ m ih =>
    intro i hi
    have hn := ih (i + 1) (by omega)
    have hb := tr_bd h.low hs.1 i
    have hl := h.low ((i : Int) + 1)
    have hl0 := h.low (i : Int)
    refine Ev.succ ?_
    simp only [spec_l03Follow.l0]
    rw [show (i : Int) + 1 - 1 = i by omega, wrap64_id (x := (i : Int)) (by omega) (by omega), rd_trks (Nat.le_refl i)]
    refine Ev.pos (by omega) (Ev.pos (by omega) (Ev.pos (by rw [trks_len]; omega) (Ev.got (at_any h.ok _ (by omega)) (Ev.got (snext_some (t := tr l s i) (by omega) (by omega) (by omega) (by omega)) (Ev.pos (by rw [trks_len]; omega) ?_)))))
    rw [wrap64_id (x := (i : Int) + 1 + 1) (by omega) (by omega)]
    rw [trks_succ] at hn
    exact hn
theorem sfollow_ev {l : List Int} (h : Small l) {s : Int} (hs : 0 ≤ s ∧ s ≤ 10000) {n : Nat} (hn : n ≤ 200) : Ev (fun k => spec_l03Follow.f k l s n) (trks l s n) := by
  have h0 := h.low 0
  have h1 := h.low (-1)
  unfold spec_l03Follow.f spec_l03Begin.f
  rw [at_any h.ok 0 (by omega), at_any h.ok (-1) (by omega)]
  simp only [Option.bind_some]
  rw [wrap64_id (x := at_ l 0 - at_ l (-1)) (by omega) (by omega)]
  exact sfollow_loop h hs hn n 0 (by omega)
def lnds (l : List Int) (s : Int) : Nat → List SLnd
  | 0 => []
  | k + 1 => if lands l s (k + 1) = true then lnds l s k ++ [⟨((k + 1 : Nat) : Int), blow l s (k + 1)⟩] else lnds l s k
theorem lnds_len (l : List Int) (s : Int) (k : Nat) : (lnds l s k).length ≤ k := by
  induction k with
  | zero => simp [lnds]
  | succ k ih => simp only [lnds]; split <;> (try simp) <;> omega
theorem landings_loop {l : List Int} (h : Small l) {s : Int} (hs : 0 ≤ s ∧ s ≤ 10000) {n : Nat} (hn : n ≤ 200) (m : Nat) : ∀ i : Nat, i + m = n →
    Ev (fun k => impl_landings.l0 k (trks l s n) s (lnds l s i) ((i : Int) + 1)) (lnds l s n) := by
  induction m with
  | zero =>
    intro i hi
    obtain rfl : i = n := by omega
    refine Ev.succ ?_
    simp only [impl_landings.l0]
    exact Ev.neg (by rw [trks_len]; omega) (Ev.now _)
  | succ m ih =>
    intro i hi
    have hn := ih (i + 1) (by omega)
    have hb := tr_bd h.low hs.1 i
    have hb2 := tr_bd h.low hs.1 (i + 1)
    have hl := h.low ((i : Int) + 1)
    have hll := lnds_len l s i
    have r1 : rd_T238 (trks l s n) ((i : Int) + 1) = toT (tr l s (i + 1)) := rd_trks (j := i + 1) (by omega)
    have r0 : rd_T238 (trks l s n) (i : Int) = toT (tr l s i) := rd_trks (by omega)
    refine Ev.succ ?_
    simp only [impl_landings.l0]
    rw [show (i : Int) + 1 - 1 = i by omega, wrap64_id (x := (i : Int)) (by omega) (by omega), wrap64_id (x := (i : Int) + 1 + 1) (by omega) (by omega), r1, r0]
    refine Ev.pos (by rw [trks_len]; omega) (Ev.pos (by omega) (Ev.pos (by omega) (Ev.pos (by rw [trks_len]; omega) ?_)))
    by_cases ht : (tr l s (i + 1)).2.2 = true
    · refine Ev.pos ht ?_
      by_cases ht0 : (tr l s i).2.2 = true
      · have e : lands l s (i + 1) = false := by simp only [lands]; rw [ht0]; simp
        simp only [lnds] at hn
        rw [if_neg (by rw [e]; simp)] at hn
        exact Ev.pos ht0 hn
      · have e : lands l s (i + 1) = true := by simp only [lands]; rw [ht]; simpa using ht0
        simp only [lnds] at hn
        rw [if_pos e] at hn
        refine Ev.neg ht0 (Ev.pos (by omega) ?_)
        rw [wrap64_id (x := (tr l s i).2.1 - s) (by omega) (by omega), wrap64_id (x := (tr l s (i + 1)).2.1 - ((tr l s i).2.1 - s)) (by omega) (by omega)]
        exact hn
    · have e : lands l s (i + 1) = false := by simp only [lands]; rw [show (tr l s (i + 1)).2.2 = false by simpa using ht]; simp
      simp only [lnds] at hn
      rw [if_neg (by rw [e]; simp)] at hn
      exact Ev.neg ht hn
theorem landings_ev {l : List Int} (h : Small l) {s : Int} (hs : 0 ≤ s ∧ s ≤ 10000) {n : Nat} (hn : n ≤ 200) : Ev (fun k => impl_landings.f k (trks l s n) s) (lnds l s n) := by
  unfold impl_landings.f
  exact landings_loop h hs hn n 0 (by omega)
def wstep (n : Nat) (hd : Int) (out : List Int) (x : SLnd) : List Int := if x.f0 > n then out.set (x.f0 % n).toNat (max 0 (rd out (x.f0 % n) - x.f1 / hd)) else out
structure Lnd (n : Nat) (x : SLnd) : Prop where
  step : 1 ≤ x.f0 ∧ x.f0 ≤ 2 * n
  blow : 0 ≤ x.f1 ∧ x.f1 ≤ 100000
theorem wstep_len (n : Nat) (hd : Int) (out : List Int) (x : SLnd) : (wstep n hd out x).length = out.length := by unfold wstep; split <;> simp
theorem lnds_ok {l : List Int} (h : Small l) {s : Int} (hs : 0 ≤ s ∧ s ≤ 10000) (n k : Nat) (hk : k ≤ 2 * n) (hn : n ≤ 100) : ∀ x ∈ lnds l s k, Lnd n x := by
  induction k with
  | zero => intro x hx; cases hx
  | succ k ih =>
    intro x hx
    simp only [lnds] at hx
    split at hx
    · rename_i hl
      rcases List.mem_append.mp hx with h1 | h1
      · exact ih (by omega) x h1
      · rw [List.mem_singleton.mp h1]
        have := blow_nn hl
        have := blow_le h.low hs.1 (k + 1)
        exact ⟨by simp only; omega, by simp only; omega⟩
    · exact ih (by omega) x hx
theorem worn_loop {n : Nat} (hn : 1 ≤ n ∧ n ≤ 100) {hd : Int} (hhd : 1 ≤ hd ∧ hd ≤ 10000) (xs : List SLnd) (hxl : xs.length ≤ 1000) (ys : List SLnd) : ∀ (i : Nat) (out : List Int), xs.drop i = ys → i + ys.length = xs.length → out.length = n → (∀ x ∈ out, 0 ≤ x ∧ x ≤ 60) → (∀ y ∈ ys, Lnd n y) →
    Ev (fun k => impl_Cam_worn.l0 k hd n out xs (xs.length : Int) i) (ys.foldl (wstep n hd) out) := by
  induction ys with
  | nil =>
    intro i out hy hi _ _ _
    refine Ev.succ ?_
    simp only [impl_Cam_worn.l0]
    exact Ev.neg (by simp at hi; omega) (Ev.now _)
  | cons y ys ih =>
    intro i out hy hi ho hb hok
    simp at hi
    have hyi : rd_T225 xs i = y := by
      have hlt : i < xs.length := by omega
      have : xs[i] = y := by rw [List.drop_eq_getElem_cons hlt] at hy; exact (List.cons.inj hy).1
      unfold rd_T225
      rw [Int.toNat_natCast, List.getD_eq_getElem?_getD, List.getElem?_eq_getElem hlt, this]; rfl
    have hy2 : xs.drop (i + 1) = ys := by rw [List.drop_eq_getElem_cons (show i < xs.length by omega)] at hy; exact (List.cons.inj hy).2
    have hl := hok y List.mem_cons_self
    have h1 := hl.step; have h2 := hl.blow
    have m0 := Int.emod_nonneg y.f0 (show (n : Int) ≠ 0 by omega)
    have m1 := Int.emod_lt_of_pos y.f0 (show (0 : Int) < n by omega)
    have hr : 0 ≤ rd out (y.f0 % n) ∧ rd out (y.f0 % n) ≤ 60 := hb _ (rd_mem m0 (by omega))
    have hq := Int.ediv_nonneg h2.1 (show 0 ≤ hd by omega)
    have hq2 : y.f1 / hd ≤ 100000 := by have := Int.ediv_le_self hd h2.1; omega
    have e1 : Int.tmod y.f0 (n : Int) = y.f0 % n := Int.tmod_eq_emod_of_nonneg (by omega)
    have e2 : Int.tdiv y.f1 hd = y.f1 / hd := Int.tdiv_eq_ediv_of_nonneg h2.1
    have e3 : mx 0 (rd out (y.f0 % n) - y.f1 / hd) = max 0 (rd out (y.f0 % n) - y.f1 / hd) := by unfold mx; split <;> omega
    have hnext := ih (i + 1) (wstep n hd out y) hy2 (by omega) (by rw [wstep_len]; exact ho) (by
      intro x hx
      unfold wstep at hx
      split at hx
      · rcases List.mem_or_eq_of_mem_set hx with h | h
        · exact hb x h
        · rw [h]; omega
      · exact hb x hx) (fun z hz => hok z (List.mem_cons_of_mem _ hz))
    refine Ev.succ ?_
    simp only [impl_Cam_worn.l0]
    rw [hyi, e1, e2, wrap64_id (x := rd out (y.f0 % n)) (by omega) (by omega), wrap64_id (x := y.f1 / hd) (by omega) (by omega), wrap64_id (x := rd out (y.f0 % n) - y.f1 / hd) (by omega) (by omega), e3, i16_id (by omega) (by omega), wrap64_id (x := (i : Int) + 1) (by omega) (by omega)]
    refine Ev.pos (by omega) (Ev.pos (by omega) (Ev.pos (by omega) ?_))
    rw [List.foldl_cons]
    by_cases hc : y.f0 > n
    · have ew : wstep n hd out y = out.set (y.f0 % n).toNat (max 0 (rd out (y.f0 % n) - y.f1 / hd)) := if_pos hc
      rw [ew] at hnext ⊢
      exact Ev.pos hc (Ev.neg (by omega) (Ev.pos m0 (Ev.pos (by omega) (Ev.neg (by omega) hnext))))
    · have ew : wstep n hd out y = out := if_neg hc
      rw [ew] at hnext ⊢
      exact Ev.neg hc hnext
theorem fold_first {l : List Int} {s hd : Int} (k : Nat) (hk : k ≤ l.length) : (lnds l s k).foldl (wstep l.length hd) l = l := by
  induction k with
  | zero => rfl
  | succ k ih =>
    simp only [lnds]
    split
    · rw [List.foldl_append, ih (by omega)]; simp only [List.foldl_cons, List.foldl_nil]; unfold wstep; rw [if_neg (by simp only; omega)]
    · exact ih (by omega)
theorem fold_second {l : List Int} {s hd : Int} (m : Nat) (hm : m ≤ l.length) (h0 : 0 < l.length) : (lnds l s (l.length + m)).foldl (wstep l.length hd) l = wearM l s hd m := by
  induction m with
  | zero => rw [Nat.add_zero, fold_first l.length (by omega), wearM_zero h0]
  | succ m ih =>
    rw [show l.length + (m + 1) = (l.length + m) + 1 by omega]
    simp only [lnds]
    split
    · rename_i hl
      rw [List.foldl_append, ih (by omega)]
      simp only [List.foldl_cons, List.foldl_nil]
      have hq : ((l.length + m + 1 : Nat) : Int) % (l.length : Int) = (((m + 1) % l.length : Nat) : Int) := by
        rw [show ((l.length + m + 1 : Nat) : Int) = ((m + 1 : Nat) : Int) + l.length by omega, Int.add_emod_right]; rfl
      have hlt := Nat.mod_lt (m + 1) h0
      unfold wstep
      simp only
      rw [if_pos (by omega), hq, Int.toNat_natCast, wearM_step (by omega), rd_get _ _ (by rw [wearM_len]; exact hlt), wearM_old (by omega)]
      congr 1
      unfold wearAt
      rw [second_eq (by omega), if_pos hl]
    · rename_i hl
      rw [ih (by omega), wearM_same (by omega) (by simpa using hl)]
theorem low_list {l : List Int} (h : Small l) : ∀ x ∈ l, 0 ≤ x ∧ x ≤ 60 := low_mem h.low
theorem worn_ev {l : List Int} (h : Small l) {s hd : Int} (hs : 0 ≤ s ∧ s ≤ 10000) (hhd : 1 ≤ hd ∧ hd ≤ 10000) : Ev (fun k => impl_Cam_worn.f k l s hd) (wornL l s hd) := by
  have hlen := h.len; have hlo := h.ok.lo
  unfold impl_Cam_worn.f
  refine Ev.got (steps_of l) (Ev.got (a := l) (if_pos (by omega)) ?_)
  rw [wrap64_id (x := 2 * (l.length : Int)) (by omega) (by omega), show 2 * (l.length : Int) = ((l.length + l.length : Nat) : Int) by omega]
  have hll := lnds_len l s (l.length + l.length)
  refine Ev.bind (follow_ev h hs (by omega)) (Ev.bind (landings_ev h hs (by omega)) ?_)
  have := worn_loop (n := l.length) (by omega) hhd (lnds l s (l.length + l.length)) (by omega) (lnds l s (l.length + l.length)) 0 l rfl (by omega) rfl (low_list h) (lnds_ok h hs l.length _ (by omega) (by omega))
  rw [fold_second l.length (Nat.le_refl _) (by omega)] at this
  exact this
theorem lands_some {l : List Int} {s : Int} {n i : Nat} (hi : i + 1 ≤ n) (hn : n ≤ 200) : spec_l03Lands.f (trks l s n) ((i : Int) + 1) = some (lands l s (i + 1)) := by
  have r1 : rd_T238 (trks l s n) ((i : Int) + 1) = toT (tr l s (i + 1)) := rd_trks (j := i + 1) (by omega)
  have r0 : rd_T238 (trks l s n) (i : Int) = toT (tr l s i) := rd_trks (by omega)
  unfold spec_l03Lands.f
  rw [show (i : Int) + 1 - 1 = i by omega, wrap64_id (x := (i : Int)) (by omega) (by omega), r1, r0, if_pos (by omega), if_pos (by rw [trks_len]; omega)]
  simp only [lands]
  by_cases h : (tr l s (i + 1)).2.2 = true
  · rw [if_pos h, if_pos (by omega), if_pos (by rw [trks_len]; omega), h]; simp
  · rw [if_neg h, show (tr l s (i + 1)).2.2 = false by simpa using h]; simp
theorem blow_some {l : List Int} (h : Small l) {s : Int} (hs : 0 ≤ s ∧ s ≤ 10000) {n i : Nat} (hi : i + 1 ≤ n) (hn : n ≤ 200) (hl : lands l s (i + 1) = true) : spec_l03Blow.f (trks l s n) ((i : Int) + 1) s = some (blow l s (i + 1)) := by
  have hb := tr_bd h.low hs.1 i
  have hb2 := tr_bd h.low hs.1 (i + 1)
  have hl1 := h.low ((i : Int) + 1)
  have r1 : rd_T238 (trks l s n) ((i : Int) + 1) = toT (tr l s (i + 1)) := rd_trks (j := i + 1) (by omega)
  have r0 : rd_T238 (trks l s n) (i : Int) = toT (tr l s i) := rd_trks (by omega)
  have hl2 := hl
  simp only [lands, Bool.and_eq_true] at hl2
  unfold spec_l03Blow.f
  rw [show (i : Int) + 1 - 1 = i by omega, wrap64_id (x := (i : Int)) (by omega) (by omega), r1, r0, if_pos (by omega), if_pos (by rw [trks_len]; omega), if_pos hl2.1, if_pos (by omega), if_pos (by rw [trks_len]; omega), if_neg (by simpa using hl2.2)]
  simp only
  rw [wrap64_id (x := (tr l s i).2.1 - s) (by omega) (by omega), wrap64_id (x := (tr l s (i + 1)).2.1 - ((tr l s i).2.1 - s)) (by omega) (by omega)]
  rfl
theorem sworn_loop {l : List Int} (h : Small l) {s hd : Int} (hs : 0 ≤ s ∧ s ≤ 10000) (hhd : 1 ≤ hd ∧ hd ≤ 10000) (m : Nat) : ∀ i : Nat, i + m = l.length →
    Ev (fun k => spec_l03Worn.l0 k l s hd (l.length : Int) (trks l s (l.length + l.length)) (wearM l s hd i) (((l.length + i : Nat) : Int) + 1)) (wornL l s hd) := by
  have hlen := h.len; have hlo := h.ok.lo
  induction m with
  | zero =>
    intro i hi
    obtain rfl : i = l.length := by omega
    refine Ev.succ ?_
    simp only [spec_l03Worn.l0]
    rw [wrap64_id (x := 2 * (l.length : Int)) (by omega) (by omega)]
    exact Ev.neg (by omega) (Ev.now _)
  | succ m ih =>
    intro i hi
    have hn := ih (i + 1) (by omega)
    have hlt := Nat.mod_lt (i + 1) (show 0 < l.length by omega)
    have hw := wearAt_le h.low (s := s) hhd.1 ((i + 1) % l.length)
    have hl := h.low (((i + 1) % l.length : Nat) : Int)
    have hq : (((l.length + i : Nat) : Int) + 1) % (l.length : Int) = (((i + 1) % l.length : Nat) : Int) := by
      rw [show ((l.length + i : Nat) : Int) + 1 = ((i + 1 : Nat) : Int) + l.length by omega, Int.add_emod_right]; rfl
    have hat : at_ l (((l.length + i : Nat) : Int) + 1) = at_ l (((i + 1) % l.length : Nat) : Int) := by rw [← hq, at_mod]
    have e1 : Int.tmod (((l.length + i : Nat) : Int) + 1) (l.length : Int) = (((i + 1) % l.length : Nat) : Int) := by rw [Int.tmod_eq_emod_of_nonneg (by omega), hq]
    refine Ev.succ ?_
    simp only [spec_l03Worn.l0]
    rw [wrap64_id (x := 2 * (l.length : Int)) (by omega) (by omega), wrap64_id (x := ((l.length + i : Nat) : Int) + 1 + 1) (by omega) (by omega), e1]
    rw [show ((l.length + i : Nat) : Int) + 1 + 1 = ((l.length + (i + 1) : Nat) : Int) + 1 by omega]
    refine Ev.pos (by omega) (Ev.got (lands_some (i := l.length + i) (by omega) (by omega)) ?_)
    by_cases hla : lands l s (l.length + i + 1) = true
    · have hbn := blow_nn hla
      have hbl := blow_le h.low hs.1 (l.length + i + 1)
      have hdn := Int.ediv_nonneg hbn (show 0 ≤ hd by omega)
      have hd2 := Int.ediv_le_self hd hbn
      have ew : max 0 (at_ l (((i + 1) % l.length : Nat) : Int) - blow l s (l.length + i + 1) / hd) = wearAt l s hd ((i + 1) % l.length) := by unfold wearAt; rw [second_eq (by omega), if_pos hla]
      refine Ev.pos hla (Ev.got (at_any h.ok _ (by omega)) (Ev.got (blow_some h hs (i := l.length + i) (by omega) (by omega) hla) (Ev.neg (by omega) (Ev.neg (by omega) ?_))))
      rw [hat, Int.tdiv_eq_ediv_of_nonneg hbn, wrap64_id (x := blow l s (l.length + i + 1) / hd) (by omega) (by omega), wrap64_id (x := at_ l (((i + 1) % l.length : Nat) : Int) - blow l s (l.length + i + 1) / hd) (by omega) (by omega), max_some, ew]
      simp only [Option.bind_some]
      refine Ev.pos (by omega) (Ev.pos (by rw [wearM_len]; omega) ?_)
      rw [Int.toNat_natCast, i16_id (by omega) (by omega), ← wearM_step (by omega)]
      exact hn
    · refine Ev.neg hla ?_
      rw [← wearM_same (by omega) (by simpa using hla)]
      exact hn
theorem sworn_ev {l : List Int} (h : Small l) {s hd : Int} (hs : 0 ≤ s ∧ s ≤ 10000) (hhd : 1 ≤ hd ∧ hd ≤ 10000) : Ev (fun k => spec_l03Worn.f k l s hd) (wornL l s hd) := by
  have hlen := h.len; have hlo := h.ok.lo
  unfold spec_l03Worn.f
  rw [wrap64_id (x := 2 * (l.length : Int)) (by omega) (by omega), show 2 * (l.length : Int) = ((l.length + l.length : Nat) : Int) by omega, wrap64_id (x := (l.length : Int) + 1) (by omega) (by omega)]
  refine Ev.bind (sfollow_ev h hs (by omega)) ?_
  simp only [Option.bind_some, List.nil_append]
  refine Ev.pos (by simp; omega) ?_
  have := sworn_loop h hs hhd l.length 0 (by omega)
  rw [wearM_zero (by omega)] at this
  exact this
theorem Small.worn {l : List Int} (h : Small l) {s hd : Int} (hhd : 1 ≤ hd) : Small (wornL l s hd) := by
  have hl : (wornL l s hd).length = l.length := wearM_len l s hd l.length
  have hw := worn_low h.ok.pos h.low (s := s) hhd
  have hlo := h.ok.lo; have hhi := h.ok.hi; have h36 := h.len
  exact ⟨⟨by omega, by omega, fun x hx => by have := low_mem hw x hx; omega⟩, hw, by omega⟩
def wearN (s hd : Int) : Nat → List Int → List Int
  | 0, l => l
  | t + 1, l => wearN s hd t (wornL l s hd)
theorem iwear_loop {s hd b : Int} (hs : 0 ≤ s ∧ s ≤ 10000) (hhd : 1 ≤ hd ∧ hd ≤ 10000) {n : Nat} (hn : n ≤ 100) (m : Nat) : ∀ (i : Nat) (l : List Int), Small l → i + m = n → Ev (fun k => impl_WearCam.l0 k hd l n i b s) (wearN s hd m l, 0) := by
  induction m with
  | zero =>
    intro i l h hi
    refine Ev.succ ?_
    simp only [impl_WearCam.l0]
    exact Ev.neg (by omega) (Ev.now _)
  | succ m ih =>
    intro i l h hi
    refine Ev.succ ?_
    simp only [impl_WearCam.l0]
    refine Ev.pos (by omega) (Ev.bind (worn_ev h hs hhd) ?_)
    rw [wrap64_id (x := (i : Int) + 1) (by omega) (by omega)]
    exact ih (i + 1) _ (h.worn hhd.1) (by omega)
theorem swear_loop {s hd b : Int} (hs : 0 ≤ s ∧ s ≤ 10000) (hhd : 1 ≤ hd ∧ hd ≤ 10000) {n : Nat} (hn : n ≤ 100) (m : Nat) : ∀ (i : Nat) (l : List Int), Small l → i + m = n → Ev (fun k => spec_WearCam.l0 k n hd l i b s) (wearN s hd m l, 0) := by
  induction m with
  | zero =>
    intro i l h hi
    refine Ev.succ ?_
    simp only [spec_WearCam.l0]
    exact Ev.neg (by omega) (Ev.now _)
  | succ m ih =>
    intro i l h hi
    refine Ev.succ ?_
    simp only [spec_WearCam.l0]
    refine Ev.pos (by omega) (Ev.bind (sworn_ev h hs hhd) ?_)
    rw [wrap64_id (x := (i : Int) + 1) (by omega) (by omega)]
    exact ih (i + 1) _ (h.worn hhd.1) (by omega)
theorem wearCode_some {l : List Int} (h : Ok l) {b s t hd : Int} (hf : Fol b s) (ht : 0 ≤ t ∧ t ≤ 100) (hhd : 1 ≤ hd ∧ hd ≤ 10000) : impl_wearCode.f l b s t hd = some 0 := by
  unfold impl_wearCode.f
  rw [camCode_some h hf]
  simp only [Option.bind_some, if_true]
  rw [in2_some, decide_eq_true (by omega)]
  simp only [Option.bind_some, if_true]
  rw [in2_some, decide_eq_true (by omega)]; rfl
theorem WearCam_ev {l : List Int} (h : Small l) {b s hd : Int} (hf : Fol b s) {n : Nat} (hn : n ≤ 100) (hhd : 1 ≤ hd ∧ hd ≤ 10000) : Ev (fun k => impl_WearCam.f k l b s n hd) (wearN s hd n l, 0) := by
  have hlen := h.len
  unfold impl_WearCam.f
  refine Ev.got (wearCode_some h.ok hf (by omega) hhd) (Ev.pos rfl (Ev.got (a := l) (if_pos (by omega)) ?_))
  exact iwear_loop (by omega) hhd hn n 0 l h (by omega)
theorem sWearCam_ev {l : List Int} (h : Small l) {b s hd : Int} (hf : Fol b s) {n : Nat} (hn : n ≤ 100) (hhd : 1 ≤ hd ∧ hd ≤ 10000) : Ev (fun k => spec_WearCam.f k l b s n hd) (wearN s hd n l, 0) := by
  have hlen := h.len
  unfold spec_WearCam.f spec_l03Wearing.f
  rw [in_some, in_some, decide_eq_true (show 0 ≤ (n : Int) ∧ (n : Int) ≤ 100 by omega), decide_eq_true (show 1 ≤ hd ∧ hd ≤ 10000 by omega)]
  simp only [Option.bind_some, if_true, List.nil_append]
  refine Ev.bind (a := 0) (Ev.bind (a := 0) (asked_ev h.ok hf) (Ev.pos rfl (Ev.now _))) (Ev.pos rfl (Ev.pos (by simp; omega) ?_))
  exact swear_loop (by omega) hhd hn n 0 l h (by omega)
theorem isame_loop {a b : List Int} (hab : a.length = b.length) (hl : a.length ≤ 100000) (m : Nat) : ∀ i : Nat, i + m = a.length → Ev (fun k => impl_Cam_int16_142.l0 k a b (a.length : Int) i) (decide (a.drop i = b.drop i)) := by
  induction m with
  | zero =>
    intro i hi
    refine Ev.succ ?_
    simp only [impl_Cam_int16_142.l0]
    rw [List.drop_of_length_le (by omega), List.drop_of_length_le (by omega)]
    exact Ev.neg (by omega) (by simpa using Ev.now true)
  | succ m ih =>
    intro i hi
    have hn := ih (i + 1) (by omega)
    refine Ev.succ ?_
    simp only [impl_Cam_int16_142.l0]
    rw [rd_get a i (by omega), rd_get b i (by omega), wrap64_id (by omega) (by omega), List.drop_eq_getElem_cons (show i < a.length by omega), List.drop_eq_getElem_cons (show i < b.length by omega)]
    refine Ev.pos (by omega) (Ev.pos (by omega) (Ev.pos (by omega) (Ev.pos (by omega) ?_)))
    by_cases he : a[i] = b[i]
    · have e : decide (a[i] :: a.drop (i + 1) = b[i] :: b.drop (i + 1)) = decide (a.drop (i + 1) = b.drop (i + 1)) := by rw [he]; simp only [List.cons.injEq, true_and]
      rw [e]
      exact Ev.pos he hn
    · rw [show decide (a[i] :: a.drop (i + 1) = b[i] :: b.drop (i + 1)) = false from decide_eq_false (fun h => he (List.cons.inj h).1)]
      exact Ev.neg he (Ev.now _)
theorem isame_ev {a b : List Int} (hab : a.length = b.length) (hl : a.length ≤ 100000) : Ev (fun k => impl_Cam_int16_142.f k a b) (decide (a = b)) := by
  unfold impl_Cam_int16_142.f
  exact Ev.pos (by omega) (isame_loop hab hl a.length 0 (by omega))
theorem ssame_loop {a b : List Int} (hab : a.length = b.length) (hl : a.length ≤ 100000) (m : Nat) : ∀ i : Nat, i + m = a.length → Ev (fun k => spec_l01Same.l0 k a b i) (decide (a.drop i = b.drop i)) := by
  induction m with
  | zero =>
    intro i hi
    refine Ev.succ ?_
    simp only [spec_l01Same.l0]
    rw [List.drop_of_length_le (by omega), List.drop_of_length_le (by omega)]
    exact Ev.neg (by omega) (by simpa using Ev.now true)
  | succ m ih =>
    intro i hi
    have hn := ih (i + 1) (by omega)
    refine Ev.succ ?_
    simp only [spec_l01Same.l0]
    rw [rd_get a i (by omega), rd_get b i (by omega), wrap64_id (by omega) (by omega), List.drop_eq_getElem_cons (show i < a.length by omega), List.drop_eq_getElem_cons (show i < b.length by omega)]
    refine Ev.pos (by omega) (Ev.pos (by omega) (Ev.pos (by omega) ?_))
    by_cases he : a[i] = b[i]
    · have e : decide (a[i] :: a.drop (i + 1) = b[i] :: b.drop (i + 1)) = decide (a.drop (i + 1) = b.drop (i + 1)) := by rw [he]; simp only [List.cons.injEq, true_and]
      rw [e]
      exact Ev.pos he hn
    · rw [show decide (a[i] :: a.drop (i + 1) = b[i] :: b.drop (i + 1)) = false from decide_eq_false (fun h => he (List.cons.inj h).1)]
      exact Ev.neg he (Ev.now _)
theorem same_ev {a b : List Int} (hab : a.length = b.length) (hl : a.length ≤ 100000) : Ev (fun k => spec_SameCam.f k a b) (decide (a = b)) := by
  unfold spec_SameCam.f spec_l01Same.f
  exact Ev.bind (Ev.pos (by omega) (ssame_loop hab hl a.length 0 (by omega))) (Ev.now _)
theorem TurnsToWear_ev {l : List Int} (h : Small l) {b s hd : Int} (hf : Fol b s) (hhd : 1 ≤ hd ∧ hd ≤ 10000) : Ev (fun k => impl_TurnsToWear.f k l b s hd 3) (if wornL l s hd = l then (0, 6) else (1, 0)) := by
  have hlen := h.len
  have hw : (wornL l s hd).length = l.length := wearM_len l s hd l.length
  unfold impl_TurnsToWear.f
  refine Ev.got (wearCode_some h.ok hf (by omega) hhd) (Ev.pos rfl (Ev.pos (by omega) (Ev.bind (worn_ev h (by omega) hhd) (Ev.bind (isame_ev hw (by omega)) ?_))))
  by_cases he : wornL l s hd = l
  · rw [if_pos he]; exact Ev.pos (by simpa using he) (Ev.now _)
  · rw [if_neg he]; exact Ev.neg (by simpa using he) (Ev.now _)
theorem wearN_small {s hd : Int} (hhd : 1 ≤ hd) (n : Nat) : ∀ l : List Int, Small l → Small (wearN s hd n l) ∧ (wearN s hd n l).length = l.length ∧ ∀ j : Nat, j < l.length → at_ (wearN s hd n l) j ≤ at_ l j := by
  induction n with
  | zero => intro l h; exact ⟨h, rfl, fun _ _ => Int.le_refl _⟩
  | succ n ih =>
    intro l h
    obtain ⟨h1, h2, h3⟩ := ih (wornL l s hd) (h.worn hhd)
    have hw : (wornL l s hd).length = l.length := wearM_len l s hd l.length
    refine ⟨h1, by simp only [wearN]; omega, fun j hj => ?_⟩
    have a := h3 j (by omega)
    have b := worn_le h.low (s := s) hhd j hj
    simp only [wearN]; omega
theorem wearN_same {s hd : Int} {l : List Int} (h : wornL l s hd = l) (n : Nat) : wearN s hd n l = l := by
  induction n with
  | zero => rfl
  | succ n ih => simp only [wearN]; rw [h]; exact ih
theorem wearN_other {s hd : Int} (hhd : 1 ≤ hd) {l : List Int} (hs : Small l) (h : wornL l s hd ≠ l) (n : Nat) : wearN s hd (n + 1) l ≠ l := by
  intro e
  apply h
  have hw : (wornL l s hd).length = l.length := wearM_len l s hd l.length
  obtain ⟨_, h2, h3⟩ := wearN_small (s := s) hhd n (wornL l s hd) (hs.worn hhd)
  refine eq_of_at hw fun j hj => ?_
  have a := h3 j (by omega)
  have b := worn_le hs.low (s := s) hhd j (by omega)
  have c : at_ (wearN s hd n (wornL l s hd)) j = at_ l j := by simp only [wearN] at e; rw [e]
  omega
end Go.Proofs.Ytpjibhedpieafaa.H
namespace Go.Proofs.Ytpjibhedpieafaa.H
open Go.RowKit Go.Proofs.YtpjibhedpieafaaW.PrintWords Go.Proofs.YtpjibhedpieafaaW.PrintLast Go.Proofs.YtpjibhedpieafaaW.PrintMore Go.Proofs.Ytpjibhedpieafaa.M
theorem Follower_some {code : List Int} (hc : B8 code) (hl : code.length ≤ 140737488351232) : ∃ b s, spec_P6Follower.f code = some (b, s) ∧ (1 ≤ b ∧ b ≤ 100) ∧ (1 ≤ s ∧ s ≤ 6) := by
  unfold spec_P6Follower.f spec_l00From.f
  simp only [Option.bind_some]
  obtain ⟨p, a1, s1, e1, hp0, hp1, _, h3, h4⟩ := pick_some hc hl (a := 0) (s := 0) 100 (by omega) (by omega) (by omega)
  rw [e1]; simp only [Option.bind_some]
  obtain ⟨q, a2, s2, e2, hq0, hq1, _, _, _⟩ := pick_some hc hl (a := a1) (s := s1) 6 (by omega) (by omega) (by omega)
  rw [e2]; simp only [Option.bind_some]
  have := hp1 (by omega)
  have := hq1 (by omega)
  rw [wrap64_id (x := 1 + p) (by omega) (by omega), wrap64_id (x := 1 + q) (by omega) (by omega)]
  exact ⟨_, _, rfl, by omega, by omega⟩
section
variable {a : List Int} {b s : Int}
theorem slopes_l1 (ha : Small a) {m : List Int} (hm : m.length = a.length) (hle : ∀ j : Nat, j < a.length → 0 ≤ at_ m j ∧ at_ m j ≤ at_ a j) {t c : Int} (hend : Ev (fun k => laws_FnSlopes.l1 k a m t c (a.length : Int)) true) (n : Nat) : ∀ i : Nat, i + n = a.length → Ev (fun k => laws_FnSlopes.l1 k a m t c i) true := by
  have hlen := ha.len
  induction n with
  | zero =>
    intro i hi
    obtain rfl : i = a.length := by omega
    exact hend
  | succ n ih =>
    intro i hi
    have hn := ih (i + 1) (by omega)
    have h1 := hle i (by omega)
    refine Ev.succ ?_
    simp only [laws_FnSlopes.l1]
    rw [rd_get a i (by omega), rd_get m i (by omega), ← at_nat, ← at_nat, wrap64_id (by omega) (by omega)]
    exact Ev.pos (by omega) (Ev.pos (by omega) (Ev.pos (by omega) (Ev.neg (by omega) (Ev.neg (by omega) hn))))
theorem slopes_j5 (ha : Small a) (hb : 1 ≤ b ∧ b ≤ 100) (hs : 1 ≤ s ∧ s ≤ 6) : Ev (fun k => laws_FnSlopes.j5 k a b s) true := by
  have hlen := ha.len
  have hsp := spring_bd ha
  have hf : Fol b s := ⟨by omega, by omega⟩
  have e1 : wearN (negMost (bends a)) 1 4 a = a := wearN_same (worn_same ha.ok.pos (spring_all ha)) 4
  obtain ⟨g1, g2, g3⟩ := wearN_small (s := s) (hd := 2) (by omega) 3 a ha
  have hW := WearCam_ev ha (b := 5) (s := negMost (bends a)) (hd := 1) (n := 4) ⟨by omega, by omega⟩ (by omega) (by omega)
  rw [e1] at hW
  have hW2 := WearCam_ev ha (hd := 2) (n := 3) hf (by omega) (by omega)
  have hW3 := sWearCam_ev ha (hd := 2) (n := 3) hf (by omega) (by omega)
  have hT := TurnsToWear_ev ha (hd := 2) hf (by omega)
  have hsame : Ev (fun k => spec_SameCam.f k a a) true := by have := same_ev (a := a) (b := a) rfl (by omega); simpa using this
  have hsame2 : Ev (fun k => spec_SameCam.f k (wearN s 2 3 a) (wearN s 2 3 a)) true := by have := same_ev (a := wearN s 2 3 a) (b := wearN s 2 3 a) rfl (by omega); simpa using this
  have hsame3 := same_ev (a := wearN s 2 3 a) (b := a) g2 (by omega)
  refine Ev.succ ?_
  simp only [laws_FnSlopes.j5]
  refine Ev.bind (LeastSpring_ev ha) (Ev.bind hW (Ev.bind hW2 (Ev.bind hW3 (Ev.bind hT ?_))))
  refine Ev.pos (by trivial) (Ev.pos (by trivial) (Ev.bind hsame (Ev.pos (by trivial) (Ev.pos (by trivial) (Ev.pos (by trivial) (Ev.bind hsame2 (Ev.pos (by trivial) ?_)))))))
  simp only
  refine Ev.succ ?_
  simp only [laws_FnSlopes.j6]
  rw [g2]
  refine Ev.neg (by simp) ?_
  refine slopes_l1 ha g2 (fun j hj => ⟨(g1.low _).1, g3 j hj⟩) ?_ a.length 0 (by omega)
  refine Ev.succ ?_
  simp only [laws_FnSlopes.l1]
  refine Ev.neg (by omega) ?_
  by_cases hw : wornL a s 2 = a
  · rw [if_pos hw]
    have e : wearN s 2 3 a = a := wearN_same hw 3
    rw [e] at hsame3 ⊢
    refine Ev.neg (by simp) (Ev.bind hsame3 (Ev.pos (by simp) (by simpa using Ev.now true)))
  · rw [if_neg hw]
    have e : wearN s 2 3 a ≠ a := wearN_other (by omega) ha hw 2
    rw [decide_eq_false e] at hsame3
    exact Ev.pos (by trivial) (Ev.bind hsame3 (Ev.pos (by simp) (Ev.now true)))
theorem slopes_l0 (ha : Small a) (hf : Fol b s) (hbb : b ≤ 100) {code more : List Int} {R : Bool}
    (hend : Ev (fun k => laws_FnSlopes.l0 k code more a (stF a b a.length).1 (a.length : Int) b s (stF a b a.length).2.1 (stF a b a.length).2.2) R) (n : Nat) : ∀ i : Nat, i + n = a.length →
    Ev (fun k => laws_FnSlopes.l0 k code more a (stF a b a.length).1 i b s (stF a b a.length).2.1 (stF a b a.length).2.2) R := by
  have hlen := ha.len
  have hlo := ha.ok.lo
  have hb : 1 ≤ b ∧ b ≤ 20001 := by omega
  obtain ⟨p, hp⟩ : ∃ p, a.length = p + 1 := ⟨a.length - 1, by omega⟩
  have hst := stF_steep (ha.qp hb) p
  rw [← hp] at hst
  induction n with
  | zero =>
    intro i hi
    obtain rfl : i = a.length := by omega
    exact hend
  | succ n ih =>
    intro i hi
    have hn := ih (i + 1) (by omega)
    have h1 := hst.most i (by omega)
    have hcmp := CompareSlopes_some (Cp.of ha hb i) (stF_cp ha hb a.length)
    refine Ev.succ ?_
    simp only [laws_FnSlopes.l0]
    rw [wrap64_id (x := (i : Int) + 1) (by omega) (by omega)]
    refine Ev.pos (by omega) (Ev.bind (SlopeAt_ev ha hf (by omega)) (Ev.got hcmp (Ev.pos rfl (Ev.pos rfl (Ev.neg (by simp only; omega) ?_)))))
    by_cases hlt : (i : Int) < (stF a b a.length).1
    · have h2 := hst.first i hlt
      exact Ev.pos hlt (Ev.neg (by simp only; omega) (Ev.neg (by omega) hn))
    · refine Ev.neg hlt ?_
      by_cases he : (i : Int) = (stF a b a.length).1
      · refine Ev.pos he (Ev.neg ?_ hn)
        have e := hst.is
        rw [← he] at e
        rw [e]; simp
      · exact Ev.neg he hn
end
theorem FnSlopes_ev {code more : List Int} (hc : B8 code) (hm : B8 more) (hcl : code.length ≤ 4096) (hml : more.length ≤ 4096) : Ev (fun k => laws_FnSlopes.j0 k code more false) true := by
  obtain ⟨a, ea, ho, h60, h36⟩ := P6Cam_some hc (by omega)
  obtain ⟨b, s, ef, hb, hs⟩ := Follower_some hm (by omega)
  obtain ⟨p, ep, hp0, hp1, _⟩ := P6Pick_some hm (by omega) 9 (by omega)
  obtain ⟨q, eq, hq0, hq1, _⟩ := P6Pick_some hc (by omega) 9 (by omega)
  have hp2 := hp1 (by omega)
  have hq2 := hq1 (by omega)
  have ha : Small a := ⟨ho, fun i => h60 _ (at_mem ho.pos i), h36⟩
  have hlo := ho.lo
  have hf : Fol b s := ⟨by omega, by omega⟩
  have hP : 1 ≤ 1 + p ∧ 1 + p ≤ 9 := by omega
  have hQ : 1 ≤ 1 + q ∧ 1 + q ≤ 9 := by omega
  have hcp : Cp (1 + p, 1 + q) := ⟨by simp only; unfold siz; split <;> omega, by simp only; omega⟩
  have hB1 := baseF_ge a (1 + p) (1 + q) a.length
  have hB2 := base_le ha hP hQ a.length
  obtain ⟨n1, hn1⟩ : ∃ n1, a.length = n1 + 1 := ⟨a.length - 1, by omega⟩
  have hj5 := slopes_j5 ha hb hs
  have hj3 : Ev (fun k => laws_FnSlopes.j3 k a 0 (baseF a (1 + p) (1 + q) a.length) false b s (1 + p) (1 + q)) true := by
    have hbb : 1 ≤ baseF a (1 + p) (1 + q) a.length ∧ baseF a (1 + p) (1 + q) a.length ≤ 20001 := by omega
    have hst := stF_steep (ha.qp hbb) n1
    rw [← hn1] at hst
    have hfit := (steep_fit (P := 1 + p) (Q := 1 + q) (by omega) (by omega) hbb.1 (ha.qp hbb) hst).mpr (Int.le_refl _)
    refine Ev.succ ?_
    simp only [laws_FnSlopes.j3]
    refine Ev.neg (by simp) (Ev.pos (by trivial) (Ev.bind (sSteepestSlope_ev ha (s := 1) ⟨by omega, by omega⟩) (Ev.got (CompareSlopes_some (stF_cp ha hbb a.length) hcp) (Ev.pos (by trivial) (Ev.pos (by trivial) ?_)))))
    simp only
    rw [show decide (cmpI (stF a (baseF a (1 + p) (1 + q) a.length) a.length).2 (1 + p, 1 + q) > 0) = false from decide_eq_false (by omega)]
    refine Ev.succ ?_
    simp only [laws_FnSlopes.j4]
    refine Ev.neg (by simp) ?_
    by_cases hgt : baseF a (1 + p) (1 + q) a.length > 1
    · have hb3 : 1 ≤ baseF a (1 + p) (1 + q) a.length - 1 ∧ baseF a (1 + p) (1 + q) a.length - 1 ≤ 20001 := by omega
      have hst3 := stF_steep (ha.qp hb3) n1
      rw [← hn1] at hst3
      have hfit3 := (steep_fit (P := 1 + p) (Q := 1 + q) (by omega) (by omega) hb3.1 (ha.qp hb3) hst3)
      have hno : ¬ cmpI (stF a (baseF a (1 + p) (1 + q) a.length - 1) a.length).2 (1 + p, 1 + q) ≤ 0 := fun h => by have := hfit3.mp h; omega
      refine Ev.pos hgt ?_
      rw [wrap64_id (x := baseF a (1 + p) (1 + q) a.length - 1) (by omega) (by omega)]
      exact Ev.bind (sSteepestSlope_ev ha (s := 1) ⟨by omega, by omega⟩) (Ev.got (CompareSlopes_some (stF_cp ha hb3 a.length) hcp) (Ev.pos (by trivial) (Ev.pos (by trivial) (Ev.neg hno hj5))))
    · exact Ev.neg hgt hj5
  have hend : Ev (fun k => laws_FnSlopes.l0 k code more a (stF a b a.length).1 (a.length : Int) b s (stF a b a.length).2.1 (stF a b a.length).2.2) true := by
    refine Ev.succ ?_
    simp only [laws_FnSlopes.l0]
    refine Ev.neg (by omega) (Ev.got ep (Ev.got eq ?_))
    rw [wrap64_id (x := 1 + p) (by omega) (by omega), wrap64_id (x := 1 + q) (by omega) (by omega)]
    refine Ev.bind (LeastBase_ev ha hP hQ) (Ev.bind (sLeastBase_ev ha hP hQ) (Ev.pos (by trivial) ?_))
    simpa using hj3
  refine Ev.succ ?_
  simp only [laws_FnSlopes.j0]
  refine Ev.neg (by simp) (Ev.bind (a := a) (Ev.of (spec_P6Cam.mono code) ea) (Ev.got ef (Ev.bind (SteepestSlope_ev ha hf) (Ev.bind (sSteepestSlope_ev ha hf) (Ev.pos (by trivial) (Ev.pos (by trivial) (Ev.pos (by trivial) ?_)))))))
  refine Ev.succ ?_
  simp only [laws_FnSlopes.j1]
  refine Ev.neg (by simp) ?_
  exact slopes_l0 ha hf (by omega) hend a.length 0 (by omega)
end Go.Proofs.Ytpjibhedpieafaa.H
namespace Go.Proofs.Ytpjibhedpieafaa.Pure
open Go.RowKit Go.Proofs.Ytpjibhedpieafaa.H Go.Proofs.YtpjibhedpieafaaW.PrintWords
theorem FnSlopes : laws_FnSlopes.Pure := by
  intro l0 l1 _ hl0 hw0 _ hl1 hw1
  have b0 : B8 l0 := fun x hx => by have hz := hw0 x hx; simp [Lit.wf] at hz; exact ⟨hz.1, hz.2⟩
  have b1 : B8 l1 := fun x hx => by have hz := hw1 x hx; simp [Lit.wf] at hz; exact ⟨hz.1, hz.2⟩
  refine Ev.rounds (g := fun k => laws_FnSlopes.f k l0 l1) ?_
  unfold laws_FnSlopes.f laws_f6big.f
  simp only [Option.bind_some]
  have hlong : Ev (fun k => laws_FnSlopes.j0 k l0 l1 true) true := Ev.succ (by simp only [laws_FnSlopes.j0]; exact Ev.pos (by trivial) (Ev.now _))
  by_cases h0 : (l0.length : Int) > 4096
  · exact Ev.pos (by simpa using h0) hlong
  · refine Ev.neg (by simpa using h0) ?_
    by_cases h1 : (l1.length : Int) > 4096
    · rw [show decide ((l1.length : Int) > 4096) = true from decide_eq_true h1]; exact hlong
    · rw [show decide ((l1.length : Int) > 4096) = false from decide_eq_false h1]; exact FnSlopes_ev b0 b1 (by omega) (by omega)
end Go.Proofs.Ytpjibhedpieafaa.Pure
