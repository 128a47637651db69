/- What is drawn from bytes: a cam is valid with lifts of at most 60; a pick lies in its bounds. -/
import Derived.Test.YtpjibhedpieafaaNum
import Derived.Test.YtpjibhedpieafaaGen
namespace Go.Proofs.Ytpjibhedpieafaa.H
open Go.RowKit Go.Proofs.YtpjibhedpieafaaW.PrintWords Go.Proofs.YtpjibhedpieafaaW.PrintLast Go.Proofs.YtpjibhedpieafaaW.PrintMore Go.Proofs.Ytpjibhedpieafaa.M
abbrev B8 (l : List Int) : Prop := ∀ x ∈ l, 0 ≤ x ∧ x ≤ 255
theorem rd_mem {l : List Int} {i : Int} (h0 : 0 ≤ i) (h1 : i < l.length) : rd l i ∈ l := by
  have h : i.toNat < l.length := by omega
  unfold rd; rw [List.getD_eq_getElem?_getD, List.getElem?_eq_getElem h]; exact List.getElem_mem _
theorem u64_bd (x : Int) : 0 ≤ IntKind.u64.wrap x ∧ IntKind.u64.wrap x < 18446744073709551616 := by
  unfold IntKind.wrap; simp only [IntKind.bits, IntKind.signed, Bool.false_and, if_false, show (2 : Int) ^ 64 = 18446744073709551616 from rfl]
  simp only [Bool.false_eq_true, if_false]
  omega
theorem u64_wraps (n : Int) (h₀ : 0 ≤ n) (h₁ : n < 2 ^ 64) : IntKind.u64.wrap n = n := by
  unfold IntKind.wrap; simp only [IntKind.bits, IntKind.signed, Bool.false_and, Bool.false_eq_true, if_false]
  exact Int.emod_eq_of_lt h₀ h₁
theorem u64_and255 {x : Int} (h0 : 0 ≤ x) (h1 : x < 18446744073709551616) : Go.bits .and .u64 x 255 = x % 256 := bits_mask .u64 64 (by decide) u64_wraps 8 (by decide) x h0 (by simpa using h1)
/-- The next number. -/
theorem next_some {code : List Int} (hc : B8 code) (hl : code.length ≤ 140737488351232) {a s : Int} (h0 : 0 ≤ a) (h1 : a ≤ 1099511627776) : ∃ r s', spec_l00Src_next.f code a s = some (r, a + 1, s') ∧ 0 ≤ r ∧ r ≤ 255 := by
  have hw : wrap64 (a + 1) = a + 1 := wrap64_id (by omega) (by omega)
  have tail : ∀ X : Int, 0 ≤ wrap64 (Go.bits .and .u64 (IntKind.u64.wrap X / 1099511627776) 255) ∧ wrap64 (Go.bits .and .u64 (IntKind.u64.wrap X / 1099511627776) 255) ≤ 255 := by
    intro X
    have := u64_bd X
    rw [u64_and255 (by omega) (by omega), wrap64_id (by omega) (by omega)]
    omega
  unfold spec_l00Src_next.f
  rw [hw]
  by_cases h : a < (code.length : Int)
  · rw [if_pos h, if_pos h0]
    have hb := hc _ (rd_mem h0 h)
    rw [if_pos (by omega)]
    exact ⟨_, _, rfl, by rw [wrap64_id (by omega) (by omega)]; exact hb.1, by rw [wrap64_id (by omega) (by omega)]; exact hb.2⟩
  · rw [if_neg h, if_neg (by omega)]
    exact ⟨_, _, rfl, (tail _).1, (tail _).2⟩
/-- A pick. -/
theorem pick_some {code : List Int} (hc : B8 code) (hl : code.length ≤ 140737488351232) {a s : Int} (n : Int) (h0 : 0 ≤ a) (h1 : a ≤ 1099511627000) (hn : n ≤ 9000000000000) : ∃ r a' s', spec_l00Src_pick.f code a s n = some (r, a', s') ∧ 0 ≤ r ∧ (0 < n → r < n) ∧ (n ≤ 0 → r = 0) ∧ a ≤ a' ∧ a' ≤ a + 2 := by
  unfold spec_l00Src_pick.f
  by_cases h : n ≤ 1
  · rw [if_pos h]; exact ⟨0, a, s, rfl, by omega, by omega, by omega, by omega, by omega⟩
  · rw [if_neg h]
    obtain ⟨r, s', e, hr0, hr1⟩ := next_some hc hl (s := s) h0 (by omega)
    rw [e]; simp only [Option.bind_some]
    by_cases h2 : n > 200
    · rw [if_pos h2]
      obtain ⟨r2, s2, e2, hr20, hr21⟩ := next_some hc hl (a := a + 1) (s := s') (by omega) (by omega)
      rw [e2]; simp only [Option.bind_some]; rw [if_neg (by omega)]
      refine ⟨_, _, _, rfl, ?_, ?_, by omega, by omega, by omega⟩
      · rw [wrap64_id (x := r * 256) (by omega) (by omega), wrap64_id (by omega) (by omega)]; exact Int.tmod_nonneg _ (by omega)
      · intro _; exact Int.tmod_lt_of_pos _ (by omega)
    · rw [if_neg h2, if_neg (by omega)]
      exact ⟨_, _, _, rfl, Int.tmod_nonneg _ hr0, fun _ => Int.tmod_lt_of_pos _ (by omega), by omega, by omega, by omega⟩

/-- Lifts of at most 60. -/
abbrev L60 (l : List Int) : Prop := ∀ x ∈ l, 0 ≤ x ∧ x ≤ 60
theorem one_some {code : List Int} (hc : B8 code) (hl : code.length ≤ 140737488351232) {a s : Int} (h0 : 0 ≤ a) (h1 : a ≤ 1099511627000) : ∃ b a' s', spec_l00Src_one.f code a s 8 = some (b, a', s') ∧ a ≤ a' ∧ a' ≤ a + 2 := by
  unfold spec_l00Src_one.f
  obtain ⟨r, a', s', e, _, _, _, h3, h4⟩ := pick_some hc hl (s := s) 8 h0 h1 (by omega)
  rw [e]; exact ⟨_, _, _, rfl, h3, h4⟩

/-- What a cam that is drawn is like. -/
structure Drw (n : Int) (l : List Int) : Prop where
  len : (l.length : Int) = n
  lift : L60 l

theorem drawn_end {code : List Int} (hc : B8 code) (hl : code.length ≤ 140737488351232) {n : Int} (hn : n ∈ [8, 9, 12, 16, 24, 36]) {out : List Int} (ho : (out.length : Int) = n) (h60 : L60 out) {lift a s : Int} (h0 : 0 ≤ a) (h1 : a ≤ 1099511627000) (k : Nat) :
    ∃ r a' s', spec_l01Drawn.l0 (k + 1) n out lift code a s = some (r, a', s') ∧ Drw n r ∧ a ≤ a' ∧ a' ≤ a + 2 := by
  have hn' : 8 ≤ n ∧ n ≤ 36 := by simp at hn; omega
  obtain ⟨b, a', s', e, h3, h4⟩ := one_some hc hl (s := s) h0 h1
  simp only [spec_l01Drawn.l0]
  rw [if_neg (by omega), e]; simp only [Option.bind_some]
  have ht : Int.tdiv n 2 = n / 2 := Int.tdiv_eq_ediv_of_nonneg (by omega)
  have ht2 : Int.tmod n 2 = n % 2 := Int.tmod_eq_emod_of_nonneg (by omega)
  rw [ht, ht2, wrap64_id (x := n / 2) (by omega) (by omega)]
  cases b with
  | false => exact ⟨out, a', s', by simp, ⟨ho, h60⟩, h3, h4⟩
  | true =>
    simp only [if_true]
    rw [if_pos (by omega), if_pos (by omega)]
    by_cases hp : n % 2 = 0
    · rw [if_pos hp]
      have hlen : (out.take (n / 2).toNat).length = (n / 2).toNat := by rw [List.length_take]; omega
      rw [if_pos (by simp; omega), if_pos (by simp; omega)]
      refine ⟨_, _, _, rfl, ⟨?_, ?_⟩, h3, h4⟩
      · simp; omega
      · intro x hx
        simp at hx
        exact h60 x (List.mem_of_mem_take hx)
    · rw [if_neg hp]; exact ⟨out, a', s', rfl, ⟨ho, h60⟩, h3, h4⟩

/-- The loops: fuel enough, a cam comes out. -/
theorem drawn_loop {code : List Int} (hc : B8 code) (hl : code.length ≤ 140737488351232) {n : Int} (hn : n ∈ [8, 9, 12, 16, 24, 36]) (m : Nat) :
    (∀ (k : Nat) (out : List Int) (lift a s : Int), k ≤ m → n - out.length ≤ 36 → (out.length : Int) ≤ n → 20 * (n - out.length) + 2 ≤ k → L60 out → 0 ≤ lift → lift ≤ 60 → 0 ≤ a → a ≤ 1000000000 + 4 * out.length → ∃ r a' s', spec_l01Drawn.l0 k n out lift code a s = some (r, a', s') ∧ Drw n r ∧ a ≤ a' ∧ a' ≤ 1000000002 + 4 * n) ∧
    (∀ (k : Nat) (out : List Int) (lift by_ x7 a s : Int), k ≤ m → n - out.length ≤ 36 → (out.length : Int) ≤ n → (20 * (n - out.length) + 4 ≤ k ∨ (0 < x7 ∧ (out.length : Int) < n ∧ 20 * (n - out.length) + 1 ≤ k)) → L60 out → 0 ≤ lift → lift ≤ 60 → -10 ≤ by_ → by_ ≤ 10 → 0 ≤ x7 → x7 ≤ 10 → 0 ≤ a → (a ≤ 1000000000 + 4 * out.length ∨ (0 < x7 ∧ (out.length : Int) < n ∧ a ≤ 1000000004 + 4 * out.length)) → ∃ r a' s', spec_l01Drawn.l1 k n out lift by_ x7 code a s = some (r, a', s') ∧ Drw n r ∧ a ≤ a' ∧ a' ≤ 1000000002 + 4 * n) := by
  have hn' : 8 ≤ n ∧ n ≤ 36 := by simp at hn; omega
  induction m with
  | zero => exact ⟨fun k out lift a s hk _ _ hf => by omega, fun k out lift by_ x7 a s hk _ _ hf => by omega⟩
  | succ m ih =>
    obtain ⟨ih0, ih1⟩ := ih
    refine ⟨?_, ?_⟩
    · intro k out lift a s hk h36 hle hf h60 hl0 hl1 ha0 ha1
      obtain ⟨k, rfl⟩ : ∃ p, k = p + 1 := ⟨k - 1, by omega⟩
      by_cases hlt : (out.length : Int) < n
      · simp only [spec_l01Drawn.l0]
        rw [if_pos hlt]
        obtain ⟨p, a1, s1, e1, hp0, hp1, _, h3, h4⟩ := pick_some hc hl (s := s) 7 ha0 (by omega) (by omega)
        rw [e1]; simp only [Option.bind_some]
        obtain ⟨q, a2, s2, e2, hq0, hq1, _, h5, h6⟩ := pick_some hc hl (a := a1) (s := s1) 5 (by omega) (by omega) (by omega)
        rw [e2]; simp only [Option.bind_some]
        have := hp1 (by omega)
        have := hq1 (by omega)
        rw [wrap64_id (x := p - 3) (by omega) (by omega), wrap64_id (x := 1 + q) (by omega) (by omega)]
        obtain ⟨r, a', s', e, hd, h7, h8⟩ := ih1 k out lift (p - 3) (1 + q) a2 s2 (by omega) h36 hle (.inr ⟨by omega, hlt, by omega⟩) h60 hl0 hl1 (by omega) (by omega) (by omega) (by omega) (by omega) (.inr ⟨by omega, hlt, by omega⟩)
        exact ⟨r, a', s', e, hd, by omega, h8⟩
      · obtain ⟨r, a', s', e, hd, h3, h4⟩ := drawn_end hc hl hn (out := out) (by omega) h60 (lift := lift) (s := s) ha0 (by omega) k
        exact ⟨r, a', s', e, hd, h3, by omega⟩
    · intro k out lift by_ x7 a s hk h36 hle hf h60 hl0 hl1 hb0 hb1 hx0 hx1 ha0 ha1
      obtain ⟨k, rfl⟩ : ∃ p, k = p + 2 := ⟨k - 2, by omega⟩
      simp only [spec_l01Drawn.l1]
      by_cases hgo : 0 < x7 ∧ (out.length : Int) < n
      · rw [if_pos (by omega)]
        simp only [spec_l01Drawn.j2]
        rw [if_pos (by simpa using hgo.2)]
        have em : ∀ x y : Int, spec_l00Min.f x y = some (if x < y then x else y) := by intro x y; unfold spec_l00Min.f; split <;> rfl
        have ex : ∀ x y : Int, spec_l00Max.f x y = some (if x > y then x else y) := by intro x y; unfold spec_l00Max.f; split <;> rfl
        rw [em]; simp only [Option.bind_some]; rw [ex]; try simp only [Option.bind_some]
        rw [if_pos (by omega), wrap64_id (x := lift + by_) (by omega) (by omega), wrap64_id (x := x7 - 1) (by omega) (by omega)]
        obtain ⟨z, hz⟩ : ∃ z, (if (0 : Int) > (if 60 < lift + by_ then 60 else lift + by_) then 0 else (if 60 < lift + by_ then 60 else lift + by_)) = z := ⟨_, rfl⟩
        rw [hz]
        have hz2 : 0 ≤ z ∧ z ≤ 60 := by rw [← hz]; split <;> split <;> omega
        rw [i16_id (by omega) (by omega)]
        obtain ⟨r, a', s', e, hd, h7, h8⟩ := ih1 k (out ++ [z]) z by_ (x7 - 1) a s (by omega) (by simp; omega) (by simp; omega) (.inl (by simp; omega)) (by intro x hx; rcases List.mem_append.mp hx with h | h; exact h60 x h; rw [List.mem_singleton.mp h]; exact hz2) hz2.1 hz2.2 hb0 hb1 (by omega) (by omega) ha0 (.inl (by simp; omega))
        exact ⟨r, a', s', e, hd, h7, h8⟩
      · have hstep : ∀ b : Bool, b = false → spec_l01Drawn.j2 (k + 1) n out lift by_ x7 b code a s = spec_l01Drawn.l0 k n out lift code a s := by intro b hb; simp only [spec_l01Drawn.j2]; rw [hb]; simp
        have h20 : 20 * (n - out.length) + 4 ≤ ((k + 2 : Nat) : Int) := by rcases hf with h | h; exact h; omega
        have ha2 : a ≤ 1000000000 + 4 * out.length := by rcases ha1 with h | h; exact h; omega
        obtain ⟨r, a', s', e, hd, h7, h8⟩ := ih0 k out lift a s (by omega) h36 hle (by omega) h60 hl0 hl1 ha0 ha2
        refine ⟨r, a', s', ?_, hd, h7, h8⟩
        split
        · rw [hstep _ (by simp; omega)]; exact e
        · rw [hstep _ rfl]; exact e

theorem drawn_some {code : List Int} (hc : B8 code) (hl : code.length ≤ 140737488351232) {a s : Int} (h0 : 0 ≤ a) (h1 : a ≤ 900000000) : ∃ r a' s', spec_l01Drawn.f 1000 code a s = some (r, a', s') ∧ (8 ≤ r.length ∧ r.length ≤ 36) ∧ L60 r ∧ a ≤ a' ∧ a' ≤ 1000000200 := by
  unfold spec_l01Drawn.f spec_l00Src_among.f
  obtain ⟨p, a1, s1, e1, hp0, hp1, _, h3, h4⟩ := pick_some hc hl (s := s) 6 h0 (by omega) (by omega)
  have := hp1 (by omega)
  simp only [List.length_cons, List.length_nil]
  simp only [show ((0 + 1 + 1 + 1 + 1 + 1 + 1 : Nat) : Int) = 6 from rfl]
  rw [e1]; simp only [Option.bind_some]; rw [if_pos hp0, if_pos (by omega)]; try simp only [Option.bind_some]
  obtain ⟨q, a2, s2, e2, hq0, hq1, _, h5, h6⟩ := pick_some hc hl (a := a1) (s := s1) 20 (by omega) (by omega) (by omega)
  have := hq1 (by omega)
  rw [e2]; simp only [Option.bind_some]
  have hm : rd [8, 9, 12, 16, 24, 36] p ∈ ([8, 9, 12, 16, 24, 36] : List Int) := rd_mem hp0 (by simp; omega)
  generalize rd [8, 9, 12, 16, 24, 36] p = n at hm
  have hn' : 8 ≤ n ∧ n ≤ 36 := by simp at hm; omega
  obtain ⟨r, a', s', e, hd, h7, h8⟩ := (drawn_loop hc hl hm 1000).1 1000 [] q a2 s2 (by omega) (by simp; omega) (by simp; omega) (by simp; omega) (fun x hx => by cases hx) (by omega) (by omega) (by omega) (by simp; omega)
  have := hd.len
  exact ⟨r, a', s', e, ⟨by omega, by omega⟩, hd.lift, by omega, by omega⟩
theorem P6Cam_some {code : List Int} (hc : B8 code) (hl : code.length ≤ 140737488351232) : ∃ r, spec_P6Cam.f 1000 code = some r ∧ Ok r ∧ L60 r ∧ r.length ≤ 36 := by
  unfold spec_P6Cam.f spec_l00From.f
  simp only [Option.bind_some]
  obtain ⟨r, a', s', e, h1, h2, _, _⟩ := drawn_some hc hl (a := 0) (s := 0) (by omega) (by omega)
  rw [e]
  exact ⟨r, rfl, ⟨h1.1, by omega, fun x hx => by have := h2 x hx; omega⟩, h2, h1.2⟩
theorem P6Pick_some {code : List Int} (hc : B8 code) (hl : code.length ≤ 140737488351232) (n : Int) (hn : n ≤ 9000000000000) : ∃ r, spec_P6Pick.f code n = some r ∧ 0 ≤ r ∧ (0 < n → r < n) ∧ (n ≤ 0 → r = 0) := by
  unfold spec_P6Pick.f spec_l00From.f
  simp only [Option.bind_some]
  obtain ⟨r, a', s', e, h1, h2, h3, _⟩ := pick_some hc hl (a := 0) (s := 0) n (by omega) (by omega) hn
  rw [e]
  exact ⟨r, rfl, h1, h2, h3⟩
/-- A slice that reads as bytes. -/
structure BytR (w : World) (A : Option Addr) (c : Nat) (l : List Int) : Prop where
  rd : Kd.C (Kd.int .u8) w A l.length l
  cap : l.length ≤ c
  b8 : B8 l
  len : l.length ≤ 140737488351232
theorem BytR.mv {w W : World} {A : Option Addr} {c : Nat} {l : List Int} (h : BytR w A c l) (hb : Below w.heap.size w W) : BytR W A c l := ⟨Kd.C_below h.rd hb, h.cap, h.b8, h.len⟩
theorem BytR.drewN {w : World} {A : Option Addr} {c : Nat} {l : List Int} (h : BytR w A c l) (n : Nat) : BytR (w.drewN n) A c l := ⟨Kd.C_drewN h.rd n, h.cap, h.b8, h.len⟩
theorem BytR.alloc {w : World} {A : Option Addr} {c : Nat} {l : List Int} (h : BytR w A c l) (o : Obj) : BytR (w.alloc o) A c l := h.mv (below_alloc (Below.refl _ _) o)

theorem spec_P6Cam_c (A : Option Addr) (c : Nat) (code : List Int) (w : World) (hr : BytR w A c code) :
    Calls Try.prog 21 #[.slice A code.length c] w fun e w' => ∃ (A2 : Option Addr) (c2 : Nat) (l : List Int), e = .returned (.slice A2 l.length c2) ∧ CamR w' A2 c2 l ∧ L60 l ∧ l.length ≤ 36 ∧ Below w.heap.size w w' := by
  obtain ⟨r, h, hk, h60, h36⟩ := P6Cam_some hr.b8 hr.len
  refine (spec_P6Cam.calls 1000 A c code r w hr.rd hr.cap h).mono ?_
  rintro e w' ⟨v, rfl, ho, hb⟩
  obtain ⟨A2, c2, rfl, hR⟩ := R_cam ho hk
  exact ⟨A2, c2, r, rfl, hR, h60, h36, hb⟩
theorem spec_P6Pick_c (A : Option Addr) (c : Nat) (code : List Int) (n : Int) (w : World) (hr : BytR w A c code) (hn : n ≤ 9000000000000) :
    Calls Try.prog 26 #[.slice A code.length c, .int .i64 n] w fun e w' => ∃ r : Int, e = .returned (.int .i64 r) ∧ 0 ≤ r ∧ (0 < n → r < n) ∧ (n ≤ 0 → r = 0) ∧ Below w.heap.size w w' := by
  obtain ⟨r, h, h1, h2, h3⟩ := P6Pick_some hr.b8 hr.len n hn
  refine (spec_P6Pick.calls A c code n r w hr.rd hr.cap h).mono ?_
  rintro e w' ⟨rfl, hb⟩
  exact ⟨r, rfl, h1, h2, h3, hb⟩
end Go.Proofs.Ytpjibhedpieafaa.H
