/- Walks: numbers of all steps, the least one, LeastRate. -/
import Derived.Test.YtpjibhedpieafaaCam1
namespace Go.Proofs.Ytpjibhedpieafaa.H
open Go.RowKit Go.Proofs.YtpjibhedpieafaaW.PrintWords Go.Proofs.YtpjibhedpieafaaW.PrintLast Go.Proofs.YtpjibhedpieafaaW.PrintMore Go.Proofs.Ytpjibhedpieafaa.M
attribute [local go_sem] max2_int min2_int max_two min_two max_three min_three max_four min_four
theorem info_i64 : (Try.prog.info? 2).map (fun i => (i.zero, i.size, i.bytes)) = some (some (.int .i64 0), 1, 8) := by kernel_rfl
theorem mx_max (a b : Int) : mx a b = max a b := by unfold mx; omega
theorem mn_min (a b : Int) : mn a b = min a b := by unfold mn; omega

set_option maxHeartbeats 1000000 in
set_option maxRecDepth 100000 in
/-- numbers: what a function tells of all steps. -/
theorem impl_numbers_c (A : Option Addr) (c : Nat) (n : Nat) (fv : Value) (g : Int → Int) (w : World) (hn : n ≤ 1099511627776)
    (hg : ∀ (i : Nat) (W : World), i < n → Below w.heap.size w W → CallsV Try.prog fv #[.int .i64 i] W fun e W' => e = .returned (.int .i64 (g i)) ∧ Below W.heap.size W W') :
    Calls Try.prog 120 #[.slice A n c, fv] w fun e w' => ∃ v : Value, e = .returned v ∧ Kd.R (Kd.int .i64) 2 w' w.heap.size (fun _ => True) v (mapN n g) ∧ Below w.heap.size w w' := by
  have HG := Aside0.mk hg
  have HB := Aside0.mk (Below.refl w.heap.size w)
  clear hg
  go_enter Try.func120, Try.ntmps120
  go_wp2_with (first | (go_at_call 127; (with_reducible refine (impl_steps_c _ _ _ _).mono ?_); rintro e_ w_ ⟨rfl, ⟨nd, rfl⟩⟩) | ((with_reducible refine gate_dst (N := 7) rfl ?_); refine Kd.R_lit (Kd.int .i64) _ 2 ?hg (N := 7) ?hd (xs := ([] : List _)) (inner := []) (ok := fun _ => True) (okp := fun _ => True) ?hr ?hp (fun _ hk => hk) trivial (Below.refl _ _) (Nat.le_refl _) (by simp) ?_; (case hd => rfl); (case hg => rfl); (case hr => first | (go_simp; done) | (go_simp; rfl)); (case hp => exact (Reps.none _ _)); intro v1 w1 ho1 hb1 hg_ hnew_; clear hg_ hnew_))
  have HO := Aside0.mk (Kd.R_drewN ho1 nd)
  have HB1 := Aside0.mk (pw_below_drewN hb1 nd)
  clear ho1 hb1
  go_loopg [5, 10] n (fun d v5 v10 w' => ∃ i : Nat, v10 = .int .i64 i ∧ Aside0 (i ≤ n) ∧ Aside0 (d = n - i) ∧ Aside0 (Kd.R (Kd.int .i64) 2 w' w.heap.size (fun _ => True) v5 (mapN i g)) ∧ Aside0 (Below w.heap.size w w'))
  case atStart => exact ⟨0, rfl, ⟨by omega⟩, ⟨by omega⟩, HO, HB1⟩
  case round =>
    clear HO HB1
    obtain ⟨i, rfl, h1, h2, HO, HB⟩ := hrel
    by_cases hi : i < n
    · have HI := Aside0.mk hi
      have hb : decide ((i : Int) < n) = true := decide_eq_true (by omega)
      go_wp2_with (first | ((with_reducible refine gate_calleeV (t := 14) rfl ?_); refine goesV_ (some 16) rfl rfl #[.int .i64 (i : Int)] rfl (by simp only [List.map_toArray, List.map_cons, List.map_nil]; rfl) ?_; refine (HG.out i _ HI.out HB.out).mono ?_; rintro e w' ⟨rfl, hb9⟩; refine ⟨_, rfl, ?_⟩; have n0_ := Aside0.mk (Kd.R_below HO.out hb9); have n1_ := Aside0.mk (below_step HB.out hb9); clear HO HB hb9; have HO := n0_; have HB := n1_; clear n0_ n1_) | ((with_reducible refine gate_builtin (b := .append) (xs := #[.tmp 13, .tmp 17]) rfl ?_); at_builtin; refine Kd.R_append (Kd.int .i64) (w0 := w) w.heap.size rfl (.tmp 13) (.tmp 17) 47 2 (.int .i64 0) 8 rfl Try.underlying47 info_i64 rfl (by decide) (by omega) u5 (mapN i g) (g i) [.int .i64 (g i)] (fun _ => True) (fun _ => False) rfl rfl ?aP (fun _ hk => hk.elim) ?aF ?aO ?aB ?aS ?aL ?_; (case aP => exact rfl); (case aB => exact (by repeat (first | (with_reducible first | exact HB.out | apply below_alloc | apply pw_below_drewN | apply below_drew1) | exact HB.out))); (case aF => exact (fun _ _ => trivial)); (case aO => exact (by (with_reducible repeat (first | apply Kd.R_alloc | apply Kd.R_drewN | apply Kd.R_drew)); exact HO.out)); (case aS => exact (below_size (by repeat (first | (with_reducible first | exact HB.out | apply below_alloc | apply pw_below_drewN | apply below_drew1) | exact HB.out)))); (case aL => (have := HI.out; rw [mapN_length]; omega)); intro v2 w2 ho2 hb2 hg_ hat_; clear hg_ hat_))
      rw [← mapN_succ] at ho2
      go_roundg (n - (i + 1))
      case measure => have := h2.out; have := HI.out; omega
      case rel => exact ⟨i + 1, by simp, ⟨by have := HI.out; omega⟩, ⟨rfl⟩, ⟨ho2⟩, ⟨hb2⟩⟩
    · have hge : n ≤ i := by omega
      have hin : i = n := by have := h1.out; omega
      subst hin
      go_wp2
      go_ret
      exact ⟨_, rfl, HO.out, HB.out⟩

set_option maxHeartbeats 1000000 in
set_option maxRecDepth 100000 in
/-- slices.Min of int64s. -/
theorem slices_Min_i64_c0 (A : Option Addr) (c : Nat) (x : Int) (xs : List Int) (n : Nat) (hN : n = (x :: xs).length) (w : World) (hr : Kd.C (Kd.int .i64) w A (x :: xs).length (x :: xs)) (hn : xs.length ≤ 1099511627776) :
    Calls Try.prog 119 #[.slice A n c] w fun e w' => e = .returned (.int .i64 (minL (x :: xs))) ∧ Drawn0 w w' := by
  have HR := Aside0.mk hr
  obtain ⟨ad, e, hx⟩ := Kd.at_int hr 0 (by omega) (by simp)
  cases e
  have e0 : rd (x :: xs) 0 = x := rfl
  rw [e0, show ((0 : Int)).toNat = 0 from rfl, Addr.add_zero'] at hx
  have hn1 : 1 ≤ n := by rw [hN]; simp
  have HN := Aside0.mk hN
  have hn2 : n ≤ 1099511627777 := by rw [hN]; simp; omega
  clear hr hN hn e0
  go_enter Try.func119, Try.ntmps119
  go_wp2
  go_loopg [3, 4] (n - 1) (fun d v3 v4 w' => ∃ j : Nat, v4 = .int .i64 j ∧ v3 = .int .i64 ((xs.take (j - 1)).foldl min x) ∧ Aside0 (1 ≤ j ∧ j ≤ n) ∧ Aside0 (d = n - j) ∧ Aside0 (Drawn0 w w'))
  case atStart => exact ⟨1, rfl, rfl, ⟨by omega⟩, ⟨by omega⟩, ⟨(by first | exact Drawn0.refl _ | exact ⟨⟨_, rfl⟩⟩ | exact ⟨⟨_, World.drewN_drewN _ _ _⟩⟩ | (refine ⟨⟨_, ?_⟩⟩; simp only [World.drewN_drewN]; rfl))⟩⟩
  case round =>
    obtain ⟨j, rfl, rfl, h1, h2, h4⟩ := hrel
    obtain ⟨m, rfl⟩ := h4.out.out
    have hN2 : xs.length + 1 = n := by have := HN.out; simp at this; omega
    have HN2 := Aside0.mk hN2
    by_cases hj : j < n
    · have hi : j - 1 < xs.length := by have := h1.out; omega
      have hb : decide (j < n) = true := decide_eq_true hj
      have HI := Aside0.mk hi
      have HJ := Aside0.mk hj
      obtain ⟨ad2, e2, hx2⟩ := Kd.at_int HR.out (j : Int) (by omega) (by simp; omega)
      cases e2
      have e3 : rd (x :: xs) (j : Int) = xs[j - 1] := by
        rw [rd_get _ j (by simp; omega)]
        obtain ⟨p, rfl⟩ : ∃ p, j = p + 1 := ⟨j - 1, by have := h1.out; omega⟩
        rfl
      obtain ⟨y, hy⟩ : ∃ y, xs[j - 1] = y := ⟨_, rfl⟩
      rw [e3, hy, Int.toNat_natCast] at hx2
      have HY := Aside0.mk hy
      clear e3 hy hN2
      go_wp2
      all_goals
        go_roundg (n - (j + 1))
        case measure => have := h2.out; omega
        case rel => exact ⟨j + 1, by simp, by (rw [show j + 1 - 1 = (j - 1) + 1 by have := h1.out; omega, List.take_succ_eq_append_getElem HI.out, HY.out, List.foldl_append]; simp only [List.foldl_cons, List.foldl_nil]; congr 1; omega), ⟨by have := HJ.out; omega⟩, ⟨rfl⟩, ⟨(by first | exact Drawn0.refl _ | exact ⟨⟨_, rfl⟩⟩ | exact ⟨⟨_, World.drewN_drewN _ _ _⟩⟩ | (refine ⟨⟨_, ?_⟩⟩; simp only [World.drewN_drewN]; rfl))⟩⟩
    · have hge : n ≤ j := by omega
      have E : Aside0 ((xs.take (j - 1)).foldl min x = minL (x :: xs)) := ⟨by rw [List.take_of_length_le (by have := h1.out; omega)]; rfl⟩
      clear hN2
      go_wp2
      go_ret
      exact ⟨ret_int E.out, (by first | exact Drawn0.refl _ | exact ⟨⟨_, rfl⟩⟩ | exact ⟨⟨_, World.drewN_drewN _ _ _⟩⟩ | (refine ⟨⟨_, ?_⟩⟩; simp only [World.drewN_drewN]; rfl))⟩

theorem slices_Min_i64_c (A : Option Addr) (c : Nat) (l : List Int) (w : World) (hne : l ≠ []) (hr : Kd.C (Kd.int .i64) w A l.length l) (hn : l.length ≤ 1099511627776) :
    Calls Try.prog 119 #[.slice A l.length c] w fun e w' => e = .returned (.int .i64 (minL l)) ∧ Drawn0 w w' := by
  cases l with
  | nil => exact absurd rfl hne
  | cons x xs => exact slices_Min_i64_c0 A c x xs _ rfl w hr (by simp at hn; omega)

/-- A row that reads as numbers, laid open. -/
theorem R_open {k : IntKind} {e base : Nat} {w : World} {v : Value} {l : List Int} {ok : Nat → Prop} (h : Kd.R (Kd.int k) e w base ok v l) : ∃ A c, v = .slice A l.length c ∧ l.length ≤ c ∧ Kd.C (Kd.int k) w A l.length l := Kd.R_reads h

theorem R_cam {e base : Nat} {w : World} {v : Value} {l : List Int} {ok : Nat → Prop} (h : Kd.R (Kd.int .i16) e w base ok v l) (hk : Ok l) : ∃ A c, v = .slice A l.length c ∧ CamR w A c l := by
  obtain ⟨A, c, e, h1, h2⟩ := R_open h
  exact ⟨A, c, e, h2, h1, hk⟩
/-- A slice that reads as int64s. -/
structure NumR (w : World) (A : Option Addr) (c : Nat) (l : List Int) : Prop where
  rd : Kd.C (Kd.int .i64) w A l.length l
  cap : l.length ≤ c
theorem NumR.mv {w W : World} {A : Option Addr} {c : Nat} {l : List Int} (h : NumR w A c l) (hb : Below w.heap.size w W) : NumR W A c l := ⟨Kd.C_below h.rd hb, h.cap⟩
theorem NumR.drewN {w : World} {A : Option Addr} {c : Nat} {l : List Int} (h : NumR w A c l) (n : Nat) : NumR (w.drewN n) A c l := ⟨Kd.C_drewN h.rd n, h.cap⟩
theorem NumR.alloc {w : World} {A : Option Addr} {c : Nat} {l : List Int} (h : NumR w A c l) (o : Obj) : NumR (w.alloc o) A c l := h.mv (below_alloc (Below.refl _ _) o)
theorem R_num {e base : Nat} {w : World} {v : Value} {l : List Int} {ok : Nat → Prop} (h : Kd.R (Kd.int .i64) e w base ok v l) : ∃ A c, v = .slice A l.length c ∧ NumR w A c l := by
  obtain ⟨A, c, e, h1, h2⟩ := R_open h
  exact ⟨A, c, e, h2, h1⟩
theorem change_bd {l : List Int} (h : Ok l) (i : Int) : -10000 ≤ changeAt l i ∧ changeAt l i ≤ 10000 := by
  have h1 := h.lift _ (at_mem h.pos i)
  have h2 := h.lift _ (at_mem h.pos (i + 1))
  unfold changeAt; omega
theorem changes_cons {l : List Int} (h : Ok l) : ∃ x xs, changes l = x :: xs ∧ xs.length ≤ 360 := by
  have h1 : (changes l).length = l.length := by simp [changes, mapN_length]
  have := h.lo; have := h.hi
  match e : changes l with
  | [] => rw [e] at h1; simp at h1; omega
  | x :: xs => rw [e] at h1; simp at h1; exact ⟨x, xs, rfl, by omega⟩

set_option maxHeartbeats 1000000 in
set_option maxRecDepth 100000 in
theorem impl_LeastRate_ok (A : Option Addr) (c : Nat) (l : List Int) (w : World) (hr : CamR w A c l) :
    Calls Try.prog 22 #[.slice A l.length c] w fun e w' => e = .returned (.tuple #[.int .i64 (negMost (changes l)), .int .i64 0]) ∧ Below w.heap.size w w' := by
  have HR := Aside0.mk hr
  have hne : changes l ≠ [] := by obtain ⟨x, xs, hx, hxs⟩ := changes_cons hr.ok; rw [hx]; simp
  have hm := negMost_min hne
  have hb : -10000 ≤ minL (changes l) ∧ minL (changes l) ≤ 10000 := by
    have := minL_mem hne
    obtain ⟨i, hi, e⟩ := mem_mapN.mp this
    rw [← e]; exact change_bd hr.ok _
  have HM := Aside0.mk hm
  have HX := Aside0.mk hne
  clear hr hne hm
  go_enter Try.func22, Try.ntmps22
  go_wp2_with (first | (go_at_call 118; (with_reducible refine (impl_ValidCam_ok _ _ l _ (by repeat (first | exact HR.out | (with_reducible refine CamR.drewN ?_ _) | (with_reducible refine CamR.alloc ?_ _)))).mono ?_); rintro e_ w_ ⟨rfl, ⟨nd, rfl⟩⟩)
                        | (go_at_call 120; (with_reducible refine (impl_numbers_c _ _ l.length _ (changeAt l) _ (by have := HR.out.ok.hi; omega) (fun i W hi hb => CallsV.of Try.func121 rfl rfl rfl ((impl_change_c A c l i W (CamR.mv (by repeat (first | exact HR.out | (with_reducible refine CamR.drewN ?_ _) | (with_reducible refine CamR.alloc ?_ _))) hb) (by have := HR.out.ok.hi; omega)).mono (fun e w' h => ⟨h.1, h.2.below⟩)))).mono ?_); rintro e_ w_ ⟨v, rfl, ho, hb⟩; (obtain ⟨A2, c2, rfl, hc2, hC2⟩ := R_open (show Kd.R (Kd.int .i64) _ _ _ _ v (changes l) from ho)))
                        | (go_at_call 119; (with_reducible refine (slices_Min_i64_c _ _ (changes l) _ HX.out hC2 (by have := HR.out.ok.hi; rw [show (changes l).length = l.length by simp [changes, mapN_length]]; omega)).mono ?_); rintro e_ w_ ⟨rfl, ⟨nd, rfl⟩⟩))
  all_goals go_ret2
  all_goals exact ⟨ret_int2 (by have := HM.out; omega), pw_below_drewN (below_step (by repeat (first | (with_reducible first | exact (Below.refl w.heap.size w) | apply below_alloc | apply pw_below_drewN | apply below_drew1) | exact (Below.refl w.heap.size w))) hb) _⟩
end Go.Proofs.Ytpjibhedpieafaa.H
