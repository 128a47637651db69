/- Walks: feet. -/
import Derived.Test.YtpjibhedpieafaaNum
namespace Go.Proofs.Ytpjibhedpieafaa.H
open Go.RowKit Go.Proofs.YtpjibhedpieafaaW.PrintWords Go.Proofs.YtpjibhedpieafaaW.PrintLast Go.Proofs.YtpjibhedpieafaaW.PrintMore Go.Proofs.Ytpjibhedpieafaa.M
attribute [local go_sem] max2_int min2_int max_two min_two max_three min_three max_four min_four

theorem impl_greater_c (x y : Int) (w : World) : Calls Try.prog 136 #[.int .i64 x, .int .i64 y] w fun e w' => e = .returned (.int .i64 (op2 true x y)) ∧ Drawn0 w w' := by
  go_enter Try.func136, Try.ntmps136
  go_wp2
  all_goals go_ret
  all_goals exact ⟨ret_int (by simp [op2]; omega), (by first | exact Drawn0.refl _ | exact ⟨⟨_, rfl⟩⟩ | exact ⟨⟨_, World.drewN_drewN _ _ _⟩⟩ | (refine ⟨⟨_, ?_⟩⟩; simp only [World.drewN_drewN]; rfl))⟩
theorem impl_lesser_c (x y : Int) (w : World) : Calls Try.prog 222 #[.int .i64 x, .int .i64 y] w fun e w' => e = .returned (.int .i64 (op2 false x y)) ∧ Drawn0 w w' := by
  go_enter Try.func222, Try.ntmps222
  go_wp2
  all_goals go_ret
  all_goals exact ⟨ret_int (by simp [op2]; omega), (by first | exact Drawn0.refl _ | exact ⟨⟨_, rfl⟩⟩ | exact ⟨⟨_, World.drewN_drewN _ _ _⟩⟩ | (refine ⟨⟨_, ?_⟩⟩; simp only [World.drewN_drewN]; rfl))⟩

set_option maxHeartbeats 1000000 in
set_option maxRecDepth 100000 in
theorem impl_beside1_true (bc bf bo : Nat) (A : Option Addr) (c : Nat) (l : List Int) (f : Int) (i : Int) (w : World) (hc : w.cell? ⟨bc, 0, none⟩ = some (.slice A l.length c)) (hf : w.cell? ⟨bf, 0, none⟩ = some (.int .i64 f)) (ho : w.cell? ⟨bo, 0, none⟩ = some (.func (.func 136) #[] #[])) (hr : CamR w A c l) (h1' : 0 ≤ f ∧ f ≤ 100) (hi : 0 ≤ i ∧ i ≤ 1000) :
    Calls Try.prog 221 #[.int .i64 i, .pointer (some ⟨bc, 0, none⟩), .pointer (some ⟨bf, 0, none⟩), .pointer (some ⟨bo, 0, none⟩)] w fun e w' => e = .returned (.int .i64 (footAt true l f i)) ∧ Drawn0 w w' := by
  have HR := Aside0.mk hr
  clear hr
  go_enter Try.func221, Try.ntmps221
  go_wp2_with (first | (go_at_call 129; (with_reducible refine (impl_at_c _ _ l _ _ (by repeat (first | exact HR.out | (with_reducible refine CamR.drewN ?_ _) | (with_reducible refine CamR.alloc ?_ _))) (by omega)).mono ?_); rintro e_ w_ ⟨rfl, ⟨nd, rfl⟩⟩))
  go_loopg [6, 7] (2 * f + 1).toNat (fun d v6 v7 w' => ∃ j : Nat, v7 = .int .i64 (j - f) ∧ v6 = .int .i64 (footU true l f i j) ∧ Aside0 ((j : Int) ≤ 2 * f + 1) ∧ Aside0 ((d : Int) = 2 * f + 1 - j) ∧ Aside0 (Drawn0 w w'))
  case atStart => exact ⟨0, by simp, rfl, ⟨by omega⟩, ⟨by omega⟩, ⟨(by first | exact Drawn0.refl _ | exact ⟨⟨_, rfl⟩⟩ | exact ⟨⟨_, World.drewN_drewN _ _ _⟩⟩ | (refine ⟨⟨_, ?_⟩⟩; simp only [World.drewN_drewN]; rfl))⟩⟩
  case round =>
    obtain ⟨j, rfl, rfl, h1, h2, h4⟩ := hrel
    obtain ⟨n, rfl⟩ := h4.out.out
    obtain ⟨k, hk⟩ : ∃ k, (j : Int) - f = k := ⟨_, rfl⟩
    rw [hk]
    have b1 := HR.out.ok.lift _ (footU_mem true HR.out.ok.pos f i j)
    have b2 := HR.out.ok.lift _ (at_mem HR.out.ok.pos (i + k))
    have HK := Aside0.mk hk
    have hkb : k ≤ f + 1 := by have := h1.out; omega
    have hkb2 : -f ≤ k := by omega
    clear hk
    by_cases hj : k ≤ f
    · have hb : decide (k ≤ f) = true := decide_eq_true hj
      have HJ := Aside0.mk hj
      go_wp2
      repeat (go_quiet (first | (go_at_call 129; (with_reducible refine (impl_at_c _ _ l _ _ (by repeat (first | exact HR.out | (with_reducible refine CamR.drewN ?_ _) | (with_reducible refine CamR.alloc ?_ _))) (by omega)).mono ?_); rintro e_ w_ ⟨rfl, ⟨nd, rfl⟩⟩; (first | exact ⟨rfl, _, rfl⟩ | exact ⟨rfl, _, World.drewN_drewN _ _ _⟩ | exact ⟨rfl, _, Eq.trans (World.drewN_drewN _ _ _) (congrArg (World.drewN _) (Nat.add_assoc _ _ _))⟩)) | (go_at_call 136; (with_reducible refine (impl_greater_c _ _ _).mono ?_); rintro e_ w_ ⟨rfl, ⟨nd, rfl⟩⟩; (first | exact ⟨rfl, _, rfl⟩ | exact ⟨rfl, _, World.drewN_drewN _ _ _⟩ | exact ⟨rfl, _, Eq.trans (World.drewN_drewN _ _ _) (congrArg (World.drewN _) (Nat.add_assoc _ _ _))⟩)) | (go_at_call 222; (with_reducible refine (impl_lesser_c _ _ _).mono ?_); rintro e_ w_ ⟨rfl, ⟨nd, rfl⟩⟩; (first | exact ⟨rfl, _, rfl⟩ | exact ⟨rfl, _, World.drewN_drewN _ _ _⟩ | exact ⟨rfl, _, Eq.trans (World.drewN_drewN _ _ _) (congrArg (World.drewN _) (Nat.add_assoc _ _ _))⟩))); try go_wp2)
      go_roundg (2 * f + 1 - (j + 1)).toNat
      case measure => have := h2.out; have := HJ.out; have := HK.out; omega
      case rel => exact ⟨j + 1, by (rw [← HK.out]; congr 1; omega), by (rw [← HK.out]; rfl), ⟨by have := HJ.out; have := HK.out; omega⟩, ⟨by have := HJ.out; have := HK.out; omega⟩, ⟨(by first | exact Drawn0.refl _ | exact ⟨⟨_, rfl⟩⟩ | exact ⟨⟨_, World.drewN_drewN _ _ _⟩⟩ | (refine ⟨⟨_, ?_⟩⟩; simp only [World.drewN_drewN]; rfl))⟩⟩
    · have hb : decide (k ≤ f) = false := decide_eq_false hj
      have E := Aside0.mk (show j = (2 * f + 1).toNat by have := h1.out; have := HK.out; omega)
      go_wp2
      go_ret
      exact ⟨ret_int (by unfold footAt; rw [← E.out]), (by first | exact Drawn0.refl _ | exact ⟨⟨_, rfl⟩⟩ | exact ⟨⟨_, World.drewN_drewN _ _ _⟩⟩ | (refine ⟨⟨_, ?_⟩⟩; simp only [World.drewN_drewN]; rfl))⟩

set_option maxHeartbeats 1000000 in
set_option maxRecDepth 100000 in
theorem impl_beside_true (A : Option Addr) (c : Nat) (l : List Int) (f : Int) (w : World) (hr : CamR w A c l) (hf : 0 ≤ f ∧ f ≤ 100) :
    Calls Try.prog 135 #[.slice A l.length c, .int .i64 f, .func (.func 136) #[] #[]] w fun e w' => ∃ v : Value, e = .returned v ∧ Kd.R (Kd.int .i16) 51 w' w.heap.size (fun _ => True) v (footL true l f) ∧ Below w.heap.size w w' := by
  have HR := Aside0.mk hr
  clear hr
  go_enter Try.func135, Try.ntmps135
  go_wp2_with (first | (go_at_call 127; (with_reducible refine (impl_steps_c _ _ _ _).mono ?_); rintro e_ w_ ⟨rfl, ⟨nd, rfl⟩⟩) | (go_at_call 126; (with_reducible refine (impl_camOf_ok l.length _ (footAt true l f) _ (by have := HR.out.ok.hi; omega) (fun i hi => HR.out.ok.lift _ (footU_mem true HR.out.ok.pos f i _)) (fun i W hi hb => CallsV.of Try.func221 rfl rfl rfl ((impl_beside1_true w.heap.size (w.heap.size + 1) (w.heap.size + 1 + 1) A c l f i W (pw_cell_below hb (by go_simp)) (pw_cell_below hb (by go_simp)) (pw_cell_below hb (by go_simp)) (CamR.mv (by repeat (first | exact HR.out | (with_reducible refine CamR.drewN ?_ _) | (with_reducible refine CamR.alloc ?_ _))) hb) hf (by have := HR.out.ok.hi; omega)).mono (fun e w' h => ⟨h.1, h.2.below⟩)))).mono ?_); rintro e_ w_ ⟨v, rfl, ho, hb⟩))
  go_ret
  exact ⟨_, rfl, Kd.R_lower ho (below_size (by repeat (first | (with_reducible first | exact (Below.refl w.heap.size w) | apply below_alloc | apply pw_below_drewN | apply below_drew1) | exact (Below.refl w.heap.size w)))), below_step (by repeat (first | (with_reducible first | exact (Below.refl w.heap.size w) | apply below_alloc | apply pw_below_drewN | apply below_drew1) | exact (Below.refl w.heap.size w))) hb⟩

set_option maxHeartbeats 1000000 in
set_option maxRecDepth 100000 in
theorem impl_beside1_false (bc bf bo : Nat) (A : Option Addr) (c : Nat) (l : List Int) (f : Int) (i : Int) (w : World) (hc : w.cell? ⟨bc, 0, none⟩ = some (.slice A l.length c)) (hf : w.cell? ⟨bf, 0, none⟩ = some (.int .i64 f)) (ho : w.cell? ⟨bo, 0, none⟩ = some (.func (.func 222) #[] #[])) (hr : CamR w A c l) (h1' : 0 ≤ f ∧ f ≤ 100) (hi : 0 ≤ i ∧ i ≤ 1000) :
    Calls Try.prog 221 #[.int .i64 i, .pointer (some ⟨bc, 0, none⟩), .pointer (some ⟨bf, 0, none⟩), .pointer (some ⟨bo, 0, none⟩)] w fun e w' => e = .returned (.int .i64 (footAt false l f i)) ∧ Drawn0 w w' := by
  have HR := Aside0.mk hr
  clear hr
  go_enter Try.func221, Try.ntmps221
  go_wp2_with (first | (go_at_call 129; (with_reducible refine (impl_at_c _ _ l _ _ (by repeat (first | exact HR.out | (with_reducible refine CamR.drewN ?_ _) | (with_reducible refine CamR.alloc ?_ _))) (by omega)).mono ?_); rintro e_ w_ ⟨rfl, ⟨nd, rfl⟩⟩))
  go_loopg [6, 7] (2 * f + 1).toNat (fun d v6 v7 w' => ∃ j : Nat, v7 = .int .i64 (j - f) ∧ v6 = .int .i64 (footU false l f i j) ∧ Aside0 ((j : Int) ≤ 2 * f + 1) ∧ Aside0 ((d : Int) = 2 * f + 1 - j) ∧ Aside0 (Drawn0 w w'))
  case atStart => exact ⟨0, by simp, rfl, ⟨by omega⟩, ⟨by omega⟩, ⟨(by first | exact Drawn0.refl _ | exact ⟨⟨_, rfl⟩⟩ | exact ⟨⟨_, World.drewN_drewN _ _ _⟩⟩ | (refine ⟨⟨_, ?_⟩⟩; simp only [World.drewN_drewN]; rfl))⟩⟩
  case round =>
    obtain ⟨j, rfl, rfl, h1, h2, h4⟩ := hrel
    obtain ⟨n, rfl⟩ := h4.out.out
    obtain ⟨k, hk⟩ : ∃ k, (j : Int) - f = k := ⟨_, rfl⟩
    rw [hk]
    have b1 := HR.out.ok.lift _ (footU_mem false HR.out.ok.pos f i j)
    have b2 := HR.out.ok.lift _ (at_mem HR.out.ok.pos (i + k))
    have HK := Aside0.mk hk
    have hkb : k ≤ f + 1 := by have := h1.out; omega
    have hkb2 : -f ≤ k := by omega
    clear hk
    by_cases hj : k ≤ f
    · have hb : decide (k ≤ f) = true := decide_eq_true hj
      have HJ := Aside0.mk hj
      go_wp2
      repeat (go_quiet (first | (go_at_call 129; (with_reducible refine (impl_at_c _ _ l _ _ (by repeat (first | exact HR.out | (with_reducible refine CamR.drewN ?_ _) | (with_reducible refine CamR.alloc ?_ _))) (by omega)).mono ?_); rintro e_ w_ ⟨rfl, ⟨nd, rfl⟩⟩; (first | exact ⟨rfl, _, rfl⟩ | exact ⟨rfl, _, World.drewN_drewN _ _ _⟩ | exact ⟨rfl, _, Eq.trans (World.drewN_drewN _ _ _) (congrArg (World.drewN _) (Nat.add_assoc _ _ _))⟩)) | (go_at_call 136; (with_reducible refine (impl_greater_c _ _ _).mono ?_); rintro e_ w_ ⟨rfl, ⟨nd, rfl⟩⟩; (first | exact ⟨rfl, _, rfl⟩ | exact ⟨rfl, _, World.drewN_drewN _ _ _⟩ | exact ⟨rfl, _, Eq.trans (World.drewN_drewN _ _ _) (congrArg (World.drewN _) (Nat.add_assoc _ _ _))⟩)) | (go_at_call 222; (with_reducible refine (impl_lesser_c _ _ _).mono ?_); rintro e_ w_ ⟨rfl, ⟨nd, rfl⟩⟩; (first | exact ⟨rfl, _, rfl⟩ | exact ⟨rfl, _, World.drewN_drewN _ _ _⟩ | exact ⟨rfl, _, Eq.trans (World.drewN_drewN _ _ _) (congrArg (World.drewN _) (Nat.add_assoc _ _ _))⟩))); try go_wp2)
      go_roundg (2 * f + 1 - (j + 1)).toNat
      case measure => have := h2.out; have := HJ.out; have := HK.out; omega
      case rel => exact ⟨j + 1, by (rw [← HK.out]; congr 1; omega), by (rw [← HK.out]; rfl), ⟨by have := HJ.out; have := HK.out; omega⟩, ⟨by have := HJ.out; have := HK.out; omega⟩, ⟨(by first | exact Drawn0.refl _ | exact ⟨⟨_, rfl⟩⟩ | exact ⟨⟨_, World.drewN_drewN _ _ _⟩⟩ | (refine ⟨⟨_, ?_⟩⟩; simp only [World.drewN_drewN]; rfl))⟩⟩
    · have hb : decide (k ≤ f) = false := decide_eq_false hj
      have E := Aside0.mk (show j = (2 * f + 1).toNat by have := h1.out; have := HK.out; omega)
      go_wp2
      go_ret
      exact ⟨ret_int (by unfold footAt; rw [← E.out]), (by first | exact Drawn0.refl _ | exact ⟨⟨_, rfl⟩⟩ | exact ⟨⟨_, World.drewN_drewN _ _ _⟩⟩ | (refine ⟨⟨_, ?_⟩⟩; simp only [World.drewN_drewN]; rfl))⟩

set_option maxHeartbeats 1000000 in
set_option maxRecDepth 100000 in
theorem impl_beside_false (A : Option Addr) (c : Nat) (l : List Int) (f : Int) (w : World) (hr : CamR w A c l) (hf : 0 ≤ f ∧ f ≤ 100) :
    Calls Try.prog 135 #[.slice A l.length c, .int .i64 f, .func (.func 222) #[] #[]] w fun e w' => ∃ v : Value, e = .returned v ∧ Kd.R (Kd.int .i16) 51 w' w.heap.size (fun _ => True) v (footL false l f) ∧ Below w.heap.size w w' := by
  have HR := Aside0.mk hr
  clear hr
  go_enter Try.func135, Try.ntmps135
  go_wp2_with (first | (go_at_call 127; (with_reducible refine (impl_steps_c _ _ _ _).mono ?_); rintro e_ w_ ⟨rfl, ⟨nd, rfl⟩⟩) | (go_at_call 126; (with_reducible refine (impl_camOf_ok l.length _ (footAt false l f) _ (by have := HR.out.ok.hi; omega) (fun i hi => HR.out.ok.lift _ (footU_mem false HR.out.ok.pos f i _)) (fun i W hi hb => CallsV.of Try.func221 rfl rfl rfl ((impl_beside1_false w.heap.size (w.heap.size + 1) (w.heap.size + 1 + 1) A c l f i W (pw_cell_below hb (by go_simp)) (pw_cell_below hb (by go_simp)) (pw_cell_below hb (by go_simp)) (CamR.mv (by repeat (first | exact HR.out | (with_reducible refine CamR.drewN ?_ _) | (with_reducible refine CamR.alloc ?_ _))) hb) hf (by have := HR.out.ok.hi; omega)).mono (fun e w' h => ⟨h.1, h.2.below⟩)))).mono ?_); rintro e_ w_ ⟨v, rfl, ho, hb⟩))
  go_ret
  exact ⟨_, rfl, Kd.R_lower ho (below_size (by repeat (first | (with_reducible first | exact (Below.refl w.heap.size w) | apply below_alloc | apply pw_below_drewN | apply below_drew1) | exact (Below.refl w.heap.size w)))), below_step (by repeat (first | (with_reducible first | exact (Below.refl w.heap.size w) | apply below_alloc | apply pw_below_drewN | apply below_drew1) | exact (Below.refl w.heap.size w))) hb⟩


set_option maxHeartbeats 1000000 in
set_option maxRecDepth 100000 in
theorem impl_reached_c (A : Option Addr) (c : Nat) (l : List Int) (f : Int) (w : World) (hr : CamR w A c l) (hf : 0 ≤ f ∧ f ≤ 100) :
    Calls Try.prog 139 #[.slice A l.length c, .int .i64 f] w fun e w' => ∃ v : Value, e = .returned v ∧ Kd.R (Kd.int .i16) 51 w' w.heap.size (fun _ => True) v (reachedL l f) ∧ Below w.heap.size w w' := by
  have HR := Aside0.mk hr
  clear hr
  go_enter Try.func139, Try.ntmps139
  go_wp2_with (first | (go_at_call 135; (with_reducible refine (impl_beside_true _ _ l f _ (by repeat (first | exact HR.out | (with_reducible refine CamR.drewN ?_ _) | (with_reducible refine CamR.alloc ?_ _))) hf).mono ?_); rintro e_ w_ ⟨v, rfl, ho, hb⟩; (obtain ⟨A2, c2, rfl, hR2⟩ := R_cam ho (footL_ok HR.out.ok f)); have HB := Aside0.mk (below_step (by repeat (first | (with_reducible first | exact (Below.refl w.heap.size w) | apply below_alloc | apply pw_below_drewN | apply below_drew1) | exact (Below.refl w.heap.size w))) hb); clear ho hb) | (go_at_call 135; (with_reducible refine (impl_beside_false _ _ (footL true l f) f _ (by repeat (first | exact hR2 | (with_reducible refine CamR.drewN ?_ _) | (with_reducible refine CamR.alloc ?_ _))) hf).mono ?_); rintro e_ w_ ⟨v, rfl, ho, hb⟩))
  go_ret
  exact ⟨_, rfl, Kd.R_lower ho (below_size (by repeat (first | (with_reducible first | exact HB.out | apply below_alloc | apply pw_below_drewN | apply below_drew1) | exact HB.out))), below_step (by repeat (first | (with_reducible first | exact HB.out | apply below_alloc | apply pw_below_drewN | apply below_drew1) | exact HB.out)) hb⟩

set_option maxHeartbeats 1000000 in
set_option maxRecDepth 100000 in
theorem impl_FootCam_ok (A : Option Addr) (c : Nat) (l : List Int) (f : Int) (w : World) (hr : CamR w A c l) (hf : 0 ≤ f ∧ f ≤ 40) :
    Calls Try.prog 28 #[.slice A l.length c, .int .i64 f] w fun e w' => ∃ v : Value, e = .returned (.tuple #[v, .int .i64 0]) ∧ Kd.R (Kd.int .i16) 51 w' w.heap.size (fun _ => True) v (footL true l f) ∧ Below w.heap.size w w' := by
  have HR := Aside0.mk hr
  clear hr
  go_enter Try.func28, Try.ntmps28
  go_wp2_with (first | (go_at_call 118; (with_reducible refine (impl_ValidCam_ok _ _ l _ (by repeat (first | exact HR.out | (with_reducible refine CamR.drewN ?_ _) | (with_reducible refine CamR.alloc ?_ _)))).mono ?_); rintro e_ w_ ⟨rfl, ⟨nd, rfl⟩⟩) | (go_at_call 135; (with_reducible refine (impl_beside_true _ _ l f _ (by repeat (first | exact HR.out | (with_reducible refine CamR.drewN ?_ _) | (with_reducible refine CamR.alloc ?_ _))) (by omega)).mono ?_); rintro e_ w_ ⟨v, rfl, ho, hb⟩) | go_in)
  go_ret2
  exact ⟨_, rfl, Kd.R_lower ho (below_size (by repeat (first | (with_reducible first | exact (Below.refl w.heap.size w) | apply below_alloc | apply pw_below_drewN | apply below_drew1) | exact (Below.refl w.heap.size w)))), below_step (by repeat (first | (with_reducible first | exact (Below.refl w.heap.size w) | apply below_alloc | apply pw_below_drewN | apply below_drew1) | exact (Below.refl w.heap.size w))) hb⟩

set_option maxHeartbeats 1000000 in
set_option maxRecDepth 100000 in
theorem impl_ReachedCam_ok (A : Option Addr) (c : Nat) (l : List Int) (f : Int) (w : World) (hr : CamR w A c l) (hf : 0 ≤ f ∧ f ≤ 40) :
    Calls Try.prog 30 #[.slice A l.length c, .int .i64 f] w fun e w' => ∃ v : Value, e = .returned (.tuple #[v, .int .i64 0]) ∧ Kd.R (Kd.int .i16) 51 w' w.heap.size (fun _ => True) v (reachedL l f) ∧ Below w.heap.size w w' := by
  have HR := Aside0.mk hr
  clear hr
  go_enter Try.func30, Try.ntmps30
  go_wp2_with (first | (go_at_call 118; (with_reducible refine (impl_ValidCam_ok _ _ l _ (by repeat (first | exact HR.out | (with_reducible refine CamR.drewN ?_ _) | (with_reducible refine CamR.alloc ?_ _)))).mono ?_); rintro e_ w_ ⟨rfl, ⟨nd, rfl⟩⟩) | (go_at_call 139; (with_reducible refine (impl_reached_c _ _ l f _ (by repeat (first | exact HR.out | (with_reducible refine CamR.drewN ?_ _) | (with_reducible refine CamR.alloc ?_ _))) (by omega)).mono ?_); rintro e_ w_ ⟨v, rfl, ho, hb⟩) | go_in)
  go_ret2
  exact ⟨_, rfl, Kd.R_lower ho (below_size (by repeat (first | (with_reducible first | exact (Below.refl w.heap.size w) | apply below_alloc | apply pw_below_drewN | apply below_drew1) | exact (Below.refl w.heap.size w)))), below_step (by repeat (first | (with_reducible first | exact (Below.refl w.heap.size w) | apply below_alloc | apply pw_below_drewN | apply below_drew1) | exact (Below.refl w.heap.size w))) hb⟩

set_option maxHeartbeats 1000000 in
set_option maxRecDepth 100000 in
/-- slices.Equal of cams. -/
theorem slices_Equal_c (A B : Option Addr) (c d : Nat) (l m : List Int) (w : World) (hl : Kd.C (Kd.int .i16) w A l.length l) (hm : Kd.C (Kd.int .i16) w B m.length m) (hn : l.length ≤ 1099511627776) (hn2 : m.length ≤ 1099511627776) :
    Calls Try.prog 142 #[.slice A l.length c, .slice B m.length d] w fun e w' => e = .returned (.bool (decide (l = m))) ∧ Drawn0 w w' := by
  have HL := Aside0.mk hl
  have HM := Aside0.mk hm
  by_cases he : l.length = m.length
  · have hb : (l.length == m.length) = true := beq_iff_eq.mpr he
    have hb2 : (l.length != m.length) = false := bne_eq_false_iff_eq.mpr he
    rw [← he]
    have HE := Aside0.mk he
    clear hl hm he hb hb2
    go_enter Try.func142, Try.ntmps142
    go_wp2
    go_loopg [13] l.length (fun k v13 w' => ∃ j : Nat, v13 = .int .i64 j ∧ Aside0 (j ≤ l.length) ∧ Aside0 (k = l.length - j) ∧ Aside0 (l.take j = m.take j) ∧ Aside0 (Drawn0 w w'))
    case atStart => exact ⟨0, rfl, ⟨by omega⟩, ⟨by omega⟩, ⟨rfl⟩, ⟨(by first | exact Drawn0.refl _ | exact ⟨⟨_, rfl⟩⟩ | exact ⟨⟨_, World.drewN_drewN _ _ _⟩⟩ | (refine ⟨⟨_, ?_⟩⟩; simp only [World.drewN_drewN]; rfl))⟩⟩
    case round =>
      obtain ⟨j, rfl, h1, h2, h3, h4⟩ := hrel
      obtain ⟨n, rfl⟩ := h4.out.out
      by_cases hj : j < l.length
      · have hj2 : j < m.length := by have := HE.out; omega
        have hb : decide (j < l.length) = true := decide_eq_true hj
        obtain ⟨ad, e, hx⟩ := Kd.at_int HL.out (j : Int) (by omega) (by omega)
        cases e
        obtain ⟨ad2, e, hx2⟩ := Kd.at_int HM.out (j : Int) (by omega) (by omega)
        cases e
        have E1 := Aside0.mk (rd_get l j hj)
        have E2 := Aside0.mk (rd_get m j hj2)
        have HJ := Aside0.mk hj
        have HJ2 := Aside0.mk hj2
        rw [Int.toNat_natCast] at hx hx2
        go_wp2
        repeat (go_quiet (fail); try go_wp2)
        · have hne : ¬ rd l j = rd m j := by have : (rd l j != rd m j) = true := by assumption
                                             exact bne_iff_ne.mp this
          go_ret
          refine ⟨ret_bool (decide_eq_false fun h => hne ?_).symm, (by first | exact Drawn0.refl _ | exact ⟨⟨_, rfl⟩⟩ | exact ⟨⟨_, World.drewN_drewN _ _ _⟩⟩ | (refine ⟨⟨_, ?_⟩⟩; simp only [World.drewN_drewN]; rfl))⟩
          rw [h]
        · have heq : rd l j = rd m j := by have : (rd l j != rd m j) = false := by assumption
                                           exact bne_eq_false_iff_eq.mp this
          go_roundg (l.length - (j + 1))
          case measure => have := h2.out; have := HJ.out; omega
          case rel => exact ⟨j + 1, by simp, ⟨by have := HJ.out; omega⟩, ⟨rfl⟩, ⟨by rw [List.take_succ_eq_append_getElem HJ.out, List.take_succ_eq_append_getElem HJ2.out, h3.out, ← E1.out, ← E2.out, heq]⟩, ⟨(by first | exact Drawn0.refl _ | exact ⟨⟨_, rfl⟩⟩ | exact ⟨⟨_, World.drewN_drewN _ _ _⟩⟩ | (refine ⟨⟨_, ?_⟩⟩; simp only [World.drewN_drewN]; rfl))⟩⟩
      · have hge : l.length ≤ j := by omega
        have E := Aside0.mk (show l = m by have := h3.out; rwa [List.take_of_length_le hge, List.take_of_length_le (by have := HE.out; omega)] at this)
        go_wp2
        go_ret
        exact ⟨ret_bool (decide_eq_true E.out).symm, (by first | exact Drawn0.refl _ | exact ⟨⟨_, rfl⟩⟩ | exact ⟨⟨_, World.drewN_drewN _ _ _⟩⟩ | (refine ⟨⟨_, ?_⟩⟩; simp only [World.drewN_drewN]; rfl))⟩
  · have hb2 : (l.length != m.length) = true := bne_iff_ne.mpr he
    have hb3 : ((l.length : Int) != (m.length : Int)) = true := bne_iff_ne.mpr (by omega)
    have HE := Aside0.mk he
    clear hl hm
    go_enter Try.func142, Try.ntmps142
    go_wp2
    go_ret
    exact ⟨ret_bool (decide_eq_false fun h => HE.out (by rw [h])).symm, (by first | exact Drawn0.refl _ | exact ⟨⟨_, rfl⟩⟩ | exact ⟨⟨_, World.drewN_drewN _ _ _⟩⟩ | (refine ⟨⟨_, ?_⟩⟩; simp only [World.drewN_drewN]; rfl))⟩
end Go.Proofs.Ytpjibhedpieafaa.H
