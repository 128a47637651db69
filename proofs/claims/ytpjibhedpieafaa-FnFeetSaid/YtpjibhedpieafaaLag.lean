/- Walks: LagCam. -/
import Derived.Test.YtpjibhedpieafaaCam1
namespace Go.Proofs.Ytpjibhedpieafaa.H
open Go.RowKit Go.Proofs.YtpjibhedpieafaaW.PrintWords Go.Proofs.YtpjibhedpieafaaW.PrintLast Go.Proofs.YtpjibhedpieafaaW.PrintMore Go.Proofs.Ytpjibhedpieafaa.M
attribute [local go_sem] max2_int min2_int max_two min_two max_three min_three max_four min_four

set_option maxHeartbeats 1000000 in
set_option maxRecDepth 100000 in
theorem impl_LagCam1_c (bc br : Nat) (A : Option Addr) (c : Nat) (l : List Int) (r : Int) (i : Int) (w : World) (hc : w.cell? ⟨bc, 0, none⟩ = some (.slice A l.length c)) (hb : w.cell? ⟨br, 0, none⟩ = some (.int .i64 r)) (hr : CamR w A c l) (h1' : 1 ≤ r ∧ r ≤ 10000) (hi : 0 ≤ i ∧ i ≤ 1000) :
    Calls Try.prog 128 #[.int .i64 i, .pointer (some ⟨bc, 0, none⟩), .pointer (some ⟨br, 0, none⟩)] w fun e w' => e = .returned (.int .i64 (lagAt l r i)) ∧ Drawn0 w w' := by
  have HR := Aside0.mk hr
  clear hr
  go_enter Try.func128, Try.ntmps128
  go_wp2_with (first | (go_at_call 127; (with_reducible refine (impl_steps_c _ _ _ _).mono ?_); rintro e_ w_ ⟨rfl, ⟨nd, rfl⟩⟩) | (go_at_call 129; (with_reducible refine (impl_at_c _ _ l _ _ (by repeat (first | exact HR.out | apply CamR.drewN)) (by omega)).mono ?_); rintro e_ w_ ⟨rfl, ⟨nd, rfl⟩⟩))
  go_loopg [5, 12] l.length (fun d v5 v12 w' => ∃ j : Nat, v12 = .int .i64 j ∧ v5 = .int .i64 (lagU l r i j) ∧ Aside0 (j ≤ l.length) ∧ Aside0 (d = l.length - j) ∧ Aside0 (Drawn0 w w'))
  case atStart => exact ⟨0, rfl, rfl, ⟨by omega⟩, ⟨by omega⟩, ⟨(by first | exact Drawn0.refl _ | exact ⟨⟨_, rfl⟩⟩ | exact ⟨⟨_, World.drewN_drewN _ _ _⟩⟩ | (refine ⟨⟨_, ?_⟩⟩; simp only [World.drewN_drewN]; rfl))⟩⟩
  case round =>
    obtain ⟨j, rfl, rfl, h1, h2, h4⟩ := hrel
    obtain ⟨n, rfl⟩ := h4.out.out
    by_cases hj : j < l.length
    · have hb : decide ((j : Int) < l.length) = true := decide_eq_true (by omega)
      have hlen := HR.out.ok.hi
      have b1 := lagU_ge l r i j
      have b2 := HR.out.ok.lift _ (at_mem HR.out.ok.pos i)
      have b3 := lagU_le l r i j 10000 (fun x hx => (HR.out.ok.lift x hx).2) HR.out.ok.pos (by omega)
      have b4 := HR.out.ok.lift _ (at_mem HR.out.ok.pos (i - j))
      have b5 : 0 ≤ r * j ∧ r * j ≤ 3600000 := ⟨Int.mul_nonneg (by omega) (by omega), by have := Int.mul_le_mul h1'.2 (show (j : Int) ≤ 360 by omega) (by omega) (by omega); omega⟩
      go_wp2
      repeat (go_quiet (first | (go_at_call 129; (with_reducible refine (impl_at_c _ _ l _ _ (by repeat (first | exact HR.out | apply CamR.drewN)) (by omega)).mono ?_); rintro e_ w_ ⟨rfl, ⟨nd, rfl⟩⟩; (first | exact ⟨rfl, _, rfl⟩ | exact ⟨rfl, _, World.drewN_drewN _ _ _⟩ | exact ⟨rfl, _, Eq.trans (World.drewN_drewN _ _ _) (congrArg (World.drewN _) (Nat.add_assoc _ _ _))⟩))); try go_wp2)
      all_goals
        go_roundg (l.length - (j + 1))
        case measure => have := h2.out; omega
        case rel => exact ⟨j + 1, by simp, by (simp only [lagU]; congr 1; omega), ⟨by omega⟩, ⟨rfl⟩, ⟨(by first | exact Drawn0.refl _ | exact ⟨⟨_, rfl⟩⟩ | exact ⟨⟨_, World.drewN_drewN _ _ _⟩⟩ | (refine ⟨⟨_, ?_⟩⟩; simp only [World.drewN_drewN]; rfl))⟩⟩
    · have hge : l.length ≤ j := by omega
      have hin : j = l.length := by have := h1.out; omega
      subst hin
      go_wp2
      go_ret
      exact ⟨rfl, (by first | exact Drawn0.refl _ | exact ⟨⟨_, rfl⟩⟩ | exact ⟨⟨_, World.drewN_drewN _ _ _⟩⟩ | (refine ⟨⟨_, ?_⟩⟩; simp only [World.drewN_drewN]; rfl))⟩

theorem lag_le {l : List Int} (h : Ok l) {r : Int} (hr : 1 ≤ r) (i : Int) : 0 ≤ lagAt l r i ∧ lagAt l r i ≤ 10000 := by
  have h1 := lagU_ge l r i l.length
  have h2 := h.lift _ (at_mem h.pos i)
  have h3 := lagU_le l r i l.length 10000 (fun x hx => (h.lift x hx).2) h.pos (by omega)
  unfold lagAt; omega

set_option maxHeartbeats 1000000 in
set_option maxRecDepth 100000 in
theorem impl_LagCam_ok (A : Option Addr) (c : Nat) (l : List Int) (r : Int) (w : World) (hr : CamR w A c l) (h1 : 1 ≤ r ∧ r ≤ 10000) :
    Calls Try.prog 24 #[.slice A l.length c, .int .i64 r] w fun e w' => ∃ v : Value, e = .returned (.tuple #[v, .int .i64 0]) ∧ Kd.R (Kd.int .i16) 51 w' w.heap.size (fun _ => True) v (mapN l.length (lagAt l r)) ∧ Below w.heap.size w w' := by
  have HR := Aside0.mk hr
  clear hr
  go_enter Try.func24, Try.ntmps24
  go_wp2_with (first | (go_at_call 118; (with_reducible refine (impl_ValidCam_ok _ _ l _ (by repeat (first | exact HR.out | (with_reducible refine CamR.drewN ?_ _) | (with_reducible refine CamR.alloc ?_ _)))).mono ?_); rintro e_ w_ ⟨rfl, ⟨nd, rfl⟩⟩) | (go_at_call 127; (with_reducible refine (impl_steps_c _ _ _ _).mono ?_); rintro e_ w_ ⟨rfl, ⟨nd, rfl⟩⟩) | (go_at_call 126; (with_reducible refine (impl_camOf_ok l.length _ (lagAt l r) _ (by have := HR.out.ok.hi; omega) (fun i hi => lag_le HR.out.ok h1.1 i) (fun i W hi hb => CallsV.of Try.func128 rfl rfl rfl ((impl_LagCam1_c w.heap.size (w.heap.size + 1) A c l r i W (pw_cell_below hb (by go_simp)) (pw_cell_below hb (by go_simp)) (CamR.mv (by repeat (first | exact HR.out | (with_reducible refine CamR.drewN ?_ _) | (with_reducible refine CamR.alloc ?_ _))) hb) h1 (by have := HR.out.ok.hi; omega)).mono (fun e w' h => ⟨h.1, h.2.below⟩)))).mono ?_); rintro e_ w_ ⟨v, rfl, ho, hb⟩) | go_in)
  go_ret2
  exact ⟨_, rfl, Kd.R_lower ho (below_size (by repeat (first | (with_reducible first | exact (Below.refl w.heap.size w) | apply below_alloc | apply pw_below_drewN | apply below_drew1) | exact (Below.refl w.heap.size w)))), below_step (by repeat (first | (with_reducible first | exact (Below.refl w.heap.size w) | apply below_alloc | apply pw_below_drewN | apply below_drew1) | exact (Below.refl w.heap.size w))) hb⟩
end Go.Proofs.Ytpjibhedpieafaa.H
