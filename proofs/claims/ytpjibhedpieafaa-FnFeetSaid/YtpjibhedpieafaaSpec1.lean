/- Walks of the reference: the lift at a step, validity, changes, equality. -/
import Derived.Test.YtpjibhedpieafaaNum
import Derived.Test.YtpjibhedpieafaaLag
namespace Go.Proofs.Ytpjibhedpieafaa.H
open Go.RowKit Go.Proofs.YtpjibhedpieafaaW.PrintWords Go.Proofs.YtpjibhedpieafaaW.PrintLast Go.Proofs.YtpjibhedpieafaaW.PrintMore Go.Proofs.Ytpjibhedpieafaa.M
attribute [local go_sem] max2_int min2_int max_two min_two max_three min_three max_four min_four

set_option maxHeartbeats 1000000 in
set_option maxRecDepth 100000 in
theorem spec_l01At_c (A : Option Addr) (c : Nat) (l : List Int) (i : Int) (w : World) (hr : CamR w A c l) (hi : -1099511627776 ≤ i ∧ i ≤ 1099511627776) :
    Calls Try.prog 133 #[.slice A l.length c, .int .i64 i] w fun e w' => e = .returned (.int .i64 (at_ l i)) ∧ Drawn0 w w' := by
  have hn := hr.ok.pos
  have hn2 := hr.ok.hi
  have e2 : 0 ≤ i % (l.length : Int) ∧ i % (l.length : Int) < l.length := ⟨Int.emod_nonneg _ (by omega), Int.emod_lt_of_pos _ (by omega)⟩
  obtain ⟨ad, e, hx⟩ := Kd.at_int hr.rd (i % (l.length : Int)) e2.1 (by omega)
  cases e
  have hv : at_ l i = rd l (i % (l.length : Int)) := rfl
  have hb := hr.ok.lift _ (at_mem hn i)
  rw [hv] at hb
  have hne : ¬ l = [] := by intro h; rw [h] at hn; simp at hn
  have hm : (i.tmod l.length + l.length) % (l.length : Int) = i % l.length := by
    rw [Int.add_emod_right, Int.tmod_eq_emod]
    split
    · simp
    · rw [show (l.length : Int).natAbs = l.length by omega]; simp
  have hm2 : -(l.length : Int) < i.tmod l.length ∧ i.tmod l.length < l.length := by
    have := Int.emod_lt_of_pos i (show (0 : Int) < l.length by omega)
    have := Int.emod_nonneg i (show (l.length : Int) ≠ 0 by omega)
    rw [Int.tmod_eq_emod]; split <;> omega
  have hb1 := hb.1
  have hb2 := hb.2
  obtain ⟨j, hj⟩ : ∃ j, i % (l.length : Int) = j := ⟨_, rfl⟩
  rw [hj] at hx e2 hb1 hb2 hm
  obtain ⟨q, hq⟩ : ∃ q, i.tmod l.length = q := ⟨_, rfl⟩
  rw [hq] at hm hm2
  have HJ := Aside0.mk hj
  have e21 := e2.1
  have e22 := e2.2
  have HV := Aside0.mk hv
  have hnz : ((l.length : Int) == 0) = false := beq_eq_false_iff_ne.mpr (by omega)
  clear hr hi hb hv hj e2
  go_enter Try.func133, Try.ntmps133
  go_wp2
  go_ret
  exact ⟨ret_int (by rw [HV.out, HJ.out]), (by first | exact Drawn0.refl _ | exact ⟨⟨_, rfl⟩⟩ | exact ⟨⟨_, World.drewN_drewN _ _ _⟩⟩ | (refine ⟨⟨_, ?_⟩⟩; simp only [World.drewN_drewN]; rfl))⟩

set_option maxHeartbeats 1000000 in
set_option maxRecDepth 100000 in
theorem spec_l00Max_c (x y : Int) (w : World) : Calls Try.prog 124 #[.int .i64 x, .int .i64 y] w fun e w' => e = .returned (.int .i64 (max x y)) ∧ Drawn0 w w' := by
  go_enter Try.func124, Try.ntmps124
  go_wp2
  all_goals go_ret
  all_goals exact ⟨ret_int (by omega), (by first | exact Drawn0.refl _ | exact ⟨⟨_, rfl⟩⟩ | exact ⟨⟨_, World.drewN_drewN _ _ _⟩⟩ | (refine ⟨⟨_, ?_⟩⟩; simp only [World.drewN_drewN]; rfl))⟩

theorem spec_l01Steps_c (n : Int) (w : World) : Calls Try.prog 164 #[.int .i64 n] w fun e w' => e = .returned (.bool (isStepsB n)) ∧ Drawn0 w w' := by
  go_enter Try.func164, Try.ntmps164
  go_wp2
  all_goals go_ret
  all_goals exact ⟨ret_bool (by simp [isStepsB]; omega), (by first | exact Drawn0.refl _ | exact ⟨⟨_, rfl⟩⟩ | exact ⟨⟨_, World.drewN_drewN _ _ _⟩⟩ | (refine ⟨⟨_, ?_⟩⟩; simp only [World.drewN_drewN]; rfl))⟩
theorem spec_l01Lift_c (n : Int) (w : World) : Calls Try.prog 219 #[.int .i64 n] w fun e w' => e = .returned (.bool (isLiftB n)) ∧ Drawn0 w w' := by
  go_enter Try.func219, Try.ntmps219
  go_wp2
  all_goals go_ret
  all_goals exact ⟨ret_bool (by simp [isLiftB]; omega), (by first | exact Drawn0.refl _ | exact ⟨⟨_, rfl⟩⟩ | exact ⟨⟨_, World.drewN_drewN _ _ _⟩⟩ | (refine ⟨⟨_, ?_⟩⟩; simp only [World.drewN_drewN]; rfl))⟩

set_option maxHeartbeats 1000000 in
set_option maxRecDepth 100000 in
theorem spec_l01Ok_c (A : Option Addr) (c : Nat) (l : List Int) (w : World) (hr : Kd.C (Kd.int .i16) w A l.length l) (h16 : I16 l) (hn : l.length ≤ 140737488351232) :
    Calls Try.prog 122 #[.slice A l.length c] w fun e w' => e = .returned (.bool (validB l)) ∧ Drawn0 w w' := by
  have HR := Aside0.mk hr
  have H16 := Aside0.mk h16
  clear hr h16
  cases hs : isStepsB l.length with
  | true =>
    have HS := Aside0.mk hs
    go_enter Try.func122, Try.ntmps122
    go_wp2_with (go_at_call 164; (with_reducible refine (spec_l01Steps_c _ _).mono ?_); rintro e_ w_ ⟨rfl, ⟨nd, rfl⟩⟩)
    clear hs
    go_loopg [3] l.length (fun k v3 w' => ∃ j : Nat, v3 = .int .i64 j ∧ Aside0 (j ≤ l.length) ∧ Aside0 (k = l.length - j) ∧ Aside0 (∀ x ∈ l.take j, isLiftB x = true) ∧ Aside0 (Drawn0 w w'))
    case atStart => exact ⟨0, rfl, ⟨by omega⟩, ⟨by omega⟩, ⟨by simp⟩, ⟨(by first | exact Drawn0.refl _ | exact ⟨⟨_, rfl⟩⟩ | exact ⟨⟨_, World.drewN_drewN _ _ _⟩⟩ | (refine ⟨⟨_, ?_⟩⟩; simp only [World.drewN_drewN]; rfl))⟩⟩
    case round =>
      obtain ⟨j, rfl, h1, h2, h3, h4⟩ := hrel
      obtain ⟨n, rfl⟩ := h4.out.out
      by_cases hj : j < l.length
      · have hb : decide (j < l.length) = true := decide_eq_true hj
        obtain ⟨ad, e, hx⟩ := Kd.at_int HR.out (j : Int) (by omega) (by omega)
        cases e
        have e1 := rd_get l j hj
        have E1 := Aside0.mk e1
        have hm := H16.out l[j] (List.getElem_mem _)
        have HJ := Aside0.mk hj
        obtain ⟨x, hx0⟩ : ∃ x, l[j] = x := ⟨_, rfl⟩
        rw [Int.toNat_natCast, e1, hx0] at hx
        rw [hx0] at hm
        have HX := Aside0.mk hx0
        clear e1 hx0
        cases hv : isLiftB x with
        | true =>
          go_wp2_with (go_at_call 219; (with_reducible refine (spec_l01Lift_c _ _).mono ?_); rintro e_ w_ ⟨rfl, ⟨nd, rfl⟩⟩)
          go_roundg (l.length - (j + 1))
          case measure => have := h2.out; have := HJ.out; omega
          case rel => exact ⟨j + 1, by simp, ⟨by have := HJ.out; omega⟩, ⟨rfl⟩, ⟨by intro z hz; rw [List.take_succ_eq_append_getElem HJ.out] at hz; rcases List.mem_append.mp hz with h | h; exact h3.out z h; rw [List.mem_singleton.mp h, HX.out]; exact hv⟩, ⟨(by first | exact Drawn0.refl _ | exact ⟨⟨_, rfl⟩⟩ | exact ⟨⟨_, World.drewN_drewN _ _ _⟩⟩ | (refine ⟨⟨_, ?_⟩⟩; simp only [World.drewN_drewN]; rfl))⟩⟩
        | false =>
          go_wp2_with (go_at_call 219; (with_reducible refine (spec_l01Lift_c _ _).mono ?_); rintro e_ w_ ⟨rfl, ⟨nd, rfl⟩⟩)
          go_ret
          exact ⟨ret_bool (by unfold validB; rw [HS.out]; have : (l.any fun x => !isLiftB x) = true := List.any_eq_true.mpr ⟨x, by rw [← HX.out]; exact List.getElem_mem _, by rw [hv]; rfl⟩; rw [this]; rfl), (by first | exact Drawn0.refl _ | exact ⟨⟨_, rfl⟩⟩ | exact ⟨⟨_, World.drewN_drewN _ _ _⟩⟩ | (refine ⟨⟨_, ?_⟩⟩; simp only [World.drewN_drewN]; rfl))⟩
      · have hge : l.length ≤ j := by omega
        go_wp2
        go_ret
        exact ⟨ret_bool (by unfold validB; rw [HS.out]; have : (l.any fun x => !isLiftB x) = false := List.any_eq_false.mpr (fun x hx => by rw [h3.out x (by rwa [List.take_of_length_le hge])]; simp); rw [this]; rfl), (by first | exact Drawn0.refl _ | exact ⟨⟨_, rfl⟩⟩ | exact ⟨⟨_, World.drewN_drewN _ _ _⟩⟩ | (refine ⟨⟨_, ?_⟩⟩; simp only [World.drewN_drewN]; rfl))⟩
  | false =>
    have HS := Aside0.mk hs
    go_enter Try.func122, Try.ntmps122
    go_wp2_with (go_at_call 164; (with_reducible refine (spec_l01Steps_c _ _).mono ?_); rintro e_ w_ ⟨rfl, ⟨nd, rfl⟩⟩)
    go_ret
    exact ⟨ret_bool (by unfold validB; rw [HS.out]; rfl), (by first | exact Drawn0.refl _ | exact ⟨⟨_, rfl⟩⟩ | exact ⟨⟨_, World.drewN_drewN _ _ _⟩⟩ | (refine ⟨⟨_, ?_⟩⟩; simp only [World.drewN_drewN]; rfl))⟩
theorem spec_l01Ok_ok (A : Option Addr) (c : Nat) (l : List Int) (w : World) (hr : CamR w A c l) :
    Calls Try.prog 122 #[.slice A l.length c] w fun e w' => e = .returned (.bool true) ∧ Drawn0 w w' := by
  have := spec_l01Ok_c A c l w hr.rd hr.ok.i16 (by have := hr.ok.hi; omega)
  rwa [(validB_iff l).mpr hr.ok] at this

set_option maxHeartbeats 1000000 in
set_option maxRecDepth 100000 in
theorem spec_l01Changes_c (A : Option Addr) (c : Nat) (l : List Int) (w : World) (hr : CamR w A c l) :
    Calls Try.prog 123 #[.slice A l.length c] w fun e w' => ∃ v : Value, e = .returned v ∧ Kd.R (Kd.int .i64) 2 w' w.heap.size (fun _ => True) v (changes l) ∧ Below w.heap.size w w' := by
  have HR := Aside0.mk hr
  have hlen := hr.ok.hi
  clear hr
  go_enter Try.func123, Try.ntmps123
  go_wp2_with ((with_reducible refine gate_dst (N := 5) rfl ?_); refine Kd.R_lit (Kd.int .i64) _ 2 ?hg (N := 5) ?hd (xs := ([] : List _)) (inner := []) (ok := fun _ => True) (okp := fun _ => True) ?hr ?hp (fun _ hk => hk) trivial (Below.refl _ _) (Nat.le_refl _) (by simp) ?_; (case hd => rfl); (case hg => rfl); (case hr => first | (go_simp; done) | (go_simp; rfl)); (case hp => exact (Reps.none _ _)); intro v1 w1 ho1 hb1 hg_ hnew_; clear hg_ hnew_)
  have HO := Aside0.mk ho1
  have HB := Aside0.mk hb1
  clear ho1 hb1
  go_loopg [3, 4] l.length (fun d v3 v4 w' => ∃ i : Nat, v4 = .int .i64 i ∧ Aside0 (i ≤ l.length) ∧ Aside0 (d = l.length - i) ∧ Aside0 (Kd.R (Kd.int .i64) 2 w' w.heap.size (fun _ => True) v3 (mapN i (changeAt l))) ∧ Aside0 (Below w.heap.size w w'))
  case atStart => exact ⟨0, rfl, ⟨by omega⟩, ⟨by omega⟩, HO, HB⟩
  case round =>
    clear HO HB
    obtain ⟨i, rfl, h1, h2, HO, HB⟩ := hrel
    by_cases hi : i < l.length
    · have HI := Aside0.mk hi
      have hb : decide (i < l.length) = true := decide_eq_true hi
      have b1 := HR.out.ok.lift _ (at_mem HR.out.ok.pos i)
      have b2 := HR.out.ok.lift _ (at_mem HR.out.ok.pos (i + 1))
      go_wp2_with (first | (go_at_call 133; (with_reducible refine (spec_l01At_c _ _ l _ _ (by repeat (first | exact (CamR.mv HR.out HB.out) | (with_reducible refine CamR.drewN ?_ _) | (with_reducible refine CamR.alloc ?_ _))) (by omega)).mono ?_); rintro e_ w_ ⟨rfl, ⟨nd, rfl⟩⟩) | ((with_reducible refine gate_builtin (b := .append) (xs := #[.tmp 12, .tmp 21]) rfl ?_); at_builtin; refine Kd.R_append (Kd.int .i64) (w0 := w) w.heap.size rfl (.tmp 12) (.tmp 21) 47 2 (.int .i64 0) 8 rfl Try.underlying47 info_i64 rfl (by decide) (by omega) u3 (mapN i (changeAt l)) (changeAt l i) [.int .i64 (changeAt l i)] (fun _ => True) (fun _ => False) rfl rfl ?aP (fun _ hk => hk.elim) ?aF ?aO ?aB ?aS ?aL ?_; (case aP => exact rfl); (case aB => exact (by repeat (first | (with_reducible first | exact HB.out | apply below_alloc | apply pw_below_drewN | apply below_drew1) | exact HB.out))); (case aF => exact (fun _ _ => trivial)); (case aO => exact (by (with_reducible repeat (first | apply Kd.R_alloc | apply Kd.R_drewN | apply Kd.R_drew)); exact HO.out)); (case aS => exact (below_size (by repeat (first | (with_reducible first | exact HB.out | apply below_alloc | apply pw_below_drewN | apply below_drew1) | exact HB.out)))); (case aL => (have := HI.out; rw [mapN_length]; omega)); intro v2 w2 ho2 hb2 hg_ hat_; clear hg_ hat_))
      rw [← mapN_succ] at ho2
      go_roundg (l.length - (i + 1))
      case measure => have := h2.out; have := HI.out; omega
      case rel => exact ⟨i + 1, by simp, ⟨by have := HI.out; omega⟩, ⟨rfl⟩, ⟨ho2⟩, ⟨hb2⟩⟩
    · have hge : l.length ≤ i := by omega
      have hin : i = l.length := by have := h1.out; omega
      subst hin
      go_wp2
      go_ret
      exact ⟨_, rfl, HO.out, HB.out⟩

set_option maxHeartbeats 1000000 in
set_option maxRecDepth 100000 in
theorem spec_LeastRate_ok (A : Option Addr) (c : Nat) (l : List Int) (w : World) (hr : CamR w A c l) :
    Calls Try.prog 23 #[.slice A l.length c] w fun e w' => e = .returned (.tuple #[.int .i64 (negMost (changes l)), .int .i64 0]) ∧ Below w.heap.size w w' := by
  have HR := Aside0.mk hr
  have hlen := hr.ok.hi
  clear hr
  go_enter Try.func23, Try.ntmps23
  go_wp2_with (first | (go_at_call 122; (with_reducible refine (spec_l01Ok_ok _ _ l _ (by repeat (first | exact HR.out | (with_reducible refine CamR.drewN ?_ _) | (with_reducible refine CamR.alloc ?_ _)))).mono ?_); rintro e_ w_ ⟨rfl, ⟨nd, rfl⟩⟩) | (go_at_call 123; (with_reducible refine (spec_l01Changes_c _ _ l _ (by repeat (first | exact HR.out | (with_reducible refine CamR.drewN ?_ _) | (with_reducible refine CamR.alloc ?_ _)))).mono ?_); rintro e_ w_ ⟨v, rfl, ho, hb⟩; (obtain ⟨A2, c2, rfl, hc2, hC2⟩ := R_open ho); have HB := Aside0.mk (below_step (by repeat (first | (with_reducible first | exact (Below.refl w.heap.size w) | apply below_alloc | apply pw_below_drewN | apply below_drew1) | exact (Below.refl w.heap.size w))) hb); have HC := Aside0.mk hC2; clear ho hb hC2))
  go_loopg [5, 6] l.length (fun d v5 v6 w' => ∃ i : Nat, v6 = .int .i64 i ∧ v5 = .int .i64 (negMost ((changes l).take i)) ∧ Aside0 (i ≤ l.length) ∧ Aside0 (d = l.length - i) ∧ Aside0 (Drawn0 w_ w'))
  case atStart => exact ⟨0, rfl, rfl, ⟨by omega⟩, ⟨by omega⟩, ⟨(by first | exact Drawn0.refl _ | exact ⟨⟨_, rfl⟩⟩ | exact ⟨⟨_, World.drewN_drewN _ _ _⟩⟩ | (refine ⟨⟨_, ?_⟩⟩; simp only [World.drewN_drewN]; rfl))⟩⟩
  case round =>
    obtain ⟨i, rfl, rfl, h1, h2, h4⟩ := hrel
    obtain ⟨m, rfl⟩ := h4.out.out
    have HLN := Aside0.mk (show (changes l).length = l.length by simp [changes, mapN_length])
    by_cases hi : i < l.length
    · have hi2 : i < (changes l).length := by rw [HLN.out]; exact hi
      have HI := Aside0.mk hi
      have HI2 := Aside0.mk hi2
      obtain ⟨ad, e, hx⟩ := Kd.at_int HC.out (i : Int) (by omega) (by omega)
      cases e
      have e1 := rd_get (changes l) i hi2
      obtain ⟨x, hx0⟩ : ∃ x, (changes l)[i] = x := ⟨_, rfl⟩
      rw [Int.toNat_natCast, e1, hx0] at hx
      have hbx : -10000 ≤ x ∧ x ≤ 10000 := by
        obtain ⟨p, hp, e⟩ := mem_mapN.mp (show x ∈ changes l by rw [← hx0]; exact List.getElem_mem _)
        rw [← e]; exact change_bd HR.out.ok p
      have HX := Aside0.mk hx0
      have hb : decide (i < (changes l).length) = true := decide_eq_true hi2
      clear e1 hx0
      go_wp2_with (go_at_call 124; (with_reducible refine (spec_l00Max_c _ _ _).mono ?_); rintro e_ w_ ⟨rfl, ⟨nd, rfl⟩⟩)
      go_roundg (l.length - (i + 1))
      case measure => have := h2.out; have := HI.out; omega
      case rel => exact ⟨i + 1, by simp, by (rw [List.take_succ_eq_append_getElem HI2.out, HX.out]; simp [negMost, List.foldl_append]), ⟨by have := HI.out; omega⟩, ⟨rfl⟩, ⟨(by first | exact Drawn0.refl _ | exact ⟨⟨_, rfl⟩⟩ | exact ⟨⟨_, World.drewN_drewN _ _ _⟩⟩ | (refine ⟨⟨_, ?_⟩⟩; simp only [World.drewN_drewN]; rfl))⟩⟩
    · have hge : (changes l).length ≤ i := by rw [HLN.out]; omega
      have E := Aside0.mk (show negMost ((changes l).take i) = negMost (changes l) by rw [List.take_of_length_le hge])
      go_wp2
      go_ret2
      exact ⟨ret_int2 E.out, pw_below_drewN HB.out _⟩

set_option maxHeartbeats 1000000 in
set_option maxRecDepth 100000 in
theorem spec_LagCam_ok (A : Option Addr) (c : Nat) (l : List Int) (r : Int) (w : World) (hr : CamR w A c l) (h1' : 1 ≤ r ∧ r ≤ 10000) :
    Calls Try.prog 27 #[.slice A l.length c, .int .i64 r] w fun e w' => ∃ v : Value, e = .returned (.tuple #[v, .int .i64 0]) ∧ Kd.R (Kd.int .i16) 51 w' w.heap.size (fun _ => True) v (mapN l.length (lagAt l r)) ∧ Below w.heap.size w w' := by
  have HR := Aside0.mk hr
  have hlen := hr.ok.hi
  clear hr
  go_enter Try.func27, Try.ntmps27
  go_wp2_with (first | (go_at_call 122; (with_reducible refine (spec_l01Ok_ok _ _ l _ (by repeat (first | exact HR.out | (with_reducible refine CamR.drewN ?_ _) | (with_reducible refine CamR.alloc ?_ _)))).mono ?_); rintro e_ w_ ⟨rfl, ⟨nd, rfl⟩⟩) | ((with_reducible refine gate_dst (N := 18) rfl ?_); refine Kd.R_lit (Kd.int .i16) _ 51 ?hg (N := 18) ?hd (xs := ([] : List _)) (inner := []) (ok := fun _ => True) (okp := fun _ => True) ?hr ?hp (fun _ hk => hk) trivial (Below.refl _ _) (Nat.le_refl _) (by simp) ?_; (case hd => rfl); (case hg => rfl); (case hr => first | (go_simp; done) | (go_simp; rfl)); (case hp => exact (Reps.none _ _)); intro v1 w1 ho1 hb1 hg_ hnew_; clear hg_ hnew_) | go_in)
  have HO := Aside0.mk (Kd.R_lower ho1 (below_size (by repeat (first | (with_reducible first | exact (Below.refl w.heap.size w) | apply below_alloc | apply pw_below_drewN | apply below_drew1) | exact (Below.refl w.heap.size w)))))
  have HB := Aside0.mk (below_step (by repeat (first | (with_reducible first | exact (Below.refl w.heap.size w) | apply below_alloc | apply pw_below_drewN | apply below_drew1) | exact (Below.refl w.heap.size w))) hb1)
  clear ho1 hb1
  go_loopg [6, 7] l.length (fun d v6 v7 w' => ∃ i : Nat, v7 = .int .i64 i ∧ Aside0 (i ≤ l.length) ∧ Aside0 (d = l.length - i) ∧ Aside0 (Kd.R (Kd.int .i16) 51 w' w.heap.size (fun _ => True) v6 (mapN i (lagAt l r))) ∧ Aside0 (Below w.heap.size w w'))
  case atStart => exact ⟨0, rfl, ⟨by omega⟩, ⟨by omega⟩, HO, HB⟩
  case round =>
    clear HO HB
    obtain ⟨i, rfl, h1, h2, HO, HB⟩ := hrel
    by_cases hi : i < l.length
    · have HI := Aside0.mk hi
      have hb : decide (i < l.length) = true := decide_eq_true hi
      go_wp2_with (go_at_call 133; (with_reducible refine (spec_l01At_c _ _ l _ _ (by repeat (first | exact (CamR.mv HR.out HB.out) | (with_reducible refine CamR.drewN ?_ _) | (with_reducible refine CamR.alloc ?_ _))) (by omega)).mono ?_); rintro e_ w_ ⟨rfl, ⟨nd, rfl⟩⟩)
      go_loopg [8, 9] (l.length - 1) (fun d v8 v9 w' => ∃ j : Nat, v9 = .int .i64 j ∧ v8 = .int .i64 (lagU l r i j) ∧ Aside0 (1 ≤ j ∧ j ≤ l.length) ∧ Aside0 (d = l.length - j) ∧ Aside0 (Drawn0 wr w'))
      case atStart => exact ⟨1, rfl, by rw [lagU_one], ⟨by have := HI.out; omega⟩, ⟨by omega⟩, ⟨(by first | exact Drawn0.refl _ | exact ⟨⟨_, rfl⟩⟩ | exact ⟨⟨_, World.drewN_drewN _ _ _⟩⟩ | (refine ⟨⟨_, ?_⟩⟩; simp only [World.drewN_drewN]; rfl))⟩⟩
      case round =>
        obtain ⟨j, rfl, rfl, h5, h6, h7⟩ := hrel
        obtain ⟨n, rfl⟩ := h7.out.out
        by_cases hj : j < l.length
        · have hb : decide (j < l.length) = true := decide_eq_true hj
          have b1 := lagU_ge l r i j
          have b2 := HR.out.ok.lift _ (at_mem HR.out.ok.pos i)
          have b3 := lagU_le l r i j 10000 (fun x hx => (HR.out.ok.lift x hx).2) HR.out.ok.pos (by omega)
          have b4 := HR.out.ok.lift _ (at_mem HR.out.ok.pos (i - j))
          have b5 : 0 ≤ r * j ∧ r * j ≤ 3600000 := ⟨Int.mul_nonneg (by omega) (by omega), by have := Int.mul_le_mul h1'.2 (show (j : Int) ≤ 360 by omega) (by omega) (by omega); omega⟩
          go_wp2_with (first | (go_at_call 133; (with_reducible refine (spec_l01At_c _ _ l _ _ (by repeat (first | exact (CamR.mv HR.out HB.out) | (with_reducible refine CamR.drewN ?_ _) | (with_reducible refine CamR.alloc ?_ _))) (by omega)).mono ?_); rintro e_ w_ ⟨rfl, ⟨nd, rfl⟩⟩) | (go_at_call 124; (with_reducible refine (spec_l00Max_c _ _ _).mono ?_); rintro e_ w_ ⟨rfl, ⟨nd, rfl⟩⟩))
          go_roundg (l.length - (j + 1))
          case measure => have := h6.out; omega
          case rel => exact ⟨j + 1, by simp, rfl, ⟨by omega⟩, ⟨rfl⟩, ⟨(by first | exact Drawn0.refl _ | exact ⟨⟨_, rfl⟩⟩ | exact ⟨⟨_, World.drewN_drewN _ _ _⟩⟩ | (refine ⟨⟨_, ?_⟩⟩; simp only [World.drewN_drewN]; rfl))⟩⟩
        · have hge : l.length ≤ j := by omega
          have hin : j = l.length := by have := h5.out; omega
          subst hin
          have b6 : 0 ≤ lagU l r i l.length ∧ lagU l r i l.length ≤ 10000 := lag_le HR.out.ok h1'.1 i
          go_wp2_with ((with_reducible refine gate_builtin (b := .append) (xs := #[.tmp 45, .tmp 48]) rfl ?_); at_builtin; refine Kd.R_append (Kd.int .i16) (w0 := w) w.heap.size rfl (.tmp 45) (.tmp 48) 29 51 (.int .i16 0) 2 rfl Try.underlying29 info_i16 rfl (by decide) (by omega) u6 (mapN i (lagAt l r)) (lagU l r i l.length) [.int .i16 (lagU l r i l.length)] (fun _ => True) (fun _ => False) rfl rfl ?aP (fun _ hk => hk.elim) ?aF ?aO ?aB ?aS ?aL ?_; (case aP => exact rfl); (case aB => exact (by repeat (first | (with_reducible first | exact HB.out | apply below_alloc | apply pw_below_drewN | apply below_drew1) | exact HB.out))); (case aF => exact (fun _ _ => trivial)); (case aO => exact (by (with_reducible repeat (first | apply Kd.R_alloc | apply Kd.R_drewN | apply Kd.R_drew)); exact HO.out)); (case aS => exact (below_size (by repeat (first | (with_reducible first | exact HB.out | apply below_alloc | apply pw_below_drewN | apply below_drew1) | exact HB.out)))); (case aL => (have := HI.out; rw [mapN_length]; omega)); intro v2 w2 ho2 hb2 hg_ hat_; clear hg_ hat_)
          have ho3 : Kd.R (Kd.int .i16) 51 w2 w.heap.size (fun _ => True) v2 (mapN (i + 1) (lagAt l r)) := by rw [mapN_succ]; exact ho2
          go_roundg (l.length - (i + 1))
          case measure => have := h2.out; have := HI.out; omega
          case rel => exact ⟨i + 1, by simp, ⟨by have := HI.out; omega⟩, ⟨rfl⟩, ⟨ho3⟩, ⟨hb2⟩⟩
    · have hge : l.length ≤ i := by omega
      have hin : i = l.length := by have := h1.out; omega
      subst hin
      go_wp2
      go_ret2
      exact ⟨_, rfl, HO.out, HB.out⟩
end Go.Proofs.Ytpjibhedpieafaa.H
