/- Walks: feet, continued: what is missed, the widest one. -/
import Derived.Test.YtpjibhedpieafaaSpec3
namespace Go.Proofs.Ytpjibhedpieafaa.H
open Go.RowKit Go.Proofs.YtpjibhedpieafaaW.PrintWords Go.Proofs.YtpjibhedpieafaaW.PrintLast Go.Proofs.YtpjibhedpieafaaW.PrintMore Go.Proofs.Ytpjibhedpieafaa.M
attribute [local go_sem] max2_int min2_int max_two min_two max_three min_three max_four min_four

set_option maxHeartbeats 1000000 in
set_option maxRecDepth 100000 in
theorem spec_l03Reached_c (A : Option Addr) (c : Nat) (l : List Int) (f : Int) (w : World) (hr : CamR w A c l) (hf : 0 ≤ f ∧ f ≤ 100) :
    Calls Try.prog 140 #[.slice A l.length c, .int .i64 f] w fun e w' => ∃ v : Value, e = .returned v ∧ Kd.R (Kd.int .i16) 51 w' w.heap.size (fun _ => True) v (reachedL l f) ∧ Below w.heap.size w w' := by
  have HR := Aside0.mk hr
  clear hr
  go_enter Try.func140, Try.ntmps140
  go_wp2_with (first | (go_at_call 138; (with_reducible refine (spec_l03Foot_true _ _ l f _ (by repeat (first | exact HR.out | (with_reducible refine CamR.drewN ?_ _) | (with_reducible refine CamR.alloc ?_ _))) hf).mono ?_); rintro e_ w_ ⟨v, rfl, ho, hb⟩; (obtain ⟨A2, c2, rfl, hR2⟩ := R_cam ho (footL_ok HR.out.ok f)); have HB := Aside0.mk (below_step (by repeat (first | (with_reducible first | exact (Below.refl w.heap.size w) | apply below_alloc | apply pw_below_drewN | apply below_drew1) | exact (Below.refl w.heap.size w))) hb); clear ho hb) | (go_at_call 138; (with_reducible refine (spec_l03Foot_false _ _ (footL true l f) f _ (by repeat (first | exact hR2 | (with_reducible refine CamR.drewN ?_ _) | (with_reducible refine CamR.alloc ?_ _))) hf).mono ?_); rintro e_ w_ ⟨v, rfl, ho, hb⟩))
  go_ret
  exact ⟨_, rfl, Kd.R_lower ho (below_size (by repeat (first | (with_reducible first | exact HB.out | apply below_alloc | apply pw_below_drewN | apply below_drew1) | exact HB.out))), below_step (by repeat (first | (with_reducible first | exact HB.out | apply below_alloc | apply pw_below_drewN | apply below_drew1) | exact HB.out)) hb⟩

set_option maxHeartbeats 1000000 in
set_option maxRecDepth 100000 in
theorem spec_l03Footed_c (A : Option Addr) (c : Nat) (l : List Int) (f : Int) (w : World) (hr : CamR w A c l) (hf : 0 ≤ f ∧ f ≤ 40) :
    Calls Try.prog 137 #[.slice A l.length c, .int .i64 f] w fun e w' => e = .returned (.int .i64 0) ∧ Drawn0 w w' := by
  have HR := Aside0.mk hr
  clear hr
  go_enter Try.func137, Try.ntmps137
  go_wp2_with (first | (go_at_call 122; (with_reducible refine (spec_l01Ok_ok _ _ l _ (by repeat (first | exact HR.out | (with_reducible refine CamR.drewN ?_ _) | (with_reducible refine CamR.alloc ?_ _)))).mono ?_); rintro e_ w_ ⟨rfl, ⟨nd, rfl⟩⟩) | go_in)
  go_ret
  exact ⟨rfl, (by first | exact Drawn0.refl _ | exact ⟨⟨_, rfl⟩⟩ | exact ⟨⟨_, World.drewN_drewN _ _ _⟩⟩ | (refine ⟨⟨_, ?_⟩⟩; simp only [World.drewN_drewN]; rfl))⟩
set_option maxHeartbeats 1000000 in
set_option maxRecDepth 100000 in
theorem spec_FootCam_ok (A : Option Addr) (c : Nat) (l : List Int) (f : Int) (w : World) (hr : CamR w A c l) (hf : 0 ≤ f ∧ f ≤ 40) :
    Calls Try.prog 29 #[.slice A l.length c, .int .i64 f] w fun e w' => ∃ v : Value, e = .returned (.tuple #[v, .int .i64 0]) ∧ Kd.R (Kd.int .i16) 51 w' w.heap.size (fun _ => True) v (footL true l f) ∧ Below w.heap.size w w' := by
  have HR := Aside0.mk hr
  clear hr
  go_enter Try.func29, Try.ntmps29
  go_wp2_with (first | (go_at_call 137; (with_reducible refine (spec_l03Footed_c _ _ l f _ (by repeat (first | exact HR.out | (with_reducible refine CamR.drewN ?_ _) | (with_reducible refine CamR.alloc ?_ _))) hf).mono ?_); rintro e_ w_ ⟨rfl, ⟨nd, rfl⟩⟩) | (go_at_call 138; (with_reducible refine (spec_l03Foot_true _ _ l f _ (by repeat (first | exact HR.out | (with_reducible refine CamR.drewN ?_ _) | (with_reducible refine CamR.alloc ?_ _))) (by omega)).mono ?_); rintro e_ w_ ⟨v, rfl, ho, hb⟩))
  go_ret2
  exact ⟨_, rfl, Kd.R_lower ho (below_size (by repeat (first | (with_reducible first | exact (Below.refl w.heap.size w) | apply below_alloc | apply pw_below_drewN | apply below_drew1) | exact (Below.refl w.heap.size w)))), below_step (by repeat (first | (with_reducible first | exact (Below.refl w.heap.size w) | apply below_alloc | apply pw_below_drewN | apply below_drew1) | exact (Below.refl w.heap.size w))) hb⟩

set_option maxHeartbeats 1000000 in
set_option maxRecDepth 100000 in
theorem spec_ReachedCam_ok (A : Option Addr) (c : Nat) (l : List Int) (f : Int) (w : World) (hr : CamR w A c l) (hf : 0 ≤ f ∧ f ≤ 40) :
    Calls Try.prog 31 #[.slice A l.length c, .int .i64 f] w fun e w' => ∃ v : Value, e = .returned (.tuple #[v, .int .i64 0]) ∧ Kd.R (Kd.int .i16) 51 w' w.heap.size (fun _ => True) v (reachedL l f) ∧ Below w.heap.size w w' := by
  have HR := Aside0.mk hr
  clear hr
  go_enter Try.func31, Try.ntmps31
  go_wp2_with (first | (go_at_call 137; (with_reducible refine (spec_l03Footed_c _ _ l f _ (by repeat (first | exact HR.out | (with_reducible refine CamR.drewN ?_ _) | (with_reducible refine CamR.alloc ?_ _))) hf).mono ?_); rintro e_ w_ ⟨rfl, ⟨nd, rfl⟩⟩) | (go_at_call 140; (with_reducible refine (spec_l03Reached_c _ _ l f _ (by repeat (first | exact HR.out | (with_reducible refine CamR.drewN ?_ _) | (with_reducible refine CamR.alloc ?_ _))) (by omega)).mono ?_); rintro e_ w_ ⟨v, rfl, ho, hb⟩))
  go_ret2
  exact ⟨_, rfl, Kd.R_lower ho (below_size (by repeat (first | (with_reducible first | exact (Below.refl w.heap.size w) | apply below_alloc | apply pw_below_drewN | apply below_drew1) | exact (Below.refl w.heap.size w)))), below_step (by repeat (first | (with_reducible first | exact (Below.refl w.heap.size w) | apply below_alloc | apply pw_below_drewN | apply below_drew1) | exact (Below.refl w.heap.size w))) hb⟩

set_option maxHeartbeats 1000000 in
set_option maxRecDepth 100000 in
theorem impl_MissedSteps_ok (A : Option Addr) (c : Nat) (l : List Int) (f : Int) (w : World) (hr : CamR w A c l) (hf : 0 ≤ f ∧ f ≤ 40) :
    Calls Try.prog 32 #[.slice A l.length c, .int .i64 f] w fun e w' => ∃ v : Value, e = .returned (.tuple #[v, .int .i64 0]) ∧ Kd.R (Kd.int .i64) 2 w' w.heap.size (fun _ => True) v (missedL l f) ∧ Below w.heap.size w w' := by
  have HR := Aside0.mk hr
  have hlen := hr.ok.hi
  have HLN := Aside0.mk (reachedL_length l f)
  have HRO := Aside0.mk (reachedL_ok hr.ok f)
  clear hr
  go_enter Try.func32, Try.ntmps32
  go_wp2_with (first | (go_at_call 118; (with_reducible refine (impl_ValidCam_ok _ _ l _ (by repeat (first | exact HR.out | (with_reducible refine CamR.drewN ?_ _) | (with_reducible refine CamR.alloc ?_ _)))).mono ?_); rintro e_ w_ ⟨rfl, ⟨nd, rfl⟩⟩) | ((with_reducible refine gate_dst (N := 16) rfl ?_); refine Kd.R_lit (Kd.int .i64) _ 2 ?hg (N := 16) ?hd (xs := ([] : List _)) (inner := []) (ok := fun _ => True) (okp := fun _ => True) ?hr ?hp (fun _ hk => hk) trivial (Below.refl _ _) (Nat.le_refl _) (by simp) ?_; (case hd => rfl); (case hg => rfl); (case hr => first | (go_simp; done) | (go_simp; rfl)); (case hp => exact (Reps.none _ _)); intro v1 w1 ho1 hb1 hg_ hnew_; clear hg_ hnew_; have HB := Aside0.mk (below_step (by repeat (first | (with_reducible first | exact (Below.refl w.heap.size w) | apply below_alloc | apply pw_below_drewN | apply below_drew1) | exact (Below.refl w.heap.size w))) hb1); have HO := Aside0.mk (Kd.R_lower ho1 (below_size (by repeat (first | (with_reducible first | exact (Below.refl w.heap.size w) | apply below_alloc | apply pw_below_drewN | apply below_drew1) | exact (Below.refl w.heap.size w))))); clear ho1 hb1)
                       | (go_at_call 139; (with_reducible refine (impl_reached_c _ _ l f _ (by repeat (first | exact (CamR.mv HR.out HB.out) | (with_reducible refine CamR.drewN ?_ _) | (with_reducible refine CamR.alloc ?_ _))) (by omega)).mono ?_); rintro e_ w_ ⟨v, rfl, ho, hb⟩; (obtain ⟨A2, c2, rfl, hc2, hC2⟩ := R_open ho); have HC := Aside0.mk (Kd.R_lower ho (below_size HB.out)); have n0_ := Aside0.mk (Kd.R_below HO.out hb); have n1_ := Aside0.mk (below_step HB.out hb); clear HO HB; have HO := n0_; have HB := n1_; clear ho hb hC2 n0_ n1_) | go_in)
  go_loopg [7, 21] l.length (fun d v7 v21 w' => ∃ i : Nat, v21 = .int .i64 i ∧ Aside0 (i ≤ l.length) ∧ Aside0 (d = l.length - i) ∧ Aside0 (Kd.R (Kd.int .i64) 2 w' w.heap.size (fun _ => True) v7 (filtN i (missed l f))) ∧ Aside0 (Below w.heap.size w w') ∧ Aside0 (Kd.R (Kd.int .i16) 51 w' w.heap.size (fun _ => True) (.slice A2 (reachedL l f).length c2) (reachedL l f)))
  case atStart => exact ⟨0, rfl, ⟨by omega⟩, ⟨by omega⟩, HO, HB, HC⟩
  case round =>
    clear HO HB HC
    obtain ⟨i, rfl, h1, h2, HO, HB, HC⟩ := hrel
    by_cases hi : i < l.length
    · have HI := Aside0.mk hi
      have hi2 : i < (reachedL l f).length := by rw [HLN.out]; exact hi
      have hb : decide (i < (reachedL l f).length) = true := decide_eq_true hi2
      have hb' : decide (i < l.length) = true := decide_eq_true hi
      obtain ⟨ad, e, hx⟩ := Kd.at_int (Kd.R_reads' HC.out).2.2 (i : Int) (by omega) (by omega)
      cases e
      obtain ⟨ad2, e, hx2⟩ := Kd.at_int (CamR.mv HR.out HB.out).rd (i : Int) (by omega) (by omega)
      cases e
      have e1 := rd_get (reachedL l f) i hi2
      have e2 := rd_get l i hi
      rw [← at_nat hi2] at e1
      rw [← at_nat hi] at e2
      rw [Int.toNat_natCast, e1] at hx
      rw [Int.toNat_natCast, e2] at hx2
      clear e1 e2
      by_cases hm : at_ (reachedL l f) i = at_ l i
      · have hm1 : (at_ (reachedL l f) i == at_ l i) = true := beq_iff_eq.mpr hm
        have hm2 : (at_ (reachedL l f) i != at_ l i) = false := bne_eq_false_iff_eq.mpr hm
        have HM := Aside0.mk (show missed l f i = false by simp [missed, hm])
        clear hm
        go_wp2
        skip
        go_roundg (l.length - (i + 1))
        case measure => have := h2.out; have := HI.out; omega
        case rel => exact ⟨i + 1, by simp, ⟨by have := HI.out; omega⟩, ⟨rfl⟩, ⟨by rw [filtN_succ_f HM.out]; exact HO.out⟩, ⟨HB.out⟩, ⟨HC.out⟩⟩
      · have hm2 : (at_ (reachedL l f) i != at_ l i) = true := bne_iff_ne.mpr hm
        have HM := Aside0.mk (show missed l f i = true by simp [missed, hm])
        clear hm
        go_wp2_with ((with_reducible refine gate_builtin (b := .append) (xs := #[.tmp 32, .tmp 34]) rfl ?_); at_builtin; refine Kd.R_append (Kd.int .i64) (w0 := w) w.heap.size rfl (.tmp 32) (.tmp 34) 47 2 (.int .i64 0) 8 rfl Try.underlying47 info_i64 rfl (by decide) (by omega) u7 (filtN i (missed l f)) (i : Int) [.int .i64 (i : Int)] (fun _ => True) (fun _ => False) rfl rfl ?aP (fun _ hk => hk.elim) ?aF ?aO ?aB ?aS ?aL ?_; (case aP => exact rfl); (case aB => exact (by repeat (first | (with_reducible first | exact HB.out | apply below_alloc | apply pw_below_drewN | apply below_drew1) | exact HB.out))); (case aF => exact (fun _ _ => trivial)); (case aO => exact (by (with_reducible repeat (first | apply Kd.R_alloc | apply Kd.R_drewN | apply Kd.R_drew)); exact HO.out)); (case aS => exact (below_size (by repeat (first | (with_reducible first | exact HB.out | apply below_alloc | apply pw_below_drewN | apply below_drew1) | exact HB.out)))); (case aL => (have := HI.out; have := filtN_le i (missed l f); omega)); intro v2 w2 ho2 hb2 hg_ hat_; have HC2 : Kd.R (Kd.int .i16) 51 w2 w.heap.size (fun _ => True) (.slice (some ad) (reachedL l f).length c2) (reachedL l f) := Kd.R_over (d' := (Kd.int .i64)) (by (with_reducible repeat (first | apply Kd.R_alloc | apply Kd.R_drewN | apply Kd.R_drew)); exact HC.out) (by (with_reducible repeat (first | apply Kd.R_alloc | apply Kd.R_drewN | apply Kd.R_drew)); exact HO.out) (by decide) hg_; clear hg_ hat_)
        skip
        rw [← filtN_succ_t HM.out] at ho2
        go_roundg (l.length - (i + 1))
        case measure => have := h2.out; have := HI.out; omega
        case rel => exact ⟨i + 1, by simp, ⟨by have := HI.out; omega⟩, ⟨rfl⟩, ⟨ho2⟩, ⟨hb2⟩, ⟨HC2⟩⟩
    · have hge : l.length ≤ i := by omega
      have hge2 : (reachedL l f).length ≤ i := by rw [HLN.out]; exact hge
      have hin : i = l.length := by have := h1.out; omega
      subst hin
      go_wp2
      go_ret2
      exact ⟨_, rfl, HO.out, HB.out⟩

set_option maxHeartbeats 1000000 in
set_option maxRecDepth 100000 in
theorem spec_MissedSteps_ok (A : Option Addr) (c : Nat) (l : List Int) (f : Int) (w : World) (hr : CamR w A c l) (hf : 0 ≤ f ∧ f ≤ 40) :
    Calls Try.prog 33 #[.slice A l.length c, .int .i64 f] w fun e w' => ∃ v : Value, e = .returned (.tuple #[v, .int .i64 0]) ∧ Kd.R (Kd.int .i64) 2 w' w.heap.size (fun _ => True) v (missedL l f) ∧ Below w.heap.size w w' := by
  have HR := Aside0.mk hr
  have hlen := hr.ok.hi
  have HLN := Aside0.mk (reachedL_length l f)
  have HRO := Aside0.mk (reachedL_ok hr.ok f)
  clear hr
  go_enter Try.func33, Try.ntmps33
  go_wp2_with (first | (go_at_call 137; (with_reducible refine (spec_l03Footed_c _ _ l f _ (by repeat (first | exact HR.out | (with_reducible refine CamR.drewN ?_ _) | (with_reducible refine CamR.alloc ?_ _))) hf).mono ?_); rintro e_ w_ ⟨rfl, ⟨nd, rfl⟩⟩)
                       | (go_at_call 140; (with_reducible refine (spec_l03Reached_c _ _ l f _ (by repeat (first | exact HR.out | (with_reducible refine CamR.drewN ?_ _) | (with_reducible refine CamR.alloc ?_ _))) (by omega)).mono ?_); rintro e_ w_ ⟨v, rfl, ho, hb⟩; (obtain ⟨A2, c2, rfl, hc2, hC2⟩ := R_open ho); have HC0 := Aside0.mk (Kd.R_lower ho (below_size (by repeat (first | (with_reducible first | exact (Below.refl w.heap.size w) | apply below_alloc | apply pw_below_drewN | apply below_drew1) | exact (Below.refl w.heap.size w))))); have HB0 := Aside0.mk (below_step (by repeat (first | (with_reducible first | exact (Below.refl w.heap.size w) | apply below_alloc | apply pw_below_drewN | apply below_drew1) | exact (Below.refl w.heap.size w))) hb); clear ho hb hC2)
                       | ((with_reducible refine gate_dst (N := 20) rfl ?_); refine Kd.R_lit (Kd.int .i64) _ 2 ?hg (N := 20) ?hd (xs := ([] : List _)) (inner := []) (ok := fun _ => True) (okp := fun _ => True) ?hr ?hp (fun _ hk => hk) trivial (Below.refl _ _) (Nat.le_refl _) (by simp) ?_; (case hd => rfl); (case hg => rfl); (case hr => first | (go_simp; done) | (go_simp; rfl)); (case hp => exact (Reps.none _ _)); intro v1 w1 ho1 hb1 hg_ hnew_; clear hg_ hnew_; have HB := Aside0.mk (below_step HB0.out hb1); have HO := Aside0.mk (Kd.R_lower ho1 (below_size HB0.out)); have HC := Aside0.mk (Kd.R_below HC0.out hb1); clear ho1 hb1 HC0 HB0))
  go_loopg [8, 9] l.length (fun d v8 v9 w' => ∃ i : Nat, v9 = .int .i64 i ∧ Aside0 (i ≤ l.length) ∧ Aside0 (d = l.length - i) ∧ Aside0 (Kd.R (Kd.int .i64) 2 w' w.heap.size (fun _ => True) v8 (filtN i (missed l f))) ∧ Aside0 (Below w.heap.size w w') ∧ Aside0 (Kd.R (Kd.int .i16) 51 w' w.heap.size (fun _ => True) (.slice A2 (reachedL l f).length c2) (reachedL l f)))
  case atStart => exact ⟨0, rfl, ⟨by omega⟩, ⟨by omega⟩, HO, HB, HC⟩
  case round =>
    clear HO HB HC
    obtain ⟨i, rfl, h1, h2, HO, HB, HC⟩ := hrel
    by_cases hi : i < l.length
    · have HI := Aside0.mk hi
      have hi2 : i < (reachedL l f).length := by rw [HLN.out]; exact hi
      have hb : decide (i < (reachedL l f).length) = true := decide_eq_true hi2
      have hb' : decide (i < l.length) = true := decide_eq_true hi
      obtain ⟨ad, e, hx⟩ := Kd.at_int (Kd.R_reads' HC.out).2.2 (i : Int) (by omega) (by omega)
      cases e
      obtain ⟨ad2, e, hx2⟩ := Kd.at_int (CamR.mv HR.out HB.out).rd (i : Int) (by omega) (by omega)
      cases e
      have e1 := rd_get (reachedL l f) i hi2
      have e2 := rd_get l i hi
      rw [← at_nat hi2] at e1
      rw [← at_nat hi] at e2
      rw [Int.toNat_natCast, e1] at hx
      rw [Int.toNat_natCast, e2] at hx2
      clear e1 e2
      by_cases hm : at_ (reachedL l f) i = at_ l i
      · have hm1 : (at_ (reachedL l f) i == at_ l i) = true := beq_iff_eq.mpr hm
        have hm2 : (at_ (reachedL l f) i != at_ l i) = false := bne_eq_false_iff_eq.mpr hm
        have HM := Aside0.mk (show missed l f i = false by simp [missed, hm])
        clear hm
        go_wp2
        repeat (go_quiet (fail); try go_wp2)
        go_roundg (l.length - (i + 1))
        case measure => have := h2.out; have := HI.out; omega
        case rel => exact ⟨i + 1, by simp, ⟨by have := HI.out; omega⟩, ⟨rfl⟩, ⟨by rw [filtN_succ_f HM.out]; exact Kd.R_drewN HO.out _⟩, ⟨pw_below_drewN HB.out _⟩, ⟨Kd.R_drewN HC.out _⟩⟩
      · have hm2 : (at_ (reachedL l f) i != at_ l i) = true := bne_iff_ne.mpr hm
        have HM := Aside0.mk (show missed l f i = true by simp [missed, hm])
        clear hm
        go_wp2_with (fail)
        repeat (go_quiet (fail); try go_wp2_with ((with_reducible refine gate_builtin (b := .append) (xs := #[.tmp 36, .tmp 38]) rfl ?_); at_builtin; refine Kd.R_append (Kd.int .i64) (w0 := w) w.heap.size rfl (.tmp 36) (.tmp 38) 47 2 (.int .i64 0) 8 rfl Try.underlying47 info_i64 rfl (by decide) (by omega) u8 (filtN i (missed l f)) (i : Int) [.int .i64 (i : Int)] (fun _ => True) (fun _ => False) rfl rfl ?aP (fun _ hk => hk.elim) ?aF ?aO ?aB ?aS ?aL ?_; (case aP => exact rfl); (case aB => exact (by repeat (first | (with_reducible first | exact HB.out | apply below_alloc | apply pw_below_drewN | apply below_drew1) | exact HB.out))); (case aF => exact (fun _ _ => trivial)); (case aO => exact (by (with_reducible repeat (first | apply Kd.R_alloc | apply Kd.R_drewN | apply Kd.R_drew)); exact HO.out)); (case aS => exact (below_size (by repeat (first | (with_reducible first | exact HB.out | apply below_alloc | apply pw_below_drewN | apply below_drew1) | exact HB.out)))); (case aL => (have := HI.out; have := filtN_le i (missed l f); omega)); intro v2 w2 ho2 hb2 hg_ hat_; have HC2 : Kd.R (Kd.int .i16) 51 w2 w.heap.size (fun _ => True) (.slice (some ad) (reachedL l f).length c2) (reachedL l f) := Kd.R_over (d' := (Kd.int .i64)) (by (with_reducible repeat (first | apply Kd.R_alloc | apply Kd.R_drewN | apply Kd.R_drew)); exact HC.out) (by (with_reducible repeat (first | apply Kd.R_alloc | apply Kd.R_drewN | apply Kd.R_drew)); exact HO.out) (by decide) hg_; clear hg_ hat_))
        rw [← filtN_succ_t HM.out] at ho2
        go_roundg (l.length - (i + 1))
        case measure => have := h2.out; have := HI.out; omega
        case rel => exact ⟨i + 1, by simp, ⟨by have := HI.out; omega⟩, ⟨rfl⟩, ⟨ho2⟩, ⟨hb2⟩, ⟨HC2⟩⟩
    · have hge : l.length ≤ i := by omega
      have hge2 : (reachedL l f).length ≤ i := by rw [HLN.out]; exact hge
      have hin : i = l.length := by have := h1.out; omega
      subst hin
      go_wp2
      go_ret2
      exact ⟨_, rfl, HO.out, HB.out⟩

set_option maxHeartbeats 1000000 in
set_option maxRecDepth 100000 in
theorem impl_WidestFoot_ok (A : Option Addr) (c : Nat) (l : List Int) (w : World) (hr : CamR w A c l) :
    Calls Try.prog 35 #[.slice A l.length c] w fun e w' => e = .returned (.tuple #[.int .i64 (widest l), .int .i64 0]) ∧ Below w.heap.size w w' := by
  have HR := Aside0.mk hr
  clear hr
  go_enter Try.func35, Try.ntmps35
  go_wp2_with (first | (go_at_call 118; (with_reducible refine (impl_ValidCam_ok _ _ l _ (by repeat (first | exact HR.out | (with_reducible refine CamR.drewN ?_ _) | (with_reducible refine CamR.alloc ?_ _)))).mono ?_); rintro e_ w_ ⟨rfl, ⟨nd, rfl⟩⟩))
  go_loopg [4] 40 (fun d v4 w' => ∃ f : Int, v4 = .int .i64 f ∧ Aside0 (0 ≤ f ∧ f ≤ 40) ∧ Aside0 ((d : Int) = 40 - f) ∧ Aside0 (widF l (40 - f).toNat f = widest l) ∧ Aside0 (Below w.heap.size w w'))
  case atStart => exact ⟨0, rfl, ⟨by omega⟩, ⟨by omega⟩, ⟨rfl⟩, ⟨(by repeat (first | (with_reducible first | exact (Below.refl w.heap.size w) | apply below_alloc | apply pw_below_drewN | apply below_drew1) | exact (Below.refl w.heap.size w)))⟩⟩
  case round =>
    obtain ⟨f, rfl, h1, h2, h3, HB⟩ := hrel
    have hf := h1.out
    by_cases hi : f < 40
    · have hb : decide (f < 40) = true := decide_eq_true hi
      have hw := h3.out
      rw [show (40 - f).toNat = (40 - (f + 1)).toNat + 1 by omega] at hw
      simp only [widF] at hw
      by_cases he : reachedL l (f + 1) = l
      · rw [if_pos he] at hw
        have hd : decide (reachedL l (f + 1) = l) = true := decide_eq_true he
        have HW := Aside0.mk hw
        clear hw he
        go_wp2_with (first | (go_at_call 139; (with_reducible refine (impl_reached_c _ _ l (f + 1) _ (by repeat (first | exact (CamR.mv HR.out HB.out) | (with_reducible refine CamR.drewN ?_ _) | (with_reducible refine CamR.alloc ?_ _))) (by omega)).mono ?_); rintro e_ w_ ⟨v, rfl, ho, hb⟩; (obtain ⟨A2, c2, rfl, hR2⟩ := R_cam ho (reachedL_ok HR.out.ok (f + 1))); have HR2 := Aside0.mk hR2; have HB2 := Aside0.mk (below_step HB.out hb); clear ho hb hR2) | (go_at_call 142; (with_reducible refine (slices_Equal_c _ _ _ _ (reachedL l (f + 1)) l _ HR2.out.rd (CamR.mv HR.out HB2.out).rd (by have := HR2.out.ok.hi; omega) (by have := HR.out.ok.hi; omega)).mono ?_); rintro e_ w_ ⟨rfl, ⟨nd, rfl⟩⟩))
        go_roundg (40 - (f + 1)).toNat
        case measure => have := h2.out; omega
        case rel => exact ⟨f + 1, rfl, ⟨by omega⟩, ⟨by omega⟩, HW, ⟨pw_below_drewN HB2.out _⟩⟩
      · rw [if_neg he] at hw
        have hd : decide (reachedL l (f + 1) = l) = false := decide_eq_false he
        have HW := Aside0.mk hw
        clear hw he
        go_wp2_with (first | (go_at_call 139; (with_reducible refine (impl_reached_c _ _ l (f + 1) _ (by repeat (first | exact (CamR.mv HR.out HB.out) | (with_reducible refine CamR.drewN ?_ _) | (with_reducible refine CamR.alloc ?_ _))) (by omega)).mono ?_); rintro e_ w_ ⟨v, rfl, ho, hb⟩; (obtain ⟨A2, c2, rfl, hR2⟩ := R_cam ho (reachedL_ok HR.out.ok (f + 1))); have HR2 := Aside0.mk hR2; have HB2 := Aside0.mk (below_step HB.out hb); clear ho hb hR2) | (go_at_call 142; (with_reducible refine (slices_Equal_c _ _ _ _ (reachedL l (f + 1)) l _ HR2.out.rd (CamR.mv HR.out HB2.out).rd (by have := HR2.out.ok.hi; omega) (by have := HR.out.ok.hi; omega)).mono ?_); rintro e_ w_ ⟨rfl, ⟨nd, rfl⟩⟩))
        go_ret2
        exact ⟨ret_int2 HW.out, pw_below_drewN HB2.out _⟩
    · have hb : decide (f < 40) = false := decide_eq_false hi
      have hw := h3.out
      rw [show (40 - f).toNat = 0 by omega] at hw
      have HW := Aside0.mk hw
      clear hw
      go_wp2
      go_ret2
      exact ⟨ret_int2 HW.out, HB.out⟩

set_option maxHeartbeats 1000000 in
set_option maxRecDepth 100000 in
theorem spec_WidestFoot_ok (A : Option Addr) (c : Nat) (l : List Int) (w : World) (hr : CamR w A c l) :
    Calls Try.prog 36 #[.slice A l.length c] w fun e w' => e = .returned (.tuple #[.int .i64 (widest l), .int .i64 0]) ∧ Below w.heap.size w w' := by
  have HR := Aside0.mk hr
  clear hr
  go_enter Try.func36, Try.ntmps36
  go_wp2_with (first | (go_at_call 122; (with_reducible refine (spec_l01Ok_ok _ _ l _ (by repeat (first | exact HR.out | (with_reducible refine CamR.drewN ?_ _) | (with_reducible refine CamR.alloc ?_ _)))).mono ?_); rintro e_ w_ ⟨rfl, ⟨nd, rfl⟩⟩))
  go_loopg [4] 40 (fun d v4 w' => ∃ f : Int, v4 = .int .i64 f ∧ Aside0 (0 ≤ f ∧ f ≤ 40) ∧ Aside0 ((d : Int) = 40 - f) ∧ Aside0 (widF l (40 - f).toNat f = widest l) ∧ Aside0 (Below w.heap.size w w'))
  case atStart => exact ⟨0, rfl, ⟨by omega⟩, ⟨by omega⟩, ⟨rfl⟩, ⟨(by repeat (first | (with_reducible first | exact (Below.refl w.heap.size w) | apply below_alloc | apply pw_below_drewN | apply below_drew1) | exact (Below.refl w.heap.size w)))⟩⟩
  case round =>
    obtain ⟨f, rfl, h1, h2, h3, HB⟩ := hrel
    have hf := h1.out
    by_cases hi : f < 40
    · have hb : decide (f < 40) = true := decide_eq_true hi
      have hw := h3.out
      rw [show (40 - f).toNat = (40 - (f + 1)).toNat + 1 by omega] at hw
      simp only [widF] at hw
      by_cases he : reachedL l (f + 1) = l
      · rw [if_pos he] at hw
        have hd : decide (reachedL l (f + 1) = l) = true := decide_eq_true he
        have HW := Aside0.mk hw
        clear hw he
        go_wp2_with (first | (go_at_call 140; (with_reducible refine (spec_l03Reached_c _ _ l (f + 1) _ (by repeat (first | exact (CamR.mv HR.out HB.out) | (with_reducible refine CamR.drewN ?_ _) | (with_reducible refine CamR.alloc ?_ _))) (by omega)).mono ?_); rintro e_ w_ ⟨v, rfl, ho, hb⟩; (obtain ⟨A2, c2, rfl, hR2⟩ := R_cam ho (reachedL_ok HR.out.ok (f + 1))); have HR2 := Aside0.mk hR2; have HB2 := Aside0.mk (below_step HB.out hb); clear ho hb hR2) | (go_at_call 130; (with_reducible refine (spec_l01Same_c _ _ _ _ (reachedL l (f + 1)) l _ HR2.out.rd (CamR.mv HR.out HB2.out).rd (by have := HR2.out.ok.hi; omega) (by have := HR.out.ok.hi; omega)).mono ?_); rintro e_ w_ ⟨rfl, ⟨nd, rfl⟩⟩))
        go_roundg (40 - (f + 1)).toNat
        case measure => have := h2.out; omega
        case rel => exact ⟨f + 1, rfl, ⟨by omega⟩, ⟨by omega⟩, HW, ⟨pw_below_drewN HB2.out _⟩⟩
      · rw [if_neg he] at hw
        have hd : decide (reachedL l (f + 1) = l) = false := decide_eq_false he
        have HW := Aside0.mk hw
        clear hw he
        go_wp2_with (first | (go_at_call 140; (with_reducible refine (spec_l03Reached_c _ _ l (f + 1) _ (by repeat (first | exact (CamR.mv HR.out HB.out) | (with_reducible refine CamR.drewN ?_ _) | (with_reducible refine CamR.alloc ?_ _))) (by omega)).mono ?_); rintro e_ w_ ⟨v, rfl, ho, hb⟩; (obtain ⟨A2, c2, rfl, hR2⟩ := R_cam ho (reachedL_ok HR.out.ok (f + 1))); have HR2 := Aside0.mk hR2; have HB2 := Aside0.mk (below_step HB.out hb); clear ho hb hR2) | (go_at_call 130; (with_reducible refine (spec_l01Same_c _ _ _ _ (reachedL l (f + 1)) l _ HR2.out.rd (CamR.mv HR.out HB2.out).rd (by have := HR2.out.ok.hi; omega) (by have := HR.out.ok.hi; omega)).mono ?_); rintro e_ w_ ⟨rfl, ⟨nd, rfl⟩⟩))
        go_ret2
        exact ⟨ret_int2 HW.out, pw_below_drewN HB2.out _⟩
    · have hb : decide (f < 40) = false := decide_eq_false hi
      have hw := h3.out
      rw [show (40 - f).toNat = 0 by omega] at hw
      have HW := Aside0.mk hw
      clear hw
      go_wp2
      go_ret2
      exact ⟨ret_int2 HW.out, HB.out⟩

end Go.Proofs.Ytpjibhedpieafaa.H
