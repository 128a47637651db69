/- Walks of the reference: feet; equality. -/
import Derived.Test.YtpjibhedpieafaaSpec1
import Derived.Test.YtpjibhedpieafaaFoot
namespace Go.Proofs.Ytpjibhedpieafaa.H
open Go.RowKit Go.Proofs.YtpjibhedpieafaaW.PrintWords Go.Proofs.YtpjibhedpieafaaW.PrintLast Go.Proofs.YtpjibhedpieafaaW.PrintMore Go.Proofs.Ytpjibhedpieafaa.M
attribute [local go_sem] max2_int min2_int max_two min_two max_three min_three max_four min_four

set_option maxHeartbeats 1000000 in
set_option maxRecDepth 100000 in
theorem spec_l01Same_c (A B : Option Addr) (c d : Nat) (l m : List Int) (w : World) (hl : Kd.C (Kd.int .i16) w A l.length l) (hm : Kd.C (Kd.int .i16) w B m.length m) (hn : l.length ≤ 1099511627776) (hn2 : m.length ≤ 1099511627776) :
    Calls Try.prog 130 #[.slice A l.length c, .slice B m.length d] w fun e w' => e = .returned (.bool (decide (l = m))) ∧ Drawn0 w w' := by
  have HL := Aside0.mk hl
  have HM := Aside0.mk hm
  by_cases he : l.length = m.length
  · have hb : (l.length == m.length) = true := beq_iff_eq.mpr he
    have hb2 : (l.length != m.length) = false := bne_eq_false_iff_eq.mpr he
    rw [← he]
    have HE := Aside0.mk he
    clear hl hm he hb hb2
    go_enter Try.func130, Try.ntmps130
    go_wp2
    go_loopg [5] l.length (fun k v5 w' => ∃ j : Nat, v5 = .int .i64 j ∧ Aside0 (j ≤ l.length) ∧ Aside0 (k = l.length - j) ∧ Aside0 (l.take j = m.take j) ∧ Aside0 (Drawn0 w w'))
    case atStart => exact ⟨0, rfl, ⟨by omega⟩, ⟨by omega⟩, ⟨rfl⟩, ⟨(by first | exact Drawn0.refl _ | exact ⟨⟨_, rfl⟩⟩ | exact ⟨⟨_, World.drewN_drewN _ _ _⟩⟩ | (refine ⟨⟨_, ?_⟩⟩; simp only [World.drewN_drewN]; rfl))⟩⟩
    case round =>
      obtain ⟨j, rfl, h1, h2, h3, h4⟩ := hrel
      obtain ⟨n, rfl⟩ := h4.out.out
      by_cases hj : j < l.length
      · have hj2 : j < m.length := by have := HE.out; omega
        have hb : decide (j < l.length) = true := decide_eq_true hj
        obtain ⟨ad, e, hx⟩ := Kd.at_int HL.out (j : Int) (by omega) (by omega)
        cases e
        obtain ⟨ad2, e, hx2⟩ := Kd.at_int HM.out (j : Int) (by omega) (by omega)
        cases e
        have E1 := Aside0.mk (rd_get l j hj)
        have E2 := Aside0.mk (rd_get m j hj2)
        have HJ := Aside0.mk hj
        have HJ2 := Aside0.mk hj2
        rw [Int.toNat_natCast] at hx hx2
        go_wp2
        repeat (go_quiet (fail); try go_wp2)
        · have hne : ¬ rd l j = rd m j := by have : (rd l j != rd m j) = true := by assumption
                                             exact bne_iff_ne.mp this
          go_ret
          refine ⟨ret_bool (decide_eq_false fun h => hne ?_).symm, (by first | exact Drawn0.refl _ | exact ⟨⟨_, rfl⟩⟩ | exact ⟨⟨_, World.drewN_drewN _ _ _⟩⟩ | (refine ⟨⟨_, ?_⟩⟩; simp only [World.drewN_drewN]; rfl))⟩
          rw [h]
        · have heq : rd l j = rd m j := by have : (rd l j != rd m j) = false := by assumption
                                           exact bne_eq_false_iff_eq.mp this
          go_roundg (l.length - (j + 1))
          case measure => have := h2.out; have := HJ.out; omega
          case rel => exact ⟨j + 1, by simp, ⟨by have := HJ.out; omega⟩, ⟨rfl⟩, ⟨by rw [List.take_succ_eq_append_getElem HJ.out, List.take_succ_eq_append_getElem HJ2.out, h3.out, ← E1.out, ← E2.out, heq]⟩, ⟨(by first | exact Drawn0.refl _ | exact ⟨⟨_, rfl⟩⟩ | exact ⟨⟨_, World.drewN_drewN _ _ _⟩⟩ | (refine ⟨⟨_, ?_⟩⟩; simp only [World.drewN_drewN]; rfl))⟩⟩
      · have hge : l.length ≤ j := by omega
        have E := Aside0.mk (show l = m by have := h3.out; rwa [List.take_of_length_le hge, List.take_of_length_le (by have := HE.out; omega)] at this)
        go_wp2
        go_ret
        exact ⟨ret_bool (decide_eq_true E.out).symm, (by first | exact Drawn0.refl _ | exact ⟨⟨_, rfl⟩⟩ | exact ⟨⟨_, World.drewN_drewN _ _ _⟩⟩ | (refine ⟨⟨_, ?_⟩⟩; simp only [World.drewN_drewN]; rfl))⟩
  · have hb2 : (l.length != m.length) = true := bne_iff_ne.mpr he
    have hb3 : ((l.length : Int) != (m.length : Int)) = true := bne_iff_ne.mpr (by omega)
    have HE := Aside0.mk he
    clear hl hm
    go_enter Try.func130, Try.ntmps130
    go_wp2
    go_ret
    exact ⟨ret_bool (decide_eq_false fun h => HE.out (by rw [h])).symm, (by first | exact Drawn0.refl _ | exact ⟨⟨_, rfl⟩⟩ | exact ⟨⟨_, World.drewN_drewN _ _ _⟩⟩ | (refine ⟨⟨_, ?_⟩⟩; simp only [World.drewN_drewN]; rfl))⟩
set_option maxHeartbeats 1000000 in
set_option maxRecDepth 100000 in
theorem spec_l00Same_c (A B : Option Addr) (c d : Nat) (l m : List Int) (w : World) (hl : Kd.C (Kd.int .i64) w A l.length l) (hm : Kd.C (Kd.int .i64) w B m.length m) (hn : l.length ≤ 1099511627776) (hn2 : m.length ≤ 1099511627776) :
    Calls Try.prog 141 #[.slice A l.length c, .slice B m.length d] w fun e w' => e = .returned (.bool (decide (l = m))) ∧ Drawn0 w w' := by
  have HL := Aside0.mk hl
  have HM := Aside0.mk hm
  by_cases he : l.length = m.length
  · have hb : (l.length == m.length) = true := beq_iff_eq.mpr he
    have hb2 : (l.length != m.length) = false := bne_eq_false_iff_eq.mpr he
    rw [← he]
    have HE := Aside0.mk he
    clear hl hm he hb hb2
    go_enter Try.func141, Try.ntmps141
    go_wp2
    go_loopg [5] l.length (fun k v5 w' => ∃ j : Nat, v5 = .int .i64 j ∧ Aside0 (j ≤ l.length) ∧ Aside0 (k = l.length - j) ∧ Aside0 (l.take j = m.take j) ∧ Aside0 (Drawn0 w w'))
    case atStart => exact ⟨0, rfl, ⟨by omega⟩, ⟨by omega⟩, ⟨rfl⟩, ⟨(by first | exact Drawn0.refl _ | exact ⟨⟨_, rfl⟩⟩ | exact ⟨⟨_, World.drewN_drewN _ _ _⟩⟩ | (refine ⟨⟨_, ?_⟩⟩; simp only [World.drewN_drewN]; rfl))⟩⟩
    case round =>
      obtain ⟨j, rfl, h1, h2, h3, h4⟩ := hrel
      obtain ⟨n, rfl⟩ := h4.out.out
      by_cases hj : j < l.length
      · have hj2 : j < m.length := by have := HE.out; omega
        have hb : decide (j < l.length) = true := decide_eq_true hj
        obtain ⟨ad, e, hx⟩ := Kd.at_int HL.out (j : Int) (by omega) (by omega)
        cases e
        obtain ⟨ad2, e, hx2⟩ := Kd.at_int HM.out (j : Int) (by omega) (by omega)
        cases e
        have E1 := Aside0.mk (rd_get l j hj)
        have E2 := Aside0.mk (rd_get m j hj2)
        have HJ := Aside0.mk hj
        have HJ2 := Aside0.mk hj2
        rw [Int.toNat_natCast] at hx hx2
        go_wp2
        repeat (go_quiet (fail); try go_wp2)
        · have hne : ¬ rd l j = rd m j := by have : (rd l j != rd m j) = true := by assumption
                                             exact bne_iff_ne.mp this
          go_ret
          refine ⟨ret_bool (decide_eq_false fun h => hne ?_).symm, (by first | exact Drawn0.refl _ | exact ⟨⟨_, rfl⟩⟩ | exact ⟨⟨_, World.drewN_drewN _ _ _⟩⟩ | (refine ⟨⟨_, ?_⟩⟩; simp only [World.drewN_drewN]; rfl))⟩
          rw [h]
        · have heq : rd l j = rd m j := by have : (rd l j != rd m j) = false := by assumption
                                           exact bne_eq_false_iff_eq.mp this
          go_roundg (l.length - (j + 1))
          case measure => have := h2.out; have := HJ.out; omega
          case rel => exact ⟨j + 1, by simp, ⟨by have := HJ.out; omega⟩, ⟨rfl⟩, ⟨by rw [List.take_succ_eq_append_getElem HJ.out, List.take_succ_eq_append_getElem HJ2.out, h3.out, ← E1.out, ← E2.out, heq]⟩, ⟨(by first | exact Drawn0.refl _ | exact ⟨⟨_, rfl⟩⟩ | exact ⟨⟨_, World.drewN_drewN _ _ _⟩⟩ | (refine ⟨⟨_, ?_⟩⟩; simp only [World.drewN_drewN]; rfl))⟩⟩
      · have hge : l.length ≤ j := by omega
        have E := Aside0.mk (show l = m by have := h3.out; rwa [List.take_of_length_le hge, List.take_of_length_le (by have := HE.out; omega)] at this)
        go_wp2
        go_ret
        exact ⟨ret_bool (decide_eq_true E.out).symm, (by first | exact Drawn0.refl _ | exact ⟨⟨_, rfl⟩⟩ | exact ⟨⟨_, World.drewN_drewN _ _ _⟩⟩ | (refine ⟨⟨_, ?_⟩⟩; simp only [World.drewN_drewN]; rfl))⟩
  · have hb2 : (l.length != m.length) = true := bne_iff_ne.mpr he
    have hb3 : ((l.length : Int) != (m.length : Int)) = true := bne_iff_ne.mpr (by omega)
    have HE := Aside0.mk he
    clear hl hm
    go_enter Try.func141, Try.ntmps141
    go_wp2
    go_ret
    exact ⟨ret_bool (decide_eq_false fun h => HE.out (by rw [h])).symm, (by first | exact Drawn0.refl _ | exact ⟨⟨_, rfl⟩⟩ | exact ⟨⟨_, World.drewN_drewN _ _ _⟩⟩ | (refine ⟨⟨_, ?_⟩⟩; simp only [World.drewN_drewN]; rfl))⟩
set_option maxHeartbeats 1000000 in
set_option maxRecDepth 100000 in
theorem spec_SameCam_c (A B : Option Addr) (c d : Nat) (l m : List Int) (w : World) (hl : Kd.C (Kd.int .i16) w A l.length l) (hm : Kd.C (Kd.int .i16) w B m.length m) (hn : l.length ≤ 1099511627776) (hn2 : m.length ≤ 1099511627776) :
    Calls Try.prog 25 #[.slice A l.length c, .slice B m.length d] w fun e w' => e = .returned (.bool (decide (l = m))) ∧ Drawn0 w w' := by
  have HL := Aside0.mk hl
  have HM := Aside0.mk hm
  clear hl hm
  go_enter Try.func25, Try.ntmps25
  go_wp2_with (go_at_call 130; (with_reducible refine (spec_l01Same_c _ _ _ _ l m _ HL.out HM.out hn hn2).mono ?_); rintro e_ w_ ⟨rfl, ⟨nd, rfl⟩⟩)
  go_ret
  exact ⟨rfl, (by first | exact Drawn0.refl _ | exact ⟨⟨_, rfl⟩⟩ | exact ⟨⟨_, World.drewN_drewN _ _ _⟩⟩ | (refine ⟨⟨_, ?_⟩⟩; simp only [World.drewN_drewN]; rfl))⟩
theorem spec_SameCam_t (A B : Option Addr) (c d : Nat) (l m : List Int) (w : World) (hl : CamR w A c l) (hm : CamR w B d m) (h : l = m) :
    Calls Try.prog 25 #[.slice A l.length c, .slice B m.length d] w fun e w' => e = .returned (.bool true) ∧ Drawn0 w w' := by
  have := spec_SameCam_c A B c d l m w hl.rd hm.rd (by have := hl.ok.hi; omega) (by have := hm.ok.hi; omega)
  rwa [decide_eq_true h] at this
theorem spec_SameCam_f (A B : Option Addr) (c d : Nat) (l m : List Int) (w : World) (hl : CamR w A c l) (hm : CamR w B d m) (h : l ≠ m) :
    Calls Try.prog 25 #[.slice A l.length c, .slice B m.length d] w fun e w' => e = .returned (.bool false) ∧ Drawn0 w w' := by
  have := spec_SameCam_c A B c d l m w hl.rd hm.rd (by have := hl.ok.hi; omega) (by have := hm.ok.hi; omega)
  rwa [decide_eq_false h] at this
set_option maxHeartbeats 1000000 in
set_option maxRecDepth 100000 in
theorem spec_SameNumbers_c (A B : Option Addr) (c d : Nat) (l m : List Int) (w : World) (hl : Kd.C (Kd.int .i64) w A l.length l) (hm : Kd.C (Kd.int .i64) w B m.length m) (hn : l.length ≤ 1099511627776) (hn2 : m.length ≤ 1099511627776) :
    Calls Try.prog 34 #[.slice A l.length c, .slice B m.length d] w fun e w' => e = .returned (.bool (decide (l = m))) ∧ Drawn0 w w' := by
  have HL := Aside0.mk hl
  have HM := Aside0.mk hm
  clear hl hm
  go_enter Try.func34, Try.ntmps34
  go_wp2_with (go_at_call 141; (with_reducible refine (spec_l00Same_c _ _ _ _ l m _ HL.out HM.out hn hn2).mono ?_); rintro e_ w_ ⟨rfl, ⟨nd, rfl⟩⟩)
  go_ret
  exact ⟨rfl, (by first | exact Drawn0.refl _ | exact ⟨⟨_, rfl⟩⟩ | exact ⟨⟨_, World.drewN_drewN _ _ _⟩⟩ | (refine ⟨⟨_, ?_⟩⟩; simp only [World.drewN_drewN]; rfl))⟩

set_option maxHeartbeats 1000000 in
set_option maxRecDepth 100000 in
theorem spec_l00Min_c (x y : Int) (w : World) : Calls Try.prog 215 #[.int .i64 x, .int .i64 y] w fun e w' => e = .returned (.int .i64 (min x y)) ∧ Drawn0 w w' := by
  go_enter Try.func215, Try.ntmps215
  go_wp2
  all_goals go_ret
  all_goals exact ⟨ret_int (by omega), (by first | exact Drawn0.refl _ | exact ⟨⟨_, rfl⟩⟩ | exact ⟨⟨_, World.drewN_drewN _ _ _⟩⟩ | (refine ⟨⟨_, ?_⟩⟩; simp only [World.drewN_drewN]; rfl))⟩

set_option maxHeartbeats 1000000 in
set_option maxRecDepth 100000 in
theorem spec_l03Foot_true (A : Option Addr) (c : Nat) (l : List Int) (f : Int) (w : World) (hr : CamR w A c l) (hf : 0 ≤ f ∧ f ≤ 100) :
    Calls Try.prog 138 #[.slice A l.length c, .int .i64 f, .bool true] w fun e w' => ∃ v : Value, e = .returned v ∧ Kd.R (Kd.int .i16) 51 w' w.heap.size (fun _ => True) v (footL true l f) ∧ Below w.heap.size w w' := by
  have HR := Aside0.mk hr
  have hlen := hr.ok.hi
  clear hr
  go_enter Try.func138, Try.ntmps138
  go_wp2_with ((with_reducible refine gate_dst (N := 12) rfl ?_); refine Kd.R_lit (Kd.int .i16) _ 51 ?hg (N := 12) ?hd (xs := ([] : List _)) (inner := []) (ok := fun _ => True) (okp := fun _ => True) ?hr ?hp (fun _ hk => hk) trivial (Below.refl _ _) (Nat.le_refl _) (by simp) ?_; (case hd => rfl); (case hg => rfl); (case hr => first | (go_simp; done) | (go_simp; rfl)); (case hp => exact (Reps.none _ _)); intro v1 w1 ho1 hb1 hg_ hnew_; clear hg_ hnew_)
  have HO := Aside0.mk ho1
  have HB := Aside0.mk hb1
  clear ho1 hb1
  go_loopg [7, 8] l.length (fun d v7 v8 w' => ∃ i : Nat, v8 = .int .i64 i ∧ Aside0 (i ≤ l.length) ∧ Aside0 (d = l.length - i) ∧ Aside0 (Kd.R (Kd.int .i16) 51 w' w.heap.size (fun _ => True) v7 (mapN i (footAt true l f))) ∧ Aside0 (Below w.heap.size w w'))
  case atStart => exact ⟨0, rfl, ⟨by omega⟩, ⟨by omega⟩, HO, HB⟩
  case round =>
    clear HO HB
    obtain ⟨i, rfl, h1, h2, HO, HB⟩ := hrel
    by_cases hi : i < l.length
    · have HI := Aside0.mk hi
      have hb : decide (i < l.length) = true := decide_eq_true hi
      go_wp2_with (go_at_call 133; (with_reducible refine (spec_l01At_c _ _ l _ _ (by repeat (first | exact (CamR.mv HR.out HB.out) | (with_reducible refine CamR.drewN ?_ _) | (with_reducible refine CamR.alloc ?_ _))) (by omega)).mono ?_); rintro e_ w_ ⟨rfl, ⟨nd, rfl⟩⟩)
      go_loopg [9, 10] (2 * f + 1).toNat (fun d v9 v10 w' => ∃ j : Nat, v10 = .int .i64 (j - f) ∧ v9 = .int .i64 (footU true l f i j) ∧ Aside0 ((j : Int) ≤ 2 * f + 1) ∧ Aside0 ((d : Int) = 2 * f + 1 - j) ∧ Aside0 (Drawn0 wr w'))
      case atStart => exact ⟨0, by simp, rfl, ⟨by omega⟩, ⟨by omega⟩, ⟨(by first | exact Drawn0.refl _ | exact ⟨⟨_, rfl⟩⟩ | exact ⟨⟨_, World.drewN_drewN _ _ _⟩⟩ | (refine ⟨⟨_, ?_⟩⟩; simp only [World.drewN_drewN]; rfl))⟩⟩
      case round =>
        obtain ⟨j, rfl, rfl, h5, h6, h7⟩ := hrel
        obtain ⟨n, rfl⟩ := h7.out.out
        obtain ⟨k, hk⟩ : ∃ k, (j : Int) - f = k := ⟨_, rfl⟩
        rw [hk]
        have b1 := HR.out.ok.lift _ (footU_mem true HR.out.ok.pos f i j)
        have b2 := HR.out.ok.lift _ (at_mem HR.out.ok.pos (i + k))
        have HK := Aside0.mk hk
        have hkb : k ≤ f + 1 := by have := h5.out; omega
        have hkb2 : -f ≤ k := by omega
        clear hk
        by_cases hj : k ≤ f
        · have hb : decide (k ≤ f) = true := decide_eq_true hj
          have HJ := Aside0.mk hj
          go_wp2_with (first | (go_at_call 133; (with_reducible refine (spec_l01At_c _ _ l _ _ (by repeat (first | exact (CamR.mv HR.out HB.out) | (with_reducible refine CamR.drewN ?_ _) | (with_reducible refine CamR.alloc ?_ _))) (by omega)).mono ?_); rintro e_ w_ ⟨rfl, ⟨nd, rfl⟩⟩) | (go_at_call 124; (with_reducible refine (spec_l00Max_c _ _ _).mono ?_); rintro e_ w_ ⟨rfl, ⟨nd, rfl⟩⟩))
          go_roundg (2 * f + 1 - (j + 1)).toNat
          case measure => have := h6.out; have := HJ.out; have := HK.out; omega
          case rel => exact ⟨j + 1, by (rw [← HK.out]; congr 1; omega), by (rw [← HK.out]; rfl), ⟨by have := HJ.out; have := HK.out; omega⟩, ⟨by have := HJ.out; have := HK.out; omega⟩, ⟨(by first | exact Drawn0.refl _ | exact ⟨⟨_, rfl⟩⟩ | exact ⟨⟨_, World.drewN_drewN _ _ _⟩⟩ | (refine ⟨⟨_, ?_⟩⟩; simp only [World.drewN_drewN]; rfl))⟩⟩
        · have hb : decide (k ≤ f) = false := decide_eq_false hj
          have E := Aside0.mk (show footU true l f i j = footAt true l f i by rw [show j = (2 * f + 1).toNat by have := h5.out; have := HK.out; omega])
          go_wp2_with ((with_reducible refine gate_builtin (b := .append) (xs := #[.tmp 41, .tmp 44]) rfl ?_); at_builtin; refine Kd.R_append (Kd.int .i16) (w0 := w) w.heap.size rfl (.tmp 41) (.tmp 44) 29 51 (.int .i16 0) 2 rfl Try.underlying29 info_i16 rfl (by decide) (by omega) u7 (mapN i (footAt true l f)) (footU true l f i j) [.int .i16 (footU true l f i j)] (fun _ => True) (fun _ => False) rfl rfl ?aP (fun _ hk => hk.elim) ?aF ?aO ?aB ?aS ?aL ?_; (case aP => exact rfl); (case aB => exact (by repeat (first | (with_reducible first | exact HB.out | apply below_alloc | apply pw_below_drewN | apply below_drew1) | exact HB.out))); (case aF => exact (fun _ _ => trivial)); (case aO => exact (by (with_reducible repeat (first | apply Kd.R_alloc | apply Kd.R_drewN | apply Kd.R_drew)); exact HO.out)); (case aS => exact (below_size (by repeat (first | (with_reducible first | exact HB.out | apply below_alloc | apply pw_below_drewN | apply below_drew1) | exact HB.out)))); (case aL => (have := HI.out; rw [mapN_length]; omega)); intro v2 w2 ho2 hb2 hg_ hat_; clear hg_ hat_)
          have ho3 : Kd.R (Kd.int .i16) 51 w2 w.heap.size (fun _ => True) v2 (mapN (i + 1) (footAt true l f)) := by rw [mapN_succ, ← E.out]; exact ho2
          go_roundg (l.length - (i + 1))
          case measure => have := h2.out; have := HI.out; omega
          case rel => exact ⟨i + 1, by simp, ⟨by have := HI.out; omega⟩, ⟨rfl⟩, ⟨ho3⟩, ⟨hb2⟩⟩
    · have hge : l.length ≤ i := by omega
      have hin : i = l.length := by have := h1.out; omega
      subst hin
      go_wp2
      go_ret
      exact ⟨_, rfl, HO.out, HB.out⟩

set_option maxHeartbeats 1000000 in
set_option maxRecDepth 100000 in
theorem spec_l03Foot_false (A : Option Addr) (c : Nat) (l : List Int) (f : Int) (w : World) (hr : CamR w A c l) (hf : 0 ≤ f ∧ f ≤ 100) :
    Calls Try.prog 138 #[.slice A l.length c, .int .i64 f, .bool false] w fun e w' => ∃ v : Value, e = .returned v ∧ Kd.R (Kd.int .i16) 51 w' w.heap.size (fun _ => True) v (footL false l f) ∧ Below w.heap.size w w' := by
  have HR := Aside0.mk hr
  have hlen := hr.ok.hi
  clear hr
  go_enter Try.func138, Try.ntmps138
  go_wp2_with ((with_reducible refine gate_dst (N := 12) rfl ?_); refine Kd.R_lit (Kd.int .i16) _ 51 ?hg (N := 12) ?hd (xs := ([] : List _)) (inner := []) (ok := fun _ => True) (okp := fun _ => True) ?hr ?hp (fun _ hk => hk) trivial (Below.refl _ _) (Nat.le_refl _) (by simp) ?_; (case hd => rfl); (case hg => rfl); (case hr => first | (go_simp; done) | (go_simp; rfl)); (case hp => exact (Reps.none _ _)); intro v1 w1 ho1 hb1 hg_ hnew_; clear hg_ hnew_)
  have HO := Aside0.mk ho1
  have HB := Aside0.mk hb1
  clear ho1 hb1
  go_loopg [7, 8] l.length (fun d v7 v8 w' => ∃ i : Nat, v8 = .int .i64 i ∧ Aside0 (i ≤ l.length) ∧ Aside0 (d = l.length - i) ∧ Aside0 (Kd.R (Kd.int .i16) 51 w' w.heap.size (fun _ => True) v7 (mapN i (footAt false l f))) ∧ Aside0 (Below w.heap.size w w'))
  case atStart => exact ⟨0, rfl, ⟨by omega⟩, ⟨by omega⟩, HO, HB⟩
  case round =>
    clear HO HB
    obtain ⟨i, rfl, h1, h2, HO, HB⟩ := hrel
    by_cases hi : i < l.length
    · have HI := Aside0.mk hi
      have hb : decide (i < l.length) = true := decide_eq_true hi
      go_wp2_with (go_at_call 133; (with_reducible refine (spec_l01At_c _ _ l _ _ (by repeat (first | exact (CamR.mv HR.out HB.out) | (with_reducible refine CamR.drewN ?_ _) | (with_reducible refine CamR.alloc ?_ _))) (by omega)).mono ?_); rintro e_ w_ ⟨rfl, ⟨nd, rfl⟩⟩)
      go_loopg [9, 10] (2 * f + 1).toNat (fun d v9 v10 w' => ∃ j : Nat, v10 = .int .i64 (j - f) ∧ v9 = .int .i64 (footU false l f i j) ∧ Aside0 ((j : Int) ≤ 2 * f + 1) ∧ Aside0 ((d : Int) = 2 * f + 1 - j) ∧ Aside0 (Drawn0 wr w'))
      case atStart => exact ⟨0, by simp, rfl, ⟨by omega⟩, ⟨by omega⟩, ⟨(by first | exact Drawn0.refl _ | exact ⟨⟨_, rfl⟩⟩ | exact ⟨⟨_, World.drewN_drewN _ _ _⟩⟩ | (refine ⟨⟨_, ?_⟩⟩; simp only [World.drewN_drewN]; rfl))⟩⟩
      case round =>
        obtain ⟨j, rfl, rfl, h5, h6, h7⟩ := hrel
        obtain ⟨n, rfl⟩ := h7.out.out
        obtain ⟨k, hk⟩ : ∃ k, (j : Int) - f = k := ⟨_, rfl⟩
        rw [hk]
        have b1 := HR.out.ok.lift _ (footU_mem false HR.out.ok.pos f i j)
        have b2 := HR.out.ok.lift _ (at_mem HR.out.ok.pos (i + k))
        have HK := Aside0.mk hk
        have hkb : k ≤ f + 1 := by have := h5.out; omega
        have hkb2 : -f ≤ k := by omega
        clear hk
        by_cases hj : k ≤ f
        · have hb : decide (k ≤ f) = true := decide_eq_true hj
          have HJ := Aside0.mk hj
          go_wp2_with (first | (go_at_call 133; (with_reducible refine (spec_l01At_c _ _ l _ _ (by repeat (first | exact (CamR.mv HR.out HB.out) | (with_reducible refine CamR.drewN ?_ _) | (with_reducible refine CamR.alloc ?_ _))) (by omega)).mono ?_); rintro e_ w_ ⟨rfl, ⟨nd, rfl⟩⟩) | (go_at_call 215; (with_reducible refine (spec_l00Min_c _ _ _).mono ?_); rintro e_ w_ ⟨rfl, ⟨nd, rfl⟩⟩))
          go_roundg (2 * f + 1 - (j + 1)).toNat
          case measure => have := h6.out; have := HJ.out; have := HK.out; omega
          case rel => exact ⟨j + 1, by (rw [← HK.out]; congr 1; omega), by (rw [← HK.out]; rfl), ⟨by have := HJ.out; have := HK.out; omega⟩, ⟨by have := HJ.out; have := HK.out; omega⟩, ⟨(by first | exact Drawn0.refl _ | exact ⟨⟨_, rfl⟩⟩ | exact ⟨⟨_, World.drewN_drewN _ _ _⟩⟩ | (refine ⟨⟨_, ?_⟩⟩; simp only [World.drewN_drewN]; rfl))⟩⟩
        · have hb : decide (k ≤ f) = false := decide_eq_false hj
          have E := Aside0.mk (show footU false l f i j = footAt false l f i by rw [show j = (2 * f + 1).toNat by have := h5.out; have := HK.out; omega])
          go_wp2_with ((with_reducible refine gate_builtin (b := .append) (xs := #[.tmp 41, .tmp 44]) rfl ?_); at_builtin; refine Kd.R_append (Kd.int .i16) (w0 := w) w.heap.size rfl (.tmp 41) (.tmp 44) 29 51 (.int .i16 0) 2 rfl Try.underlying29 info_i16 rfl (by decide) (by omega) u7 (mapN i (footAt false l f)) (footU false l f i j) [.int .i16 (footU false l f i j)] (fun _ => True) (fun _ => False) rfl rfl ?aP (fun _ hk => hk.elim) ?aF ?aO ?aB ?aS ?aL ?_; (case aP => exact rfl); (case aB => exact (by repeat (first | (with_reducible first | exact HB.out | apply below_alloc | apply pw_below_drewN | apply below_drew1) | exact HB.out))); (case aF => exact (fun _ _ => trivial)); (case aO => exact (by (with_reducible repeat (first | apply Kd.R_alloc | apply Kd.R_drewN | apply Kd.R_drew)); exact HO.out)); (case aS => exact (below_size (by repeat (first | (with_reducible first | exact HB.out | apply below_alloc | apply pw_below_drewN | apply below_drew1) | exact HB.out)))); (case aL => (have := HI.out; rw [mapN_length]; omega)); intro v2 w2 ho2 hb2 hg_ hat_; clear hg_ hat_)
          have ho3 : Kd.R (Kd.int .i16) 51 w2 w.heap.size (fun _ => True) v2 (mapN (i + 1) (footAt false l f)) := by rw [mapN_succ, ← E.out]; exact ho2
          go_roundg (l.length - (i + 1))
          case measure => have := h2.out; have := HI.out; omega
          case rel => exact ⟨i + 1, by simp, ⟨by have := HI.out; omega⟩, ⟨rfl⟩, ⟨ho3⟩, ⟨hb2⟩⟩
    · have hge : l.length ≤ i := by omega
      have hin : i = l.length := by have := h1.out; omega
      subst hin
      go_wp2
      go_ret
      exact ⟨_, rfl, HO.out, HB.out⟩

theorem spec_SameNumbers_t (A B : Option Addr) (c d : Nat) (l m : List Int) (w : World) (hl : NumR w A c l) (hm : NumR w B d m) (hn : l.length ≤ 1099511627776) (h : l = m) :
    Calls Try.prog 34 #[.slice A l.length c, .slice B m.length d] w fun e w' => e = .returned (.bool true) ∧ Drawn0 w w' := by
  have := spec_SameNumbers_c A B c d l m w hl.rd hm.rd hn (by rw [← h]; exact hn)
  rwa [decide_eq_true h] at this
end Go.Proofs.Ytpjibhedpieafaa.H
