/- Walks: the lift at a step, changes, validity. -/
import Derived.Test.YtpjibhedpieafaaBase
import Derived.Test.YtpjibhedpieafaaMath
namespace Go.Proofs.Ytpjibhedpieafaa.H
open Go.RowKit Go.Proofs.YtpjibhedpieafaaW.PrintWords Go.Proofs.YtpjibhedpieafaaW.PrintLast Go.Proofs.YtpjibhedpieafaaW.PrintMore Go.Proofs.Ytpjibhedpieafaa.M
attribute [local go_sem] max2_int min2_int max_two min_two max_three min_three max_four min_four

set_option maxHeartbeats 1000000 in
set_option maxRecDepth 100000 in
theorem impl_floorDiv_c (a b : Int) (w : World) (ha : -4611686018427387904 ≤ a ∧ a ≤ 4611686018427387904) (hb : 1 ≤ b ∧ b ≤ 4611686018427387904) :
    Calls Try.prog 187 #[.int .i64 a, .int .i64 b] w fun e w' => e = .returned (.int .i64 (a / b)) ∧ Drawn0 w w' := by
  have hne : ¬ b = 0 := by omega
  have hf := floor_tdiv (a := a) (b := b) (by omega)
  have hq : -4611686018427387904 ≤ a / b ∧ a / b ≤ 4611686018427387904 := by
    have := Int.natAbs_ediv_le_natAbs a b
    omega
  have hb1 : (b == 0) = false := beq_eq_false_iff_ne.mpr hne
  by_cases hm : a.tmod b < 0
  · have hmb : decide (a.tmod b < 0) = true := decide_eq_true hm
    rw [if_pos hm] at hf
    have HF := Aside0.mk hf
    have HQ := Aside0.mk hq
    clear hf hq
    go_enter Try.func187, Try.ntmps187
    go_wp2
    go_ret
    exact ⟨ret_int (by have := HF.out; have := HQ.out; rw [wrap64_id] <;> omega), ⟨⟨0, rfl⟩⟩⟩
  · have hmb : decide (a.tmod b < 0) = false := decide_eq_false hm
    rw [if_neg hm] at hf
    have HF := Aside0.mk hf
    have HQ := Aside0.mk hq
    clear hf hq
    go_enter Try.func187, Try.ntmps187
    go_wp2
    go_ret
    exact ⟨ret_int (by have := HF.out; have := HQ.out; omega), ⟨⟨0, rfl⟩⟩⟩

set_option maxHeartbeats 1000000 in
set_option maxRecDepth 100000 in
theorem impl_mod_c (a b : Int) (w : World) (ha : -4611686018427387904 ≤ a ∧ a ≤ 4611686018427387904) (hb : 1 ≤ b ∧ b ≤ 4611686018427387904) :
    Calls Try.prog 201 #[.int .i64 a, .int .i64 b] w fun e w' => e = .returned (.int .i64 (a % b)) ∧ Drawn0 w w' := by
  have H := Aside0.mk (And.intro ha hb)
  have e1 : a - b * (a / b) = a % b := by have := Int.emod_add_mul_ediv a b; omega
  have e2 : 0 ≤ a % b ∧ a % b < b := ⟨Int.emod_nonneg _ (by omega), Int.emod_lt_of_pos _ (by omega)⟩
  have E := Aside0.mk (And.intro e1 e2)
  clear ha hb e1 e2
  go_enter Try.func201, Try.ntmps201
  go_wp2_with (go_at_call 187; (with_reducible refine (impl_floorDiv_c a b _ H.out.1 H.out.2).mono ?_); rintro e_ w_ ⟨rfl, ⟨nd, rfl⟩⟩)
  go_ret
  refine ⟨ret_int ?_, (by first | exact Drawn0.refl _ | exact ⟨⟨_, rfl⟩⟩ | exact ⟨⟨_, World.drewN_drewN _ _ _⟩⟩ | (refine ⟨⟨_, ?_⟩⟩; simp only [World.drewN_drewN]; rfl))⟩
  obtain ⟨⟨ha, hb⟩⟩ := H
  obtain ⟨⟨e1, e2⟩⟩ := E
  rw [wrap64_id (x := b * (a / b)) (by omega) (by omega), wrap64_id (by omega) (by omega), e1]

/-- A slice that reads as a valid cam. -/
structure CamR (w : World) (A : Option Addr) (c : Nat) (l : List Int) : Prop where
  rd : Kd.C (Kd.int .i16) w A l.length l
  cap : l.length ≤ c
  ok : Ok l
theorem CamR.mv {w W : World} {A : Option Addr} {c : Nat} {l : List Int} (h : CamR w A c l) (hb : Below w.heap.size w W) : CamR W A c l := ⟨Kd.C_below h.rd hb, h.cap, h.ok⟩
theorem CamR.drewN {w : World} {A : Option Addr} {c : Nat} {l : List Int} (h : CamR w A c l) (n : Nat) : CamR (w.drewN n) A c l := ⟨Kd.C_drewN h.rd n, h.cap, h.ok⟩

theorem CamR.alloc {w : World} {A : Option Addr} {c : Nat} {l : List Int} (h : CamR w A c l) (o : Obj) : CamR (w.alloc o) A c l := h.mv (below_alloc (Below.refl _ _) o)

set_option maxHeartbeats 1000000 in
set_option maxRecDepth 100000 in
theorem impl_at_c (A : Option Addr) (c : Nat) (l : List Int) (i : Int) (w : World) (hr : CamR w A c l) (hi : -1099511627776 ≤ i ∧ i ≤ 1099511627776) :
    Calls Try.prog 129 #[.slice A l.length c, .int .i64 i] w fun e w' => e = .returned (.int .i64 (at_ l i)) ∧ Drawn0 w w' := by
  have hn := hr.ok.pos
  have hn2 := hr.ok.hi
  have e2 : 0 ≤ i % (l.length : Int) ∧ i % (l.length : Int) < l.length := ⟨Int.emod_nonneg _ (by omega), Int.emod_lt_of_pos _ (by omega)⟩
  obtain ⟨ad, e, hx⟩ := Kd.at_int hr.rd (i % (l.length : Int)) e2.1 (by omega)
  cases e
  have hv : at_ l i = rd l (i % (l.length : Int)) := rfl
  have hb := hr.ok.lift _ (at_mem hn i)
  rw [hv] at hb
  have HI := Aside0.mk hi
  have HN := Aside0.mk (And.intro hn hn2)
  have hb1 := hb.1
  have hb2 := hb.2
  obtain ⟨j, hj⟩ : ∃ j, i % (l.length : Int) = j := ⟨_, rfl⟩
  rw [hj] at hx e2 hb1 hb2
  have HJ := Aside0.mk hj
  have e21 := e2.1
  have e22 := e2.2
  have HV := Aside0.mk hv
  clear hr hi hb hv hj e2 hn hn2
  go_enter Try.func129, Try.ntmps129
  go_wp2_with (first | (go_at_call 201; (with_reducible refine (impl_mod_c _ _ _ (by have := HI.out; omega) (by have := HN.out; omega)).mono ?_); rintro e_ w_ ⟨rfl, ⟨nd, rfl⟩⟩; rw [HJ.out]) | go_in)
  go_ret
  exact ⟨ret_int (by rw [HV.out, HJ.out]), (by first | exact Drawn0.refl _ | exact ⟨⟨_, rfl⟩⟩ | exact ⟨⟨_, World.drewN_drewN _ _ _⟩⟩ | (refine ⟨⟨_, ?_⟩⟩; simp only [World.drewN_drewN]; rfl))⟩

set_option maxHeartbeats 1000000 in
set_option maxRecDepth 100000 in
theorem impl_change_c (A : Option Addr) (c : Nat) (l : List Int) (i : Int) (w : World) (hr : CamR w A c l) (hi : -1099511627770 ≤ i ∧ i ≤ 1099511627770) :
    Calls Try.prog 121 #[.slice A l.length c, .int .i64 i] w fun e w' => e = .returned (.int .i64 (changeAt l i)) ∧ Drawn0 w w' := by
  have H1 := hr.ok.lift _ (at_mem hr.ok.pos (i + 1))
  have H2 := hr.ok.lift _ (at_mem hr.ok.pos i)
  have HR := Aside0.mk hr
  have HI := Aside0.mk hi
  clear hr
  go_enter Try.func121, Try.ntmps121
  go_wp2_with (first | (go_at_call 129; (with_reducible refine (impl_at_c _ _ l _ _ (by repeat (first | exact HR.out | apply CamR.drewN)) (by have := HI.out; omega)).mono ?_); rintro e_ w_ ⟨rfl, ⟨nd, rfl⟩⟩))
  go_ret
  exact ⟨rfl, (by first | exact Drawn0.refl _ | exact ⟨⟨_, rfl⟩⟩ | exact ⟨⟨_, World.drewN_drewN _ _ _⟩⟩ | (refine ⟨⟨_, ?_⟩⟩; simp only [World.drewN_drewN]; rfl))⟩

set_option maxHeartbeats 1000000 in
theorem impl_steps_c (A : Option Addr) (n c : Nat) (w : World) : Calls Try.prog 127 #[.slice A n c] w fun e w' => e = .returned (.int .i64 n) ∧ Drawn0 w w' := by
  go_enter Try.func127, Try.ntmps127
  go_wp2
  go_ret
  exact ⟨rfl, (by first | exact Drawn0.refl _ | exact ⟨⟨_, rfl⟩⟩ | exact ⟨⟨_, World.drewN_drewN _ _ _⟩⟩ | (refine ⟨⟨_, ?_⟩⟩; simp only [World.drewN_drewN]; rfl))⟩

/-! ### validity -/
set_option maxHeartbeats 1000000 in
set_option maxRecDepth 100000 in
theorem impl_ValidCam1_c (x : Int) (w : World) (hx : -32768 ≤ x ∧ x ≤ 32767) : Calls Try.prog 217 #[.int .i16 x] w fun e w' => e = .returned (.bool (!isLiftB x)) ∧ Drawn0 w w' := by
  go_enter Try.func217, Try.ntmps217
  go_wp2
  all_goals go_ret
  all_goals exact ⟨ret_bool (by simp [isLiftB]; omega), (by first | exact Drawn0.refl _ | exact ⟨⟨_, rfl⟩⟩ | exact ⟨⟨_, World.drewN_drewN _ _ _⟩⟩ | (refine ⟨⟨_, ?_⟩⟩; simp only [World.drewN_drewN]; rfl))⟩

/-- The first place at which a function says yes, or -1. -/
def idxOf {α : Type} (g : α → Bool) (l : List α) : Int := match l.findIdx? g with | some i => (i : Int) | none => -1
theorem idxOf_none {α : Type} {g : α → Bool} {l : List α} (h : ∀ x ∈ l, g x = false) : idxOf g l = -1 := by
  unfold idxOf; rw [List.findIdx?_eq_none_iff.mpr (by simpa using h)]
theorem idxOf_some {α : Type} {g : α → Bool} {l : List α} {i : Nat} (hi : i < l.length) (h : ∀ x ∈ l.take i, g x = false) (hg : g l[i] = true) : idxOf g l = i := by
  unfold idxOf
  have : l.findIdx? g = some i := by
    rw [List.findIdx?_eq_some_iff_getElem]
    refine ⟨hi, hg, fun j hj => ?_⟩
    have := h l[j] (by rw [List.mem_take_iff_getElem]; exact ⟨j, by omega, rfl⟩)
    simp [this]
  rw [this]
theorem idxOf_any {α : Type} (g : α → Bool) (l : List α) : decide (0 ≤ idxOf g l) = l.any g := by
  unfold idxOf
  cases h : l.findIdx? g with
  | none => rw [List.findIdx?_eq_none_iff] at h; simp; simpa using h
  | some i => 
    have := List.findIdx?_isSome (xs := l) (p := g)
    rw [h] at this; simpa using this

/-- slices.IndexFunc: the first place at which a function says yes, or -1. -/
theorem indexFunc_i16_c (fv : Value) (A : Option Addr) (c : Nat) (l : List Int) (g : Int → Bool) (w : World) (hr : Kd.C (Kd.int .i16) w A l.length l) (hn : l.length ≤ 140737488351232)
    (hg : ∀ (x : Int) (W : World), x ∈ l → Drawn0 w W → CallsV Try.prog fv #[.int .i16 x] W fun e W' => e = .returned (.bool (g x)) ∧ Drawn0 W W') :
    Calls Try.prog 252 #[.slice A l.length c, fv] w fun e w' => e = .returned (.int .i64 (idxOf g l)) ∧ Drawn0 w w' := by
  have HR := Aside0.mk hr
  have HG := Aside0.mk hg
  clear hr hg
  go_enter Try.func252, Try.ntmps252
  go_wp2
  go_loopg [8] l.length (fun d v8 w' => ∃ i : Nat, v8 = .int .i64 i ∧ Aside0 (i ≤ l.length) ∧ Aside0 (d = l.length - i) ∧ Aside0 (∀ x ∈ l.take i, g x = false) ∧ Aside0 (Drawn0 w w'))
  case atStart => exact ⟨0, rfl, ⟨by omega⟩, ⟨by omega⟩, ⟨by simp⟩, ⟨Drawn0.refl _⟩⟩
  case round =>
    obtain ⟨i, rfl, h1, h2, h3, h4⟩ := hrel
    obtain ⟨n, rfl⟩ := h4.out.out
    by_cases hi : i < l.length
    · have hb : decide (i < l.length) = true := decide_eq_true hi
      obtain ⟨ad, e, hx⟩ := Kd.at_int HR.out (i : Int) (by omega) (by omega)
      cases e
      have E := Aside0.mk (rd_get l i hi)
      have HI := Aside0.mk hi
      simp only [Int.toNat_natCast] at hx
      go_wp2_with ((with_reducible refine gate_calleeV (t := 11) rfl ?_); refine goesV_ (some 16) rfl rfl #[.int .i16 (rd l i)] rfl (by simp only [List.map_toArray, List.map_cons, List.map_nil]; rfl) ?_; refine (HG.out (rd l i) _ (by rw [E.out]; exact List.getElem_mem _) ⟨⟨_, rfl⟩⟩).mono ?_; rintro e w' ⟨rfl, ⟨nd, rfl⟩⟩; refine ⟨_, rfl, ?_⟩)
      · have hg : g (rd l i) = true := by assumption
        go_ret
        exact ⟨ret_int (idxOf_some HI.out h3.out (by rw [← E.out]; exact hg)).symm, (by first | exact Drawn0.refl _ | exact ⟨⟨_, rfl⟩⟩ | exact ⟨⟨_, World.drewN_drewN _ _ _⟩⟩ | (refine ⟨⟨_, ?_⟩⟩; simp only [World.drewN_drewN]; rfl))⟩
      · have hg : g (rd l i) = false := by assumption
        go_roundg (l.length - (i + 1))
        case measure => have := h2.out; have := HI.out; omega
        case rel => exact ⟨i + 1, by simp, ⟨by have := HI.out; omega⟩, ⟨rfl⟩, ⟨by intro x hx; rw [List.take_succ_eq_append_getElem HI.out] at hx; rcases List.mem_append.mp hx with h | h; exact h3.out x h; rw [List.mem_singleton.mp h, ← E.out]; exact hg⟩, (by first | exact Drawn0.refl _ | exact ⟨⟨_, rfl⟩⟩ | exact ⟨⟨_, World.drewN_drewN _ _ _⟩⟩ | (refine ⟨⟨_, ?_⟩⟩; simp only [World.drewN_drewN]; rfl))⟩
    · have hge : l.length ≤ i := by omega
      go_wp2
      go_ret
      refine ⟨ret_int (idxOf_none ?_).symm, h4.out⟩
      intro x hx
      exact h3.out x (by rwa [List.take_of_length_le hge])

theorem containsFunc_i16_c (fv : Value) (A : Option Addr) (c : Nat) (l : List Int) (g : Int → Bool) (w : World) (hr : Kd.C (Kd.int .i16) w A l.length l) (hn : l.length ≤ 140737488351232)
    (hg : ∀ (x : Int) (W : World), x ∈ l → Drawn0 w W → CallsV Try.prog fv #[.int .i16 x] W fun e W' => e = .returned (.bool (g x)) ∧ Drawn0 W W') :
    Calls Try.prog 216 #[.slice A l.length c, fv] w fun e w' => e = .returned (.bool (l.any g)) ∧ Drawn0 w w' := by
  have HR := Aside0.mk hr
  have HG := Aside0.mk hg
  have HA := Aside0.mk (idxOf_any g l)
  clear hr hg
  go_enter Try.func216, Try.ntmps216
  go_wp2_with (go_at_call 252; (with_reducible refine (indexFunc_i16_c fv _ _ l g _ HR.out hn HG.out).mono ?_); rintro e_ w_ ⟨rfl, ⟨nd, rfl⟩⟩)
  go_ret
  exact ⟨ret_bool (by rw [← HA.out]), (by first | exact Drawn0.refl _ | exact ⟨⟨_, rfl⟩⟩ | exact ⟨⟨_, World.drewN_drewN _ _ _⟩⟩ | (refine ⟨⟨_, ?_⟩⟩; simp only [World.drewN_drewN]; rfl))⟩

set_option maxHeartbeats 1000000 in
set_option maxRecDepth 100000 in
theorem impl_ValidCam_c (A : Option Addr) (c : Nat) (l : List Int) (w : World) (hr : Kd.C (Kd.int .i16) w A l.length l) (h16 : I16 l) (hn : l.length ≤ 140737488351232) :
    Calls Try.prog 118 #[.slice A l.length c] w fun e w' => e = .returned (.bool (validB l)) ∧ Drawn0 w w' := by
  have HR := Aside0.mk hr
  have H16 := Aside0.mk h16
  clear hr h16
  go_enter Try.func118, Try.ntmps118
  go_wp2_with (first | (go_at_call 216; (with_reducible refine (containsFunc_i16_c _ _ _ l (fun x => !isLiftB x) _ (by repeat (first | exact HR.out | (with_reducible refine Kd.C_drewN ?_ _) | (with_reducible refine Kd.C_drew ?_) | (with_reducible refine Kd.C_alloc ?_ _))) hn (fun x W hx hd => CallsV.of Try.func217 rfl rfl rfl (impl_ValidCam1_c x W (H16.out x hx)))).mono ?_); rintro e_ w_ ⟨rfl, ⟨nd, rfl⟩⟩) | go_in)
  all_goals go_ret
  all_goals exact ⟨ret_bool (by unfold validB isStepsB; first | (rw [show decide (8 ≤ (l.length : Int)) = true from decide_eq_true (by omega), show decide ((l.length : Int) ≤ 360) = true from decide_eq_true (by omega)]; rfl) | (simp; omega)), (by first | exact Drawn0.refl _ | exact ⟨⟨_, rfl⟩⟩ | exact ⟨⟨_, World.drewN_drewN _ _ _⟩⟩ | (refine ⟨⟨_, ?_⟩⟩; simp only [World.drewN_drewN]; rfl))⟩

/-- A valid cam is valid. -/
theorem impl_ValidCam_ok (A : Option Addr) (c : Nat) (l : List Int) (w : World) (hr : CamR w A c l) :
    Calls Try.prog 118 #[.slice A l.length c] w fun e w' => e = .returned (.bool true) ∧ Drawn0 w w' := by
  have := impl_ValidCam_c A c l w hr.rd hr.ok.i16 (by have := hr.ok.hi; omega)
  rwa [(validB_iff l).mpr hr.ok] at this

/-! ### cams out of functions -/
theorem info_i16 : (Try.prog.info? 51).map (fun i => (i.zero, i.size, i.bytes)) = some (some (.int .i16 0), 1, 2) := by kernel_rfl

set_option maxHeartbeats 1000000 in
set_option maxRecDepth 100000 in
/-- camOf with a function all of whose values are lifts. -/
theorem impl_camOf_ok (n : Nat) (fv : Value) (g : Int → Int) (w : World) (hn : n ≤ 1099511627776) (hl : ∀ i : Nat, i < n → 0 ≤ g i ∧ g i ≤ 10000)
    (hg : ∀ (i : Nat) (W : World), i < n → Below w.heap.size w W → CallsV Try.prog fv #[.int .i64 i] W fun e W' => e = .returned (.int .i64 (g i)) ∧ Below W.heap.size W W') :
    Calls Try.prog 126 #[.int .i64 n, fv] w fun e w' => ∃ v : Value, e = .returned (.tuple #[v, .int .i64 0]) ∧ Kd.R (Kd.int .i16) 51 w' w.heap.size (fun _ => True) v (mapN n g) ∧ Below w.heap.size w w' := by
  have HG := Aside0.mk hg
  have HL := Aside0.mk hl
  have HB := Aside0.mk (Below.refl w.heap.size w)
  clear hg hl
  go_enter Try.func126, Try.ntmps126
  go_wp2_with ((with_reducible refine gate_dst (N := 9) rfl ?_); refine Kd.R_lit (Kd.int .i16) _ 51 ?hg (N := 9) ?hd (xs := ([] : List _)) (inner := []) (ok := fun _ => True) (okp := fun _ => True) ?hr ?hp (fun _ hk => hk) trivial (Below.refl _ _) (Nat.le_refl _) (by simp) ?_; (case hd => rfl); (case hg => rfl); (case hr => first | (go_simp; done) | (go_simp; rfl)); (case hp => exact (Reps.none _ _)); intro v1 w1 ho1 hb1 hg_ hnew_; clear hg_ hnew_)
  have HO := Aside0.mk ho1
  have HB1 := Aside0.mk hb1
  clear ho1 hb1
  go_loopg [6, 11] n (fun d v6 v11 w' => ∃ i : Nat, v11 = .int .i64 i ∧ Aside0 (i ≤ n) ∧ Aside0 (d = n - i) ∧ Aside0 (Kd.R (Kd.int .i16) 51 w' w.heap.size (fun _ => True) v6 (mapN i g)) ∧ Aside0 (Below w.heap.size w w'))
  case atStart => exact ⟨0, rfl, ⟨by omega⟩, ⟨by omega⟩, HO, HB1⟩
  case round =>
    clear HO HB1
    obtain ⟨i, rfl, h1, h2, HO, HB⟩ := hrel
    by_cases hi : i < n
    · have HI := Aside0.mk hi
      have hb : decide ((i : Int) < n) = true := decide_eq_true (by omega)
      have hl1 := (HL.out i hi).1
      have hl2 := (HL.out i hi).2
      have e16 := i16_id (x := g i) (by omega) (by omega)
      have E := Aside0.mk e16
      clear e16
      go_wp2_with (first | ((with_reducible refine gate_calleeV (t := 14) rfl ?_); refine goesV_ (some 16) rfl rfl #[.int .i64 (i : Int)] rfl (by simp only [List.map_toArray, List.map_cons, List.map_nil]; rfl) ?_; refine (HG.out i _ HI.out HB.out).mono ?_; rintro e w' ⟨rfl, hb9⟩; refine ⟨_, rfl, ?_⟩; have n0_ := Aside0.mk (Kd.R_below HO.out hb9); have n1_ := Aside0.mk (below_step HB.out hb9); clear HO HB hb9; have HO := n0_; have HB := n1_; clear n0_ n1_) | ((with_reducible refine gate_builtin (b := .append) (xs := #[.tmp 20, .tmp 23]) rfl ?_); at_builtin; refine Kd.R_append (Kd.int .i16) (w0 := w) w.heap.size rfl (.tmp 20) (.tmp 23) 29 51 (.int .i16 0) 2 rfl Try.underlying29 info_i16 rfl (by decide) (by omega) u6 (mapN i g) (g i) [.int .i16 (g i)] (fun _ => True) (fun _ => False) rfl rfl ?aP (fun _ hk => hk.elim) ?aF ?aO ?aB ?aS ?aL ?_; (case aP => exact rfl); (case aB => exact (by repeat (first | (with_reducible first | exact HB.out | apply below_alloc | apply pw_below_drewN | apply below_drew1) | exact HB.out))); (case aF => exact (fun _ _ => trivial)); (case aO => exact (by (with_reducible repeat (first | apply Kd.R_alloc | apply Kd.R_drewN | apply Kd.R_drew)); exact HO.out)); (case aS => exact (below_size (by repeat (first | (with_reducible first | exact HB.out | apply below_alloc | apply pw_below_drewN | apply below_drew1) | exact HB.out)))); (case aL => (have := HI.out; rw [mapN_length]; omega)); intro v2 w2 ho2 hb2 hg_ hat_; clear hg_ hat_) | go_in)
      rw [← mapN_succ] at ho2
      go_roundg (n - (i + 1))
      case measure => have := h2.out; have := HI.out; omega
      case rel => exact ⟨i + 1, by simp, ⟨by have := HI.out; omega⟩, ⟨rfl⟩, ⟨ho2⟩, ⟨hb2⟩⟩
    · have hge : n ≤ i := by omega
      have hin : i = n := by have := h1.out; omega
      subst hin
      go_wp2
      go_ret2
      exact ⟨_, rfl, HO.out, HB.out⟩
end Go.Proofs.Ytpjibhedpieafaa.H
