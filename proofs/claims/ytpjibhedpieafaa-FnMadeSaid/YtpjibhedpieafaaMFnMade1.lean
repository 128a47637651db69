/- What the law FnMade stands on, part 1 of 6: kinds, plain forms of functions, their walks, and plain laws. -/
import Derived.Test.YtpjibhedpieafaaProg
import Derived.Below
import Derived.Deep.Draws
import Derived.Deep.AppendLies
import Derived.Maps.AppendAt
import Derived.OwnWalk
import Derived.Laws.BytesArg
import Derived.Laws.MakeOwn
import Derived.Laws.OwnMore
import Derived.Deep.OwnRows
import Derived.Tactics
import Derived.Lib.ConvBytes
import Derived.Laws.Slices
import Derived.WalkKit
import Derived.KernelRfl
import Derived.RowKit3
import Derived.Deep.LoopGhost
import Derived.Deep.QuietTactic
import Derived.BigQuiet
import Derived.WideLaws
import Derived.Deep.DeepCutAuto
import Derived.Deep.CutBlock
import Derived.Deep.RegionHeld3
import Derived.Laws.Rows
import Derived.Lib.AppendStr
import Derived.ArgAppend
import Derived.Laws.IdiomCopy
import Derived.OrdersHeld
import Derived.Laws.BitsLemmas
import Derived.RowKit
import Derived.Deep.DrawnRows
import Derived.Test.YtpjibhedpieafaaMFnMadeWWords
import Derived.Test.YtpjibhedpieafaaMFnMadeWLast
import Derived.Test.YtpjibhedpieafaaMFnMadeWTab
import Derived.Test.YtpjibhedpieafaaMFnMadeWApart
import Derived.Test.YtpjibhedpieafaaMFnMadeWFoot
import Derived.Test.YtpjibhedpieafaaMFnMadeWKept
import Derived.Test.YtpjibhedpieafaaMFnMadeWShare
import Derived.Test.YtpjibhedpieafaaMFnMadeWN
import Derived.Test.YtpjibhedpieafaaMFnMadeWEqStruct
import Derived.Test.YtpjibhedpieafaaMFnMadeWRepsOne
import Derived.Test.YtpjibhedpieafaaMFnMadeWInv
import Derived.Test.YtpjibhedpieafaaMFnMadeWGuard
import Derived.Test.YtpjibhedpieafaaMFnMadeWMore
import Derived.Test.YtpjibhedpieafaaMFnMadeWSized
namespace Go.Proofs.Ytpjibhedpieafaa.H
open Go.RowKit Go.Proofs.YtpjibhedpieafaaW.PrintWords Go.Proofs.YtpjibhedpieafaaW.PrintLast Go.Proofs.YtpjibhedpieafaaW.PrintMore
/-- A function value, called. -/
def CallsV (P : Program) (fv : Value) (args : Array Value) (w : World) (R : Ending → World → Prop) : Prop :=
  ∃ f fn first cap, fv = .func (.func f) first cap ∧ P.funcs[f]? = some fn ∧ (fn.name == "runtime.NumGoroutine") = false ∧ fn.body.isSome = true ∧ Calls P f (first ++ args ++ cap) w R
theorem CallsV.mono {P : Program} {fv : Value} {args : Array Value} {w : World} {R R' : Ending → World → Prop} (h : CallsV P fv args w R) (hr : ∀ e w', R e w' → R' e w') : CallsV P fv args w R' := by
  obtain ⟨f, fn, first, cap, e, h1, h2, h3, h4⟩ := h
  exact ⟨f, fn, first, cap, e, h1, h2, h3, h4.mono hr⟩
/-- A call of a function that has no first and no captured arguments, as a function value's. -/
theorem CallsV.of {P : Program} {f : FuncId} {fn : Func} {first cap args all : Array Value} {w : World} {R : Ending → World → Prop} (hf : P.funcs[f]? = some fn) (hn : (fn.name == "runtime.NumGoroutine") = false) (hb : fn.body.isSome = true) (ha : first ++ args ++ cap = all) (h : Calls P f all w R) : CallsV P (.func (.func f) first cap) args w R :=
  ⟨f, fn, first, cap, rfl, hf, hn, hb, ha ▸ h⟩
theorem goesV_ {P : Program} {ops : Array Oper} {Q : Exit → Act → World → Prop} {rest : List Oper} {oi : Oper} {a : Act} {w : World} (N : Option Tmp) (hd : oi.dst = N) (hg : oi.guard = none) {fo : Operand} {cas : Array Operand} {ts : Array TypeId} (args : Array Value)
    (hop : oi.op = .call { callee := .value fo, args := cas, argTypes := ts }) (hargs : cas.map a.eval = args)
    (h : CallsV P (a.eval fo) args w fun e w' => ∃ v, e = .returned v ∧ wpList P ops Q rest (a.put N v) w') : wpList P ops Q (oi :: rest) a w := by
  refine wpList_plain hg fun K hK => ?_
  obtain ⟨f, fn, first, cap, e, hf, hname, hb, h⟩ := h
  have he := enters_ hf hname hb (first ++ args ++ cap) w
  have hrun : (execOp a.eval oi).run P w = .ok (.enter f (first ++ args ++ cap)) w := by
    unfold execOp
    simp only [hop, resolve, e, Deferred.ofValue, hargs]
    simp only [pure_bind]
    rw [Array.append_assoc] at he
    simp [invoke, he]
  unfold Oper.wp
  rw [hrun, Oper.upon_enter]
  refine h.mono fun e w'' hh => ?_
  obtain ⟨v, rfl, hk⟩ := hh
  subst hd
  exact hK _ _ hk
theorem gate_calleeV {P : Program} {ops : Array Oper} {Q : Exit → Act → World → Prop} {rest : List Oper} {o : Oper} {a : Act} {W : World} {t : Tmp} {cas : Array Operand} {ts : Array TypeId} (_ho : o.op = .call { callee := .value (.tmp t), args := cas, argTypes := ts }) (h : wpList P ops Q (o :: rest) a W) : wpList P ops Q (o :: rest) a W := h
theorem ret_int {k : IntKind} {a b : Int} (h : a = b) : Ending.returned (.int k a) = .returned (.int k b) := by rw [h]
theorem ret_bool {a b : Bool} (h : a = b) : Ending.returned (.bool a) = .returned (.bool b) := by rw [h]
theorem rd_get (l : List Int) (i : Nat) (h : i < l.length) : rd l i = l[i] := by simp [rd, List.getD, h]
theorem wrap64_id {x : Int} (h1 : -9223372036854775808 ≤ x) (h2 : x ≤ 9223372036854775807) : wrap64 x = x := by unfold wrap64; omega
theorem i16_id {x : Int} (h1 : -32768 ≤ x) (h2 : x ≤ 32767) : IntKind.i16.wrap x = x := by
  unfold IntKind.wrap
  simp only [IntKind.bits, IntKind.signed, Bool.true_and, decide_eq_true_eq, show (2 : Int) ^ 16 = 65536 from rfl, show (2 : Int) ^ (16 - 1) = 32768 from rfl]
  split <;> omega
end Go.Proofs.Ytpjibhedpieafaa.H
namespace Go.Proofs.Ytpjibhedpieafaa.M
/-- The lift at a step that may be any number. -/
def at_ (l : List Int) (i : Int) : Int := l.getD (i % (l.length : Int)).toNat 0
abbrev I16 (l : List Int) : Prop := ∀ x ∈ l, -32768 ≤ x ∧ x ≤ 32767
def isLiftB (x : Int) : Bool := decide (0 ≤ x) && decide (x ≤ 10000)
def isStepsB (n : Int) : Bool := decide (8 ≤ n) && decide (n ≤ 360)
def validB (l : List Int) : Bool := isStepsB l.length && !(l.any fun x => !isLiftB x)
/-- A valid cam. -/
structure Ok (l : List Int) : Prop where
  lo : 8 ≤ l.length
  hi : l.length ≤ 360
  lift : ∀ x ∈ l, 0 ≤ x ∧ x ≤ 10000
theorem validB_iff (l : List Int) : validB l = true ↔ Ok l := by
  unfold validB isStepsB isLiftB
  simp only [Bool.and_eq_true, decide_eq_true_eq, Bool.not_eq_true', List.any_eq_false, Bool.not_eq_true, Bool.not_eq_false', Bool.and_eq_true, decide_eq_true_eq]
  constructor
  · rintro ⟨⟨h1, h2⟩, h3⟩; exact ⟨by omega, by omega, fun x hx => by simpa using h3 x hx⟩
  · rintro ⟨h1, h2, h3⟩; exact ⟨⟨by omega, by omega⟩, fun x hx => by simpa using h3 x hx⟩
theorem Ok.i16 {l : List Int} (h : Ok l) : I16 l := fun x hx => by have := h.lift x hx; omega
theorem Ok.pos {l : List Int} (h : Ok l) : 0 < l.length := by have := h.lo; omega
theorem at_mem {l : List Int} (h : 0 < l.length) (i : Int) : at_ l i ∈ l := by
  unfold at_
  have h1 : 0 ≤ i % (l.length : Int) := Int.emod_nonneg _ (by omega)
  have h2 : i % (l.length : Int) < l.length := Int.emod_lt_of_pos _ (by omega)
  rw [List.getD_eq_getElem?_getD, List.getElem?_eq_getElem (by omega)]
  exact List.getElem_mem _
theorem at_nat {l : List Int} {i : Nat} (h : i < l.length) : at_ l i = l[i] := by
  unfold at_
  have : (i : Int) % (l.length : Int) = i := Int.emod_eq_of_lt (by omega) (by omega)
  rw [this]; simp [h]
theorem at_add_len (l : List Int) (i : Int) : at_ l (i + l.length) = at_ l i := by unfold at_; rw [Int.add_emod_right]
theorem at_mod (l : List Int) (i : Int) : at_ l (i % l.length) = at_ l i := by unfold at_; rw [Int.emod_emod]
/-- What a function tells of the first n numbers. -/
def mapN (n : Nat) (g : Int → Int) : List Int := (List.range n).map fun i => g (i : Nat)
theorem mapN_zero (g : Int → Int) : mapN 0 g = [] := rfl
theorem mapN_succ (n : Nat) (g : Int → Int) : mapN (n + 1) g = mapN n g ++ [g n] := by simp [mapN, List.range_succ]
theorem mapN_length (n : Nat) (g : Int → Int) : (mapN n g).length = n := by simp [mapN]
attribute [local simp] mapN_length
theorem mapN_get (n : Nat) (g : Int → Int) (i : Nat) (h : i < (mapN n g).length) : (mapN n g)[i] = g i := by simp [mapN]
theorem at_mapN {n : Nat} (g : Int → Int) (i : Int) (h : 0 < n) : at_ (mapN n g) i = g (i % n) := by
  unfold at_
  have h1 : 0 ≤ i % (n : Int) := Int.emod_nonneg _ (by omega)
  have h2 : i % (n : Int) < n := Int.emod_lt_of_pos _ (by omega)
  have h3 : (i % (n : Int)).toNat < (mapN n g).length := by simp; omega
  rw [mapN_length, List.getD_eq_getElem?_getD, List.getElem?_eq_getElem h3, Option.getD_some, mapN_get]
  congr 1; omega
theorem mem_mapN {n : Nat} {g : Int → Int} {x : Int} : x ∈ mapN n g ↔ ∃ i : Nat, i < n ∧ g i = x := by simp [mapN]
theorem mapN_congr {n : Nat} {g h : Int → Int} (e : ∀ i : Nat, i < n → g i = h i) : mapN n g = mapN n h := by
  unfold mapN; exact List.map_congr_left fun i hi => e i (List.mem_range.mp hi)
theorem mapN_at (l : List Int) : mapN l.length (at_ l) = l := by
  apply List.ext_getElem (by simp)
  intro i h1 h2
  rw [mapN_get]; exact at_nat h2
/-- Go's quotient rounded down. -/
theorem floor_tdiv {a b : Int} (hb : 0 < b) : a.tdiv b - (if a.tmod b < 0 then 1 else 0) = a / b := by
  rw [Int.tdiv_eq_ediv, Int.tmod_eq_emod]
  have h1 := Int.emod_nonneg a (show b ≠ 0 by omega)
  have h2 := Int.emod_lt_of_pos a hb
  have hn : (b.natAbs : Int) = b := by omega
  by_cases h : 0 ≤ a ∨ b ∣ a
  · simp only [if_pos h]; split <;> omega
  · simp only [if_neg h, Int.sign_eq_one_of_pos hb]; split <;> omega
abbrev changeAt (l : List Int) (i : Int) : Int := at_ l (i + 1) - at_ l i
def changes (l : List Int) : List Int := mapN l.length (changeAt l)
end Go.Proofs.Ytpjibhedpieafaa.M
namespace Go.Proofs.Ytpjibhedpieafaa.H
open Go.RowKit Go.Proofs.YtpjibhedpieafaaW.PrintWords Go.Proofs.YtpjibhedpieafaaW.PrintLast Go.Proofs.YtpjibhedpieafaaW.PrintMore Go.Proofs.Ytpjibhedpieafaa.M
attribute [local go_sem] max2_int min2_int max_two min_two max_three min_three max_four min_four
set_option maxHeartbeats 1000000 in
set_option maxRecDepth 100000 in
theorem impl_floorDiv_c (a b : Int) (w : World) (ha : -4611686018427387904 ≤ a ∧ a ≤ 4611686018427387904) (hb : 1 ≤ b ∧ b ≤ 4611686018427387904) :
    Calls Try.prog 187 #[.int .i64 a, .int .i64 b] w fun e w' => e = .returned (.int .i64 (a / b)) ∧ Drawn0 w w' := by
  have hne : ¬ b = 0 := by omega
  have hf := floor_tdiv (a := a) (b := b) (by omega)
  have hq : -4611686018427387904 ≤ a / b ∧ a / b ≤ 4611686018427387904 := by
    have := Int.natAbs_ediv_le_natAbs a b
    omega
  have hb1 : (b == 0) = false := beq_eq_false_iff_ne.mpr hne
  by_cases hm : a.tmod b < 0
  · have hmb : decide (a.tmod b < 0) = true := decide_eq_true hm
    rw [if_pos hm] at hf
    have HF := Aside0.mk hf
    have HQ := Aside0.mk hq
    clear hf hq
    go_enter Try.func187, Try.ntmps187
    go_wp2
    go_ret
    exact ⟨ret_int (by have := HF.out; have := HQ.out; rw [wrap64_id] <;> omega), ⟨⟨0, rfl⟩⟩⟩
  · have hmb : decide (a.tmod b < 0) = false := decide_eq_false hm
    rw [if_neg hm] at hf
    have HF := Aside0.mk hf
    have HQ := Aside0.mk hq
    clear hf hq
    go_enter Try.func187, Try.ntmps187
    go_wp2
    go_ret
    exact ⟨ret_int (by have := HF.out; have := HQ.out; omega), ⟨⟨0, rfl⟩⟩⟩
set_option maxHeartbeats 1000000 in
set_option maxRecDepth 100000 in
theorem impl_mod_c (a b : Int) (w : World) (ha : -4611686018427387904 ≤ a ∧ a ≤ 4611686018427387904) (hb : 1 ≤ b ∧ b ≤ 4611686018427387904) :
    Calls Try.prog 201 #[.int .i64 a, .int .i64 b] w fun e w' => e = .returned (.int .i64 (a % b)) ∧ Drawn0 w w' := by
  have H := Aside0.mk (And.intro ha hb)
  have e1 : a - b * (a / b) = a % b := by have := Int.emod_add_mul_ediv a b; omega
  have e2 : 0 ≤ a % b ∧ a % b < b := ⟨Int.emod_nonneg _ (by omega), Int.emod_lt_of_pos _ (by omega)⟩
  have E := Aside0.mk (And.intro e1 e2)
  clear ha hb e1 e2
  go_enter Try.func201, Try.ntmps201
  go_wp2_with (go_at_call 187; (with_reducible refine (impl_floorDiv_c a b _ H.out.1 H.out.2).mono ?_); rintro e_ w_ ⟨rfl, ⟨nd, rfl⟩⟩)
  go_ret
  refine ⟨ret_int ?_, (by first | exact Drawn0.refl _ | exact ⟨⟨_, rfl⟩⟩ | exact ⟨⟨_, World.drewN_drewN _ _ _⟩⟩ | (refine ⟨⟨_, ?_⟩⟩; simp only [World.drewN_drewN]; rfl))⟩
  obtain ⟨⟨ha, hb⟩⟩ := H
  obtain ⟨⟨e1, e2⟩⟩ := E
  rw [wrap64_id (x := b * (a / b)) (by omega) (by omega), wrap64_id (by omega) (by omega), e1]
/-- A slice that reads as a valid cam. -/
structure CamR (w : World) (A : Option Addr) (c : Nat) (l : List Int) : Prop where
  rd : Kd.C (Kd.int .i16) w A l.length l
  cap : l.length ≤ c
  ok : Ok l
theorem CamR.mv {w W : World} {A : Option Addr} {c : Nat} {l : List Int} (h : CamR w A c l) (hb : Below w.heap.size w W) : CamR W A c l := ⟨Kd.C_below h.rd hb, h.cap, h.ok⟩
theorem CamR.drewN {w : World} {A : Option Addr} {c : Nat} {l : List Int} (h : CamR w A c l) (n : Nat) : CamR (w.drewN n) A c l := ⟨Kd.C_drewN h.rd n, h.cap, h.ok⟩
theorem CamR.alloc {w : World} {A : Option Addr} {c : Nat} {l : List Int} (h : CamR w A c l) (o : Obj) : CamR (w.alloc o) A c l := h.mv (below_alloc (Below.refl _ _) o)
set_option maxHeartbeats 1000000 in
set_option maxRecDepth 100000 in
theorem impl_at_c (A : Option Addr) (c : Nat) (l : List Int) (i : Int) (w : World) (hr : CamR w A c l) (hi : -1099511627776 ≤ i ∧ i ≤ 1099511627776) :
    Calls Try.prog 129 #[.slice A l.length c, .int .i64 i] w fun e w' => e = .returned (.int .i64 (at_ l i)) ∧ Drawn0 w w' := by
  have hn := hr.ok.pos
  have hn2 := hr.ok.hi
  have e2 : 0 ≤ i % (l.length : Int) ∧ i % (l.length : Int) < l.length := ⟨Int.emod_nonneg _ (by omega), Int.emod_lt_of_pos _ (by omega)⟩
  obtain ⟨ad, e, hx⟩ := Kd.at_int hr.rd (i % (l.length : Int)) e2.1 (by omega)
  cases e
  have hv : at_ l i = rd l (i % (l.length : Int)) := rfl
  have hb := hr.ok.lift _ (at_mem hn i)
  rw [hv] at hb
  have HI := Aside0.mk hi
  have HN := Aside0.mk (And.intro hn hn2)
  have hb1 := hb.1
  have hb2 := hb.2
  obtain ⟨j, hj⟩ : ∃ j, i % (l.length : Int) = j := ⟨_, rfl⟩
  rw [hj] at hx e2 hb1 hb2
  have HJ := Aside0.mk hj
  have e21 := e2.1
  have e22 := e2.2
  have HV := Aside0.mk hv
  clear hr hi hb hv hj e2 hn hn2
  go_enter Try.func129, Try.ntmps129
  go_wp2_with (first | (go_at_call 201; (with_reducible refine (impl_mod_c _ _ _ (by have := HI.out; omega) (by have := HN.out; omega)).mono ?_); rintro e_ w_ ⟨rfl, ⟨nd, rfl⟩⟩; rw [HJ.out]) | go_in)
  go_ret
  exact ⟨ret_int (by rw [HV.out, HJ.out]), (by first | exact Drawn0.refl _ | exact ⟨⟨_, rfl⟩⟩ | exact ⟨⟨_, World.drewN_drewN _ _ _⟩⟩ | (refine ⟨⟨_, ?_⟩⟩; simp only [World.drewN_drewN]; rfl))⟩
set_option maxHeartbeats 1000000 in
set_option maxRecDepth 100000 in
theorem impl_change_c (A : Option Addr) (c : Nat) (l : List Int) (i : Int) (w : World) (hr : CamR w A c l) (hi : -1099511627770 ≤ i ∧ i ≤ 1099511627770) :
    Calls Try.prog 121 #[.slice A l.length c, .int .i64 i] w fun e w' => e = .returned (.int .i64 (changeAt l i)) ∧ Drawn0 w w' := by
  have H1 := hr.ok.lift _ (at_mem hr.ok.pos (i + 1))
  have H2 := hr.ok.lift _ (at_mem hr.ok.pos i)
  have HR := Aside0.mk hr
  have HI := Aside0.mk hi
  clear hr
  go_enter Try.func121, Try.ntmps121
  go_wp2_with (first | (go_at_call 129; (with_reducible refine (impl_at_c _ _ l _ _ (by repeat (first | exact HR.out | apply CamR.drewN)) (by have := HI.out; omega)).mono ?_); rintro e_ w_ ⟨rfl, ⟨nd, rfl⟩⟩))
  go_ret
  exact ⟨rfl, (by first | exact Drawn0.refl _ | exact ⟨⟨_, rfl⟩⟩ | exact ⟨⟨_, World.drewN_drewN _ _ _⟩⟩ | (refine ⟨⟨_, ?_⟩⟩; simp only [World.drewN_drewN]; rfl))⟩
set_option maxHeartbeats 1000000 in
theorem impl_steps_c (A : Option Addr) (n c : Nat) (w : World) : Calls Try.prog 127 #[.slice A n c] w fun e w' => e = .returned (.int .i64 n) ∧ Drawn0 w w' := by
  go_enter Try.func127, Try.ntmps127
  go_wp2
  go_ret
  exact ⟨rfl, (by first | exact Drawn0.refl _ | exact ⟨⟨_, rfl⟩⟩ | exact ⟨⟨_, World.drewN_drewN _ _ _⟩⟩ | (refine ⟨⟨_, ?_⟩⟩; simp only [World.drewN_drewN]; rfl))⟩
set_option maxHeartbeats 1000000 in
set_option maxRecDepth 100000 in
theorem impl_ValidCam1_c (x : Int) (w : World) (hx : -32768 ≤ x ∧ x ≤ 32767) : Calls Try.prog 217 #[.int .i16 x] w fun e w' => e = .returned (.bool (!isLiftB x)) ∧ Drawn0 w w' := by
  go_enter Try.func217, Try.ntmps217
  go_wp2
  all_goals go_ret
  all_goals exact ⟨ret_bool (by simp [isLiftB]; omega), (by first | exact Drawn0.refl _ | exact ⟨⟨_, rfl⟩⟩ | exact ⟨⟨_, World.drewN_drewN _ _ _⟩⟩ | (refine ⟨⟨_, ?_⟩⟩; simp only [World.drewN_drewN]; rfl))⟩
/-- The first place at which a function says yes, or -1. -/
def idxOf {α : Type} (g : α → Bool) (l : List α) : Int := match l.findIdx? g with | some i => (i : Int) | none => -1
theorem idxOf_none {α : Type} {g : α → Bool} {l : List α} (h : ∀ x ∈ l, g x = false) : idxOf g l = -1 := by
  unfold idxOf; rw [List.findIdx?_eq_none_iff.mpr (by simpa using h)]
theorem idxOf_some {α : Type} {g : α → Bool} {l : List α} {i : Nat} (hi : i < l.length) (h : ∀ x ∈ l.take i, g x = false) (hg : g l[i] = true) : idxOf g l = i := by
  unfold idxOf
  have : l.findIdx? g = some i := by
    rw [List.findIdx?_eq_some_iff_getElem]
    refine ⟨hi, hg, fun j hj => ?_⟩
    have := h l[j] (by rw [List.mem_take_iff_getElem]; exact ⟨j, by omega, rfl⟩)
    simp [this]
  rw [this]
theorem idxOf_any {α : Type} (g : α → Bool) (l : List α) : decide (0 ≤ idxOf g l) = l.any g := by
  unfold idxOf
  cases h : l.findIdx? g with
  | none => rw [List.findIdx?_eq_none_iff] at h; simp; simpa using h
  | some i => 
    have := List.findIdx?_isSome (xs := l) (p := g)
    rw [h] at this; simpa using this
/-- slices.IndexFunc: the first place at which a function says yes, or -1. -/
theorem indexFunc_i16_c (fv : Value) (A : Option Addr) (c : Nat) (l : List Int) (g : Int → Bool) (w : World) (hr : Kd.C (Kd.int .i16) w A l.length l) (hn : l.length ≤ 140737488351232)
    (hg : ∀ (x : Int) (W : World), x ∈ l → Drawn0 w W → CallsV Try.prog fv #[.int .i16 x] W fun e W' => e = .returned (.bool (g x)) ∧ Drawn0 W W') :
    Calls Try.prog 252 #[.slice A l.length c, fv] w fun e w' => e = .returned (.int .i64 (idxOf g l)) ∧ Drawn0 w w' := by
  have HR := Aside0.mk hr
  have HG := Aside0.mk hg
  clear hr hg
  go_enter Try.func252, Try.ntmps252
  go_wp2
  go_loopg [8] l.length (fun d v8 w' => ∃ i : Nat, v8 = .int .i64 i ∧ Aside0 (i ≤ l.length) ∧ Aside0 (d = l.length - i) ∧ Aside0 (∀ x ∈ l.take i, g x = false) ∧ Aside0 (Drawn0 w w'))
  case atStart => exact ⟨0, rfl, ⟨by omega⟩, ⟨by omega⟩, ⟨by simp⟩, ⟨Drawn0.refl _⟩⟩
  case round =>
    obtain ⟨i, rfl, h1, h2, h3, h4⟩ := hrel
    obtain ⟨n, rfl⟩ := h4.out.out
    by_cases hi : i < l.length
    · have hb : decide (i < l.length) = true := decide_eq_true hi
      obtain ⟨ad, e, hx⟩ := Kd.at_int HR.out (i : Int) (by omega) (by omega)
      cases e
      have E := Aside0.mk (rd_get l i hi)
      have HI := Aside0.mk hi
      simp only [Int.toNat_natCast] at hx
      go_wp2_with ((with_reducible refine gate_calleeV (t := 11) rfl ?_); refine goesV_ (some 16) rfl rfl #[.int .i16 (rd l i)] rfl (by simp only [List.map_toArray, List.map_cons, List.map_nil]; rfl) ?_; refine (HG.out (rd l i) _ (by rw [E.out]; exact List.getElem_mem _) ⟨⟨_, rfl⟩⟩).mono ?_; rintro e w' ⟨rfl, ⟨nd, rfl⟩⟩; refine ⟨_, rfl, ?_⟩)
      · have hg : g (rd l i) = true := by assumption
        go_ret
        exact ⟨ret_int (idxOf_some HI.out h3.out (by rw [← E.out]; exact hg)).symm, (by first | exact Drawn0.refl _ | exact ⟨⟨_, rfl⟩⟩ | exact ⟨⟨_, World.drewN_drewN _ _ _⟩⟩ | (refine ⟨⟨_, ?_⟩⟩; simp only [World.drewN_drewN]; rfl))⟩
      · have hg : g (rd l i) = false := by assumption
        go_roundg (l.length - (i + 1))
        case measure => have := h2.out; have := HI.out; omega
        case rel => exact ⟨i + 1, by simp, ⟨by have := HI.out; omega⟩, ⟨rfl⟩, ⟨by intro x hx; rw [List.take_succ_eq_append_getElem HI.out] at hx; rcases List.mem_append.mp hx with h | h; exact h3.out x h; rw [List.mem_singleton.mp h, ← E.out]; exact hg⟩, (by first | exact Drawn0.refl _ | exact ⟨⟨_, rfl⟩⟩ | exact ⟨⟨_, World.drewN_drewN _ _ _⟩⟩ | (refine ⟨⟨_, ?_⟩⟩; simp only [World.drewN_drewN]; rfl))⟩
    · have hge : l.length ≤ i := by omega
      go_wp2
      go_ret
      refine ⟨ret_int (idxOf_none ?_).symm, h4.out⟩
      intro x hx
      exact h3.out x (by rwa [List.take_of_length_le hge])
theorem containsFunc_i16_c (fv : Value) (A : Option Addr) (c : Nat) (l : List Int) (g : Int → Bool) (w : World) (hr : Kd.C (Kd.int .i16) w A l.length l) (hn : l.length ≤ 140737488351232)
    (hg : ∀ (x : Int) (W : World), x ∈ l → Drawn0 w W → CallsV Try.prog fv #[.int .i16 x] W fun e W' => e = .returned (.bool (g x)) ∧ Drawn0 W W') :
    Calls Try.prog 216 #[.slice A l.length c, fv] w fun e w' => e = .returned (.bool (l.any g)) ∧ Drawn0 w w' := by
  have HR := Aside0.mk hr
  have HG := Aside0.mk hg
  have HA := Aside0.mk (idxOf_any g l)
  clear hr hg
  go_enter Try.func216, Try.ntmps216
  go_wp2_with (go_at_call 252; (with_reducible refine (indexFunc_i16_c fv _ _ l g _ HR.out hn HG.out).mono ?_); rintro e_ w_ ⟨rfl, ⟨nd, rfl⟩⟩)
  go_ret
  exact ⟨ret_bool (by rw [← HA.out]), (by first | exact Drawn0.refl _ | exact ⟨⟨_, rfl⟩⟩ | exact ⟨⟨_, World.drewN_drewN _ _ _⟩⟩ | (refine ⟨⟨_, ?_⟩⟩; simp only [World.drewN_drewN]; rfl))⟩
set_option maxHeartbeats 1000000 in
set_option maxRecDepth 100000 in
theorem impl_ValidCam_c (A : Option Addr) (c : Nat) (l : List Int) (w : World) (hr : Kd.C (Kd.int .i16) w A l.length l) (h16 : I16 l) (hn : l.length ≤ 140737488351232) :
    Calls Try.prog 118 #[.slice A l.length c] w fun e w' => e = .returned (.bool (validB l)) ∧ Drawn0 w w' := by
  have HR := Aside0.mk hr
  have H16 := Aside0.mk h16
  clear hr h16
  go_enter Try.func118, Try.ntmps118
  go_wp2_with (first | (go_at_call 216; (with_reducible refine (containsFunc_i16_c _ _ _ l (fun x => !isLiftB x) _ (by repeat (first | exact HR.out | (with_reducible refine Kd.C_drewN ?_ _) | (with_reducible refine Kd.C_drew ?_) | (with_reducible refine Kd.C_alloc ?_ _))) hn (fun x W hx hd => CallsV.of Try.func217 rfl rfl rfl (impl_ValidCam1_c x W (H16.out x hx)))).mono ?_); rintro e_ w_ ⟨rfl, ⟨nd, rfl⟩⟩) | go_in)
  all_goals go_ret
  all_goals exact ⟨ret_bool (by unfold validB isStepsB; first | (rw [show decide (8 ≤ (l.length : Int)) = true from decide_eq_true (by omega), show decide ((l.length : Int) ≤ 360) = true from decide_eq_true (by omega)]; rfl) | (simp; omega)), (by first | exact Drawn0.refl _ | exact ⟨⟨_, rfl⟩⟩ | exact ⟨⟨_, World.drewN_drewN _ _ _⟩⟩ | (refine ⟨⟨_, ?_⟩⟩; simp only [World.drewN_drewN]; rfl))⟩
/-- A valid cam is valid. -/
theorem impl_ValidCam_ok (A : Option Addr) (c : Nat) (l : List Int) (w : World) (hr : CamR w A c l) :
    Calls Try.prog 118 #[.slice A l.length c] w fun e w' => e = .returned (.bool true) ∧ Drawn0 w w' := by
  have := impl_ValidCam_c A c l w hr.rd hr.ok.i16 (by have := hr.ok.hi; omega)
  rwa [(validB_iff l).mpr hr.ok] at this
theorem info_i16 : (Try.prog.info? 51).map (fun i => (i.zero, i.size, i.bytes)) = some (some (.int .i16 0), 1, 2) := by kernel_rfl
set_option maxHeartbeats 1000000 in
set_option maxRecDepth 100000 in
/-- camOf with a function all of whose values are lifts. -/
theorem impl_camOf_ok (n : Nat) (fv : Value) (g : Int → Int) (w : World) (hn : n ≤ 1099511627776) (hl : ∀ i : Nat, i < n → 0 ≤ g i ∧ g i ≤ 10000)
    (hg : ∀ (i : Nat) (W : World), i < n → Below w.heap.size w W → CallsV Try.prog fv #[.int .i64 i] W fun e W' => e = .returned (.int .i64 (g i)) ∧ Below W.heap.size W W') :
    Calls Try.prog 126 #[.int .i64 n, fv] w fun e w' => ∃ v : Value, e = .returned (.tuple #[v, .int .i64 0]) ∧ Kd.R (Kd.int .i16) 51 w' w.heap.size (fun _ => True) v (mapN n g) ∧ Below w.heap.size w w' := by
  have HG := Aside0.mk hg
  have HL := Aside0.mk hl
  have HB := Aside0.mk (Below.refl w.heap.size w)
  clear hg hl
  go_enter Try.func126, Try.ntmps126
  go_wp2_with ((with_reducible refine gate_dst (N := 9) rfl ?_); refine Kd.R_lit (Kd.int .i16) _ 51 ?hg (N := 9) ?hd (xs := ([] : List _)) (inner := []) (ok := fun _ => True) (okp := fun _ => True) ?hr ?hp (fun _ hk => hk) trivial (Below.refl _ _) (Nat.le_refl _) (by simp) ?_; (case hd => rfl); (case hg => rfl); (case hr => first | (go_simp; done) | (go_simp; rfl)); (case hp => exact (Reps.none _ _)); intro v1 w1 ho1 hb1 hg_ hnew_; clear hg_ hnew_)
  have HO := Aside0.mk ho1
  have HB1 := Aside0.mk hb1
  clear ho1 hb1
  go_loopg [6, 11] n (fun d v6 v11 w' => ∃ i : Nat, v11 = .int .i64 i ∧ Aside0 (i ≤ n) ∧ Aside0 (d = n - i) ∧ Aside0 (Kd.R (Kd.int .i16) 51 w' w.heap.size (fun _ => True) v6 (mapN i g)) ∧ Aside0 (Below w.heap.size w w'))
  case atStart => exact ⟨0, rfl, ⟨by omega⟩, ⟨by omega⟩, HO, HB1⟩
  case round =>
    clear HO HB1
    obtain ⟨i, rfl, h1, h2, HO, HB⟩ := hrel
    by_cases hi : i < n
    · have HI := Aside0.mk hi
      have hb : decide ((i : Int) < n) = true := decide_eq_true (by omega)
      have hl1 := (HL.out i hi).1
      have hl2 := (HL.out i hi).2
      have e16 := i16_id (x := g i) (by omega) (by omega)
      have E := Aside0.mk e16
      clear e16
      go_wp2_with (first | ((with_reducible refine gate_calleeV (t := 14) rfl ?_); refine goesV_ (some 16) rfl rfl #[.int .i64 (i : Int)] rfl (by simp only [List.map_toArray, List.map_cons, List.map_nil]; rfl) ?_; refine (HG.out i _ HI.out HB.out).mono ?_; rintro e w' ⟨rfl, hb9⟩; refine ⟨_, rfl, ?_⟩; have n0_ := Aside0.mk (Kd.R_below HO.out hb9); have n1_ := Aside0.mk (below_step HB.out hb9); clear HO HB hb9; have HO := n0_; have HB := n1_; clear n0_ n1_) | ((with_reducible refine gate_builtin (b := .append) (xs := #[.tmp 20, .tmp 23]) rfl ?_); at_builtin; refine Kd.R_append (Kd.int .i16) (w0 := w) w.heap.size rfl (.tmp 20) (.tmp 23) 29 51 (.int .i16 0) 2 rfl Try.underlying29 info_i16 rfl (by decide) (by omega) u6 (mapN i g) (g i) [.int .i16 (g i)] (fun _ => True) (fun _ => False) rfl rfl ?aP (fun _ hk => hk.elim) ?aF ?aO ?aB ?aS ?aL ?_; (case aP => exact rfl); (case aB => exact (by repeat (first | (with_reducible first | exact HB.out | apply below_alloc | apply pw_below_drewN | apply below_drew1) | exact HB.out))); (case aF => exact (fun _ _ => trivial)); (case aO => exact (by (with_reducible repeat (first | apply Kd.R_alloc | apply Kd.R_drewN | apply Kd.R_drew)); exact HO.out)); (case aS => exact (below_size (by repeat (first | (with_reducible first | exact HB.out | apply below_alloc | apply pw_below_drewN | apply below_drew1) | exact HB.out)))); (case aL => (have := HI.out; rw [mapN_length]; omega)); intro v2 w2 ho2 hb2 hg_ hat_; clear hg_ hat_) | go_in)
      rw [← mapN_succ] at ho2
      go_roundg (n - (i + 1))
      case measure => have := h2.out; have := HI.out; omega
      case rel => exact ⟨i + 1, by simp, ⟨by have := HI.out; omega⟩, ⟨rfl⟩, ⟨ho2⟩, ⟨hb2⟩⟩
    · have hge : n ≤ i := by omega
      have hin : i = n := by have := h1.out; omega
      subst hin
      go_wp2
      go_ret2
      exact ⟨_, rfl, HO.out, HB.out⟩
end Go.Proofs.Ytpjibhedpieafaa.H
namespace Go.Proofs.Ytpjibhedpieafaa.H
open Go.RowKit Go.Proofs.YtpjibhedpieafaaW.PrintWords Go.Proofs.YtpjibhedpieafaaW.PrintLast Go.Proofs.YtpjibhedpieafaaW.PrintMore Go.Proofs.Ytpjibhedpieafaa.M
def i16B (l : List Int) : Bool := l.all fun x => decide (-32768 ≤ x) && decide (x ≤ 32767)
theorem i16B_iff {l : List Int} : i16B l = true ↔ I16 l := by unfold i16B I16; simp [List.all_eq_true]
theorem ok_i16B {l : List Int} (h : Ok l) : i16B l = true := i16B_iff.mpr h.i16
theorem cam_of {w : World} {A : Option Addr} {c : Nat} {l : List Int} (h : validB l = true) (hr : Kd.C (Kd.int .i16) w A l.length l) (hc : l.length ≤ c) : CamR w A c l := ⟨hr, hc, (validB_iff l).mp h⟩
def impl_ValidCam.f (l0 : List Int) : Option Bool := if i16B l0 = true ∧ l0.length ≤ 140737488351232 then some (validB l0) else none
theorem impl_ValidCam.calls (A0 : Option Addr) (c0 : Nat) (l0 : List Int) (r : Bool) (w : World) (hr0 : Kd.C (Kd.int .i16) w A0 l0.length l0) (hc0 : l0.length ≤ c0) (h : impl_ValidCam.f l0 = some r) :
    Calls Try.prog 118 #[.slice A0 l0.length c0] w fun e w' => e = .returned (.bool r) ∧ Drawn0 w w' := by
  unfold impl_ValidCam.f at h
  split at h
  · rename_i hc
    obtain rfl := Option.some.inj h
    exact impl_ValidCam_c A0 c0 l0 w hr0 (i16B_iff.mp hc.1) hc.2
  · cases h
theorem ValidCam_some {l : List Int} (h : Ok l) : impl_ValidCam.f l = some true := by
  unfold impl_ValidCam.f
  rw [if_pos ⟨ok_i16B h, by have := h.hi; omega⟩, (validB_iff l).mpr h]
end Go.Proofs.Ytpjibhedpieafaa.H
namespace Go.Proofs.Ytpjibhedpieafaa.H
open Go.RowKit Go.Proofs.YtpjibhedpieafaaW.PrintWords Go.Proofs.YtpjibhedpieafaaW.PrintLast Go.Proofs.YtpjibhedpieafaaW.PrintMore Go.Proofs.Ytpjibhedpieafaa.M
attribute [local go_sem] max2_int min2_int max_two min_two max_three min_three max_four min_four
theorem info_i64 : (Try.prog.info? 2).map (fun i => (i.zero, i.size, i.bytes)) = some (some (.int .i64 0), 1, 8) := by kernel_rfl
set_option maxHeartbeats 1000000 in
set_option maxRecDepth 100000 in
/-- numbers: what a function tells of all steps. -/
theorem impl_numbers_c (A : Option Addr) (c : Nat) (n : Nat) (fv : Value) (g : Int → Int) (w : World) (hn : n ≤ 1099511627776)
    (hg : ∀ (i : Nat) (W : World), i < n → Below w.heap.size w W → CallsV Try.prog fv #[.int .i64 i] W fun e W' => e = .returned (.int .i64 (g i)) ∧ Below W.heap.size W W') :
    Calls Try.prog 120 #[.slice A n c, fv] w fun e w' => ∃ v : Value, e = .returned v ∧ Kd.R (Kd.int .i64) 2 w' w.heap.size (fun _ => True) v (mapN n g) ∧ Below w.heap.size w w' := by
  have HG := Aside0.mk hg
  have HB := Aside0.mk (Below.refl w.heap.size w)
  clear hg
  go_enter Try.func120, Try.ntmps120
  go_wp2_with (first | (go_at_call 127; (with_reducible refine (impl_steps_c _ _ _ _).mono ?_); rintro e_ w_ ⟨rfl, ⟨nd, rfl⟩⟩) | ((with_reducible refine gate_dst (N := 7) rfl ?_); refine Kd.R_lit (Kd.int .i64) _ 2 ?hg (N := 7) ?hd (xs := ([] : List _)) (inner := []) (ok := fun _ => True) (okp := fun _ => True) ?hr ?hp (fun _ hk => hk) trivial (Below.refl _ _) (Nat.le_refl _) (by simp) ?_; (case hd => rfl); (case hg => rfl); (case hr => first | (go_simp; done) | (go_simp; rfl)); (case hp => exact (Reps.none _ _)); intro v1 w1 ho1 hb1 hg_ hnew_; clear hg_ hnew_))
  have HO := Aside0.mk (Kd.R_drewN ho1 nd)
  have HB1 := Aside0.mk (pw_below_drewN hb1 nd)
  clear ho1 hb1
  go_loopg [5, 10] n (fun d v5 v10 w' => ∃ i : Nat, v10 = .int .i64 i ∧ Aside0 (i ≤ n) ∧ Aside0 (d = n - i) ∧ Aside0 (Kd.R (Kd.int .i64) 2 w' w.heap.size (fun _ => True) v5 (mapN i g)) ∧ Aside0 (Below w.heap.size w w'))
  case atStart => exact ⟨0, rfl, ⟨by omega⟩, ⟨by omega⟩, HO, HB1⟩
  case round =>
    clear HO HB1
    obtain ⟨i, rfl, h1, h2, HO, HB⟩ := hrel
    by_cases hi : i < n
    · have HI := Aside0.mk hi
      have hb : decide ((i : Int) < n) = true := decide_eq_true (by omega)
      go_wp2_with (first | ((with_reducible refine gate_calleeV (t := 14) rfl ?_); refine goesV_ (some 16) rfl rfl #[.int .i64 (i : Int)] rfl (by simp only [List.map_toArray, List.map_cons, List.map_nil]; rfl) ?_; refine (HG.out i _ HI.out HB.out).mono ?_; rintro e w' ⟨rfl, hb9⟩; refine ⟨_, rfl, ?_⟩; have n0_ := Aside0.mk (Kd.R_below HO.out hb9); have n1_ := Aside0.mk (below_step HB.out hb9); clear HO HB hb9; have HO := n0_; have HB := n1_; clear n0_ n1_) | ((with_reducible refine gate_builtin (b := .append) (xs := #[.tmp 13, .tmp 17]) rfl ?_); at_builtin; refine Kd.R_append (Kd.int .i64) (w0 := w) w.heap.size rfl (.tmp 13) (.tmp 17) 47 2 (.int .i64 0) 8 rfl Try.underlying47 info_i64 rfl (by decide) (by omega) u5 (mapN i g) (g i) [.int .i64 (g i)] (fun _ => True) (fun _ => False) rfl rfl ?aP (fun _ hk => hk.elim) ?aF ?aO ?aB ?aS ?aL ?_; (case aP => exact rfl); (case aB => exact (by repeat (first | (with_reducible first | exact HB.out | apply below_alloc | apply pw_below_drewN | apply below_drew1) | exact HB.out))); (case aF => exact (fun _ _ => trivial)); (case aO => exact (by (with_reducible repeat (first | apply Kd.R_alloc | apply Kd.R_drewN | apply Kd.R_drew)); exact HO.out)); (case aS => exact (below_size (by repeat (first | (with_reducible first | exact HB.out | apply below_alloc | apply pw_below_drewN | apply below_drew1) | exact HB.out)))); (case aL => (have := HI.out; rw [mapN_length]; omega)); intro v2 w2 ho2 hb2 hg_ hat_; clear hg_ hat_))
      rw [← mapN_succ] at ho2
      go_roundg (n - (i + 1))
      case measure => have := h2.out; have := HI.out; omega
      case rel => exact ⟨i + 1, by simp, ⟨by have := HI.out; omega⟩, ⟨rfl⟩, ⟨ho2⟩, ⟨hb2⟩⟩
    · have hge : n ≤ i := by omega
      have hin : i = n := by have := h1.out; omega
      subst hin
      go_wp2
      go_ret
      exact ⟨_, rfl, HO.out, HB.out⟩
/-- A row that reads as numbers, laid open. -/
theorem R_open {k : IntKind} {e base : Nat} {w : World} {v : Value} {l : List Int} {ok : Nat → Prop} (h : Kd.R (Kd.int k) e w base ok v l) : ∃ A c, v = .slice A l.length c ∧ l.length ≤ c ∧ Kd.C (Kd.int k) w A l.length l := Kd.R_reads h
/-- A slice that reads as int64s. -/
structure NumR (w : World) (A : Option Addr) (c : Nat) (l : List Int) : Prop where
  rd : Kd.C (Kd.int .i64) w A l.length l
  cap : l.length ≤ c
theorem NumR.mv {w W : World} {A : Option Addr} {c : Nat} {l : List Int} (h : NumR w A c l) (hb : Below w.heap.size w W) : NumR W A c l := ⟨Kd.C_below h.rd hb, h.cap⟩
theorem NumR.drewN {w : World} {A : Option Addr} {c : Nat} {l : List Int} (h : NumR w A c l) (n : Nat) : NumR (w.drewN n) A c l := ⟨Kd.C_drewN h.rd n, h.cap⟩
theorem NumR.alloc {w : World} {A : Option Addr} {c : Nat} {l : List Int} (h : NumR w A c l) (o : Obj) : NumR (w.alloc o) A c l := h.mv (below_alloc (Below.refl _ _) o)
theorem change_bd {l : List Int} (h : Ok l) (i : Int) : -10000 ≤ changeAt l i ∧ changeAt l i ≤ 10000 := by
  have h1 := h.lift _ (at_mem h.pos i)
  have h2 := h.lift _ (at_mem h.pos (i + 1))
  unfold changeAt; omega
end Go.Proofs.Ytpjibhedpieafaa.H
namespace Go.Proofs.Ytpjibhedpieafaa.M
attribute [local simp] mapN_length
theorem at_periodic {l : List Int} {i j : Int} (h : i % l.length = j % l.length) : at_ l i = at_ l j := by unfold at_; rw [h]
theorem changeAt_mem {l : List Int} (h : 0 < l.length) (i : Int) : changeAt l i ∈ changes l := by
  refine mem_mapN.mpr ⟨(i % l.length).toNat, ?_, ?_⟩
  · have := Int.emod_lt_of_pos i (show (0 : Int) < l.length by omega); have := Int.emod_nonneg i (show (l.length : Int) ≠ 0 by omega); omega
  · have := Int.emod_nonneg i (show (l.length : Int) ≠ 0 by omega)
    rw [Int.toNat_of_nonneg this]
    unfold changeAt
    rw [at_mod, at_periodic (i := i % l.length + 1) (j := i + 1) (by rw [Int.add_emod, Int.emod_emod, ← Int.add_emod])]
end Go.Proofs.Ytpjibhedpieafaa.M
namespace Go.Proofs.Ytpjibhedpieafaa.M
attribute [local simp] mapN_length
/-- The whole number nearest to a / b, halves going up. -/
def near (a b : Int) : Int := (2 * a + b) / (2 * b)
theorem near_add {x d t : Int} (ht : 0 < t) : near (x * t + d) t = x + near d t := by
  unfold near
  have e : x * (2 * t) = 2 * (x * t) := by rw [Int.mul_left_comm]
  rw [show 2 * (x * t + d) + t = (2 * d + t) + x * (2 * t) by omega, Int.add_mul_ediv_right _ _ (by omega)]; omega
theorem near_zero {t : Int} (ht : 0 < t) : near 0 t = 0 := by
  unfold near; exact Int.ediv_eq_zero_of_lt (by omega) (by omega)
theorem near_self {x t : Int} (ht : 0 < t) : near (x * t) t = x := by
  have := near_add (x := x) (d := 0) ht
  rw [near_zero ht] at this; simpa using this
theorem near_mono {a b t : Int} (ht : 0 < t) (h : a ≤ b) : near a t ≤ near b t := Int.ediv_le_ediv (by omega) (by omega)
theorem near_le {a t m : Int} (ht : 0 < t) (h : a ≤ m * t) : near a t ≤ m := by have := near_mono ht h; rwa [near_self ht] at this
theorem near_ge {a t m : Int} (ht : 0 < t) (h : m * t ≤ a) : m ≤ near a t := by have := near_mono ht h; rwa [near_self ht] at this
abbrev addAt (a b : List Int) (i : Int) : Int := at_ a i + at_ b i
abbrev blendAt (a b : List Int) (s i : Int) : Int := near (at_ a i * (100 - s) + at_ b i * s) 100
abbrev raiseAt (a : List Int) (by_ i : Int) : Int := at_ a i + by_
abbrev scaleAt (a : List Int) (t o i : Int) : Int := near (at_ a i * t) o
abbrev refAt (a : List Int) (t i : Int) : Int := near (at_ a (i / t) * t + (at_ a (i / t + 1) - at_ a (i / t)) * (i % t)) t
abbrev thinAt (a : List Int) (t i : Int) : Int := at_ a (i * t)
theorem blend_ge {a b : List Int} {s i : Int} (h0 : 0 ≤ s) (h1 : s ≤ 100) : min (at_ a i) (at_ b i) ≤ blendAt a b s i := by
  refine near_ge (by omega) ?_
  have h2 := Int.mul_le_mul_of_nonneg_right (show min (at_ a i) (at_ b i) ≤ at_ a i by omega) (show 0 ≤ 100 - s by omega)
  have h3 := Int.mul_le_mul_of_nonneg_right (show min (at_ a i) (at_ b i) ≤ at_ b i by omega) h0
  rw [Int.mul_sub] at h2
  omega
theorem blend_le {a b : List Int} {s i : Int} (h0 : 0 ≤ s) (h1 : s ≤ 100) : blendAt a b s i ≤ max (at_ a i) (at_ b i) := by
  refine near_le (by omega) ?_
  have h2 := Int.mul_le_mul_of_nonneg_right (show at_ a i ≤ max (at_ a i) (at_ b i) by omega) (show 0 ≤ 100 - s by omega)
  have h3 := Int.mul_le_mul_of_nonneg_right (show at_ b i ≤ max (at_ a i) (at_ b i) by omega) h0
  rw [Int.mul_sub (max _ _)] at h2
  omega
theorem at_map {n : Nat} {g : Int → Int} {i : Nat} (h : i < n) : at_ (mapN n g) i = g i := by
  rw [at_mapN g i (by omega), Int.emod_eq_of_lt (by omega) (by omega)]
theorem raise_back (a : List Int) (d : Int) : mapN (mapN a.length (raiseAt a d)).length (raiseAt (mapN a.length (raiseAt a d)) (-d)) = a := by
  rw [mapN_length]
  conv => rhs; rw [← mapN_at a]
  refine mapN_congr fun i hi => ?_
  unfold raiseAt; rw [at_map hi]; omega
theorem scale_back (a : List Int) : mapN (mapN a.length (scaleAt a 2 1)).length (scaleAt (mapN a.length (scaleAt a 2 1)) 1 2) = a := by
  rw [mapN_length]
  conv => rhs; rw [← mapN_at a]
  refine mapN_congr fun i hi => ?_
  unfold scaleAt; rw [at_map hi, show near (at_ a i * 2) 1 = at_ a i * 2 by have := near_self (x := at_ a i * 2) (t := 1) (by omega); rwa [Int.mul_one] at this, Int.mul_one, near_self (by omega)]
theorem ref_at (a : List Int) {t : Int} (ht : 0 < t) (i : Int) : refAt a t i = at_ a (i / t) + near ((at_ a (i / t + 1) - at_ a (i / t)) * (i % t)) t := near_add ht
theorem ref_mul (a : List Int) {t : Int} (ht : 0 < t) (i : Int) : refAt a t (i * t) = at_ a i := by
  rw [ref_at a ht, Int.mul_ediv_cancel _ (by omega), Int.mul_emod_left, Int.mul_zero, near_zero ht]; omega
theorem thin_back (a : List Int) (t : Nat) (ht : 0 < t) (h : 0 < a.length) : mapN a.length (thinAt (mapN (a.length * t) (refAt a t)) t) = a := by
  conv => rhs; rw [← mapN_at a]
  refine mapN_congr fun i hi => ?_
  unfold thinAt
  rw [show (i : Int) * (t : Int) = ((i * t : Nat) : Int) by simp, at_map (Nat.mul_lt_mul_of_pos_right hi ht), show ((i * t : Nat) : Int) = (i : Int) * t by simp, ref_mul a (by omega)]
theorem ref_step (a : List Int) {t : Int} (ht : 0 < t) (i : Int) : refAt a t (i + 1) - refAt a t i = near (changeAt a (i / t) * (i % t) + changeAt a (i / t)) t - near (changeAt a (i / t) * (i % t)) t := by
  have hm := Int.emod_nonneg i (show t ≠ 0 by omega)
  have hl := Int.emod_lt_of_pos i ht
  have hd := Int.mul_ediv_add_emod i t
  rw [ref_at a ht, ref_at a ht]
  by_cases h : i % t + 1 < t
  · have e1 : (i + 1) / t = i / t := by rw [Int.ediv_eq_iff_of_pos ht] <;> (try rw [Int.mul_comm] at hd) <;> omega
    have e2 : (i + 1) % t = i % t + 1 := by have := Int.mul_ediv_add_emod (i + 1) t; rw [e1] at this; omega
    rw [e1, e2, Int.mul_add, Int.mul_one]; unfold changeAt; omega
  · have e3 : i + 1 = (i / t + 1) * t := by rw [Int.add_mul, Int.one_mul, Int.mul_comm]; omega
    have e1 : (i + 1) / t = i / t + 1 := by rw [e3, Int.mul_ediv_cancel _ (by omega)]
    have e2 : (i + 1) % t = 0 := by rw [e3, Int.mul_emod_left]
    have e4 : i % t = t - 1 := by omega
    rw [e1, e2, Int.mul_zero, near_zero ht, e4, show changeAt a (i / t) * (t - 1) + changeAt a (i / t) = changeAt a (i / t) * t by rw [Int.mul_sub, Int.mul_one]; omega, near_self ht]
    unfold changeAt; omega
theorem near_diff {d z t : Int} (ht : 0 < t) : (0 ≤ d → 0 ≤ near (z + d) t - near z t ∧ near (z + d) t - near z t ≤ d) ∧ (d ≤ 0 → d ≤ near (z + d) t - near z t ∧ near (z + d) t - near z t ≤ 0) := by
  have e := near_add (x := d) (d := z) ht
  rw [Int.add_comm (d * t)] at e
  refine ⟨fun h => ?_, fun h => ?_⟩
  · have h1 : d * 1 ≤ d * t := Int.mul_le_mul_of_nonneg_left (by omega) h
    have h2 := near_mono ht (show z ≤ z + d by omega)
    have h3 := near_mono ht (show z + d ≤ z + d * t by omega)
    omega
  · have h1 : (-d) * 1 ≤ (-d) * t := Int.mul_le_mul_of_nonneg_left (by omega) (by omega)
    rw [Int.neg_mul, Int.neg_mul] at h1
    have h2 := near_mono ht (show z + d ≤ z by omega)
    have h3 := near_mono ht (show z + d * t ≤ z + d by omega)
    omega
abbrev siz (x : Int) : Int := if x < 0 then -x else x
def big (l : List Int) : Int := l.foldl (fun m x => max m (siz x)) (-1)
theorem big_succ (l : List Int) (x : Int) : big (l ++ [x]) = max (big l) (siz x) := by simp [big]
theorem fold_big_le (l : List Int) (m b : Int) (h : m ≤ b) (hb : ∀ x ∈ l, siz x ≤ b) : l.foldl (fun m x => max m (siz x)) m ≤ b := by
  induction l generalizing m with
  | nil => exact h
  | cons y ys ih => exact ih _ (by have := hb y (by simp); show max m (siz y) ≤ b; omega) (fun x hx => hb x (List.mem_cons_of_mem _ hx))
theorem fold_big_ge (l : List Int) (m : Int) : m ≤ l.foldl (fun m x => max m (siz x)) m ∧ ∀ x ∈ l, siz x ≤ l.foldl (fun m x => max m (siz x)) m := by
  induction l generalizing m with
  | nil => simp
  | cons y ys ih =>
    have h := ih (max m (siz y))
    simp only [List.foldl_cons]
    refine ⟨by omega, fun x hx => ?_⟩
    rcases List.mem_cons.mp hx with rfl | hx
    · omega
    · exact h.2 x hx
theorem big_le {l : List Int} {b : Int} (h : -1 ≤ b) (hb : ∀ x ∈ l, siz x ≤ b) : big l ≤ b := fold_big_le l _ b h hb
theorem le_big {l : List Int} {x : Int} (h : x ∈ l) : siz x ≤ big l := (fold_big_ge l _).2 x h
theorem big_ge (l : List Int) : -1 ≤ big l := (fold_big_ge l _).1
theorem ref_slow (a : List Int) (t : Nat) (ht : 0 < t) (h : 0 < a.length) : big (changes (mapN (a.length * t) (refAt a t))) ≤ big (changes a) := by
  refine big_le (big_ge _) fun x hx => ?_
  obtain ⟨i, hi, e⟩ := mem_mapN.mp hx
  rw [mapN_length] at hi
  have hp : 0 < a.length * t := Nat.mul_pos h ht
  have e0 : at_ (mapN (a.length * t) (refAt a t)) i = refAt a t i := at_map hi
  have e1 : at_ (mapN (a.length * t) (refAt a t)) ((i : Int) + 1) = refAt a t ((i : Int) + 1) := by
    by_cases hl : i + 1 < a.length * t
    · exact at_map (i := i + 1) hl
    · have hh : (i : Int) + 1 = (a.length : Int) * (t : Int) := by
        have hq : i + 1 = a.length * t := by omega
        have hz := congrArg (fun n : Nat => (n : Int)) hq
        simpa using hz
      rw [hh, ref_mul a (by omega), show (a.length : Int) * (t : Int) = 0 + ((mapN (a.length * t) (refAt a t)).length : Int) by rw [mapN_length]; simp, at_add_len]
      have h0 := at_map (n := a.length * t) (g := refAt a t) (i := 0) hp
      have h1 := ref_mul a (t := t) (by omega) 0
      rw [Int.zero_mul] at h1
      rw [show ((0 : Nat) : Int) = 0 from rfl] at h0
      have h2 := at_add_len a 0
      rw [Int.zero_add] at h2
      rw [h0, h1, h2]
  have hx2 : x = refAt a t ((i : Int) + 1) - refAt a t i := by rw [← e]; show at_ _ _ - at_ _ _ = _; rw [e0, e1]
  rw [ref_step a (by omega)] at hx2
  have hm := le_big (changeAt_mem h ((i : Int) / t))
  have := near_diff (d := changeAt a ((i : Int) / t)) (z := changeAt a ((i : Int) / t) * ((i : Int) % t)) (t := t) (by omega)
  generalize changeAt a ((i : Int) / t) * ((i : Int) % t) = z at *
  generalize changeAt a ((i : Int) / t) = d at *
  have h1 := this.1; have h2 := this.2
  unfold siz at *
  split <;> split at hm <;> omega
end Go.Proofs.Ytpjibhedpieafaa.M
namespace Go.Proofs.Ytpjibhedpieafaa.H
open Go.RowKit Go.Proofs.YtpjibhedpieafaaW.PrintWords Go.Proofs.YtpjibhedpieafaaW.PrintLast Go.Proofs.YtpjibhedpieafaaW.PrintMore Go.Proofs.Ytpjibhedpieafaa.M
attribute [local go_sem] max2_int min2_int max_two min_two max_three min_three max_four min_four
theorem impl_nearest_c (a b : Int) (w : World) (ha : -1099511627776 ≤ a ∧ a ≤ 1099511627776) (hb : 1 ≤ b ∧ b ≤ 1099511627776) :
    Calls Try.prog 157 #[.int .i64 a, .int .i64 b] w fun e w' => e = .returned (.int .i64 (near a b)) ∧ Drawn0 w w' := by
  go_enter Try.func157, Try.ntmps157
  go_wp2_with (first | (go_at_call 187; (with_reducible refine (impl_floorDiv_c (2 * a + b) (2 * b) _ (by omega) (by omega)).mono ?_); rintro e_ w_ ⟨rfl, ⟨nd, rfl⟩⟩))
  go_ret
  exact ⟨rfl, (by first | exact Drawn0.refl _ | exact ⟨⟨_, rfl⟩⟩ | exact ⟨⟨_, World.drewN_drewN _ _ _⟩⟩ | (refine ⟨⟨_, ?_⟩⟩; simp only [World.drewN_drewN]; rfl))⟩
theorem impl_pairCode_ok (A B : Option Addr) (c d : Nat) (l m : List Int) (w : World) (hl : CamR w A c l) (hm : CamR w B d m) (h : l.length = m.length) :
    Calls Try.prog 152 #[.slice A l.length c, .slice B m.length d] w fun e w' => e = .returned (.int .i64 0) ∧ Drawn0 w w' := by
  have HL := Aside0.mk hl
  have HM := Aside0.mk hm
  have hn := hm.ok.hi
  have he : ((l.length : Int) != (m.length : Int)) = false := bne_eq_false_iff_eq.mpr (by omega)
  clear hl hm h
  go_enter Try.func152, Try.ntmps152
  go_wp2_with (first | (go_at_call 118; (with_reducible refine (impl_ValidCam_ok A c l _ (by repeat (first | exact HL.out | (with_reducible refine CamR.drewN ?_ _) | (with_reducible refine CamR.alloc ?_ _)))).mono ?_); rintro e_ w_ ⟨rfl, ⟨nd, rfl⟩⟩) | (go_at_call 118; (with_reducible refine (impl_ValidCam_ok B d m _ (by repeat (first | exact HM.out | (with_reducible refine CamR.drewN ?_ _) | (with_reducible refine CamR.alloc ?_ _)))).mono ?_); rintro e_ w_ ⟨rfl, ⟨nd, rfl⟩⟩))
  go_ret
  exact ⟨rfl, (by first | exact Drawn0.refl _ | exact ⟨⟨_, rfl⟩⟩ | exact ⟨⟨_, World.drewN_drewN _ _ _⟩⟩ | (refine ⟨⟨_, ?_⟩⟩; simp only [World.drewN_drewN]; rfl))⟩
theorem impl_AddCams1_c (ba bb : Nat) (A B : Option Addr) (c d : Nat) (l m : List Int) (i : Int) (w : World) (h1 : w.cell? ⟨ba, 0, none⟩ = some (.slice A l.length c)) (h2 : w.cell? ⟨bb, 0, none⟩ = some (.slice B m.length d)) (hl : CamR w A c l) (hm : CamR w B d m) (hi : 0 ≤ i ∧ i ≤ 1000) :
    Calls Try.prog 153 #[.int .i64 i, .pointer (some ⟨ba, 0, none⟩), .pointer (some ⟨bb, 0, none⟩)] w fun e w' => e = .returned (.int .i64 (addAt l m i)) ∧ Drawn0 w w' := by
  have b1 := hl.ok.lift _ (at_mem hl.ok.pos i)
  have b2 := hm.ok.lift _ (at_mem hm.ok.pos i)
  have HL := Aside0.mk hl
  have HM := Aside0.mk hm
  clear hl hm
  go_enter Try.func153, Try.ntmps153
  go_wp2
  repeat (go_quiet (first | (go_at_call 129; (with_reducible refine (impl_at_c A c l i _ (by repeat (first | exact HL.out | (with_reducible refine CamR.drewN ?_ _) | (with_reducible refine CamR.alloc ?_ _))) (by omega)).mono ?_); rintro e_ w_ ⟨rfl, ⟨nd, rfl⟩⟩; (first | exact ⟨rfl, _, rfl⟩ | exact ⟨rfl, _, World.drewN_drewN _ _ _⟩ | exact ⟨rfl, _, Eq.trans (World.drewN_drewN _ _ _) (congrArg (World.drewN _) (Nat.add_assoc _ _ _))⟩)) | (go_at_call 129; (with_reducible refine (impl_at_c B d m i _ (by repeat (first | exact HM.out | (with_reducible refine CamR.drewN ?_ _) | (with_reducible refine CamR.alloc ?_ _))) (by omega)).mono ?_); rintro e_ w_ ⟨rfl, ⟨nd, rfl⟩⟩; (first | exact ⟨rfl, _, rfl⟩ | exact ⟨rfl, _, World.drewN_drewN _ _ _⟩ | exact ⟨rfl, _, Eq.trans (World.drewN_drewN _ _ _) (congrArg (World.drewN _) (Nat.add_assoc _ _ _))⟩))); try go_wp2)
  go_ret
  exact ⟨rfl, (by first | exact Drawn0.refl _ | exact ⟨⟨_, rfl⟩⟩ | exact ⟨⟨_, World.drewN_drewN _ _ _⟩⟩ | (refine ⟨⟨_, ?_⟩⟩; simp only [World.drewN_drewN]; rfl))⟩
theorem impl_BlendCams1_c (ba bs bb : Nat) (A B : Option Addr) (c d : Nat) (l m : List Int) (s i : Int) (w : World) (h1 : w.cell? ⟨ba, 0, none⟩ = some (.slice A l.length c)) (h3 : w.cell? ⟨bs, 0, none⟩ = some (.int .i64 s)) (h2 : w.cell? ⟨bb, 0, none⟩ = some (.slice B m.length d)) (hl : CamR w A c l) (hm : CamR w B d m) (hi : 0 ≤ i ∧ i ≤ 1000) (hs : 0 ≤ s ∧ s ≤ 100) :
    Calls Try.prog 156 #[.int .i64 i, .pointer (some ⟨ba, 0, none⟩), .pointer (some ⟨bs, 0, none⟩), .pointer (some ⟨bb, 0, none⟩)] w fun e w' => e = .returned (.int .i64 (blendAt l m s i)) ∧ Drawn0 w w' := by
  have b1 := hl.ok.lift _ (at_mem hl.ok.pos i)
  have b2 := hm.ok.lift _ (at_mem hm.ok.pos i)
  have p1 : 0 ≤ at_ l i * (100 - s) ∧ at_ l i * (100 - s) ≤ 1000000 := ⟨Int.mul_nonneg b1.1 (by omega), by have := Int.mul_le_mul b1.2 (show 100 - s ≤ 100 by omega) (by omega) (by omega); omega⟩
  have p2 : 0 ≤ at_ m i * s ∧ at_ m i * s ≤ 1000000 := ⟨Int.mul_nonneg b2.1 (by omega), by have := Int.mul_le_mul b2.2 hs.2 (by omega) (by omega); omega⟩
  have HL := Aside0.mk hl
  have HM := Aside0.mk hm
  clear hl hm
  go_enter Try.func156, Try.ntmps156
  go_wp2
  repeat (go_quiet (first | (go_at_call 129; (with_reducible refine (impl_at_c A c l i _ (by repeat (first | exact HL.out | (with_reducible refine CamR.drewN ?_ _) | (with_reducible refine CamR.alloc ?_ _))) (by omega)).mono ?_); rintro e_ w_ ⟨rfl, ⟨nd, rfl⟩⟩; (first | exact ⟨rfl, _, rfl⟩ | exact ⟨rfl, _, World.drewN_drewN _ _ _⟩ | exact ⟨rfl, _, Eq.trans (World.drewN_drewN _ _ _) (congrArg (World.drewN _) (Nat.add_assoc _ _ _))⟩)) | (go_at_call 129; (with_reducible refine (impl_at_c B d m i _ (by repeat (first | exact HM.out | (with_reducible refine CamR.drewN ?_ _) | (with_reducible refine CamR.alloc ?_ _))) (by omega)).mono ?_); rintro e_ w_ ⟨rfl, ⟨nd, rfl⟩⟩; (first | exact ⟨rfl, _, rfl⟩ | exact ⟨rfl, _, World.drewN_drewN _ _ _⟩ | exact ⟨rfl, _, Eq.trans (World.drewN_drewN _ _ _) (congrArg (World.drewN _) (Nat.add_assoc _ _ _))⟩)) | (go_at_call 157; (with_reducible refine (impl_nearest_c (at_ l i * (100 - s) + at_ m i * s) 100 _ (by omega) (by omega)).mono ?_); rintro e_ w_ ⟨rfl, ⟨nd, rfl⟩⟩; (first | exact ⟨rfl, _, rfl⟩ | exact ⟨rfl, _, World.drewN_drewN _ _ _⟩ | exact ⟨rfl, _, Eq.trans (World.drewN_drewN _ _ _) (congrArg (World.drewN _) (Nat.add_assoc _ _ _))⟩))); try go_wp2)
  go_ret
  exact ⟨rfl, (by first | exact Drawn0.refl _ | exact ⟨⟨_, rfl⟩⟩ | exact ⟨⟨_, World.drewN_drewN _ _ _⟩⟩ | (refine ⟨⟨_, ?_⟩⟩; simp only [World.drewN_drewN]; rfl))⟩
theorem impl_RaiseCam1_c (ba bb : Nat) (A : Option Addr) (c : Nat) (l : List Int) (r i : Int) (w : World) (h1 : w.cell? ⟨ba, 0, none⟩ = some (.slice A l.length c)) (h2 : w.cell? ⟨bb, 0, none⟩ = some (.int .i64 r)) (hl : CamR w A c l) (hi : 0 ≤ i ∧ i ≤ 1000) (hr : -10000 ≤ r ∧ r ≤ 10000) :
    Calls Try.prog 159 #[.int .i64 i, .pointer (some ⟨ba, 0, none⟩), .pointer (some ⟨bb, 0, none⟩)] w fun e w' => e = .returned (.int .i64 (raiseAt l r i)) ∧ Drawn0 w w' := by
  have b1 := hl.ok.lift _ (at_mem hl.ok.pos i)
  have HL := Aside0.mk hl
  clear hl
  go_enter Try.func159, Try.ntmps159
  go_wp2
  repeat (go_quiet (first | (go_at_call 129; (with_reducible refine (impl_at_c A c l i _ (by repeat (first | exact HL.out | (with_reducible refine CamR.drewN ?_ _) | (with_reducible refine CamR.alloc ?_ _))) (by omega)).mono ?_); rintro e_ w_ ⟨rfl, ⟨nd, rfl⟩⟩; (first | exact ⟨rfl, _, rfl⟩ | exact ⟨rfl, _, World.drewN_drewN _ _ _⟩ | exact ⟨rfl, _, Eq.trans (World.drewN_drewN _ _ _) (congrArg (World.drewN _) (Nat.add_assoc _ _ _))⟩))); try go_wp2)
  go_ret
  exact ⟨rfl, (by first | exact Drawn0.refl _ | exact ⟨⟨_, rfl⟩⟩ | exact ⟨⟨_, World.drewN_drewN _ _ _⟩⟩ | (refine ⟨⟨_, ?_⟩⟩; simp only [World.drewN_drewN]; rfl))⟩
theorem impl_ScaleCam1_c (ba bt bo : Nat) (A : Option Addr) (c : Nat) (l : List Int) (t o i : Int) (w : World) (h1 : w.cell? ⟨ba, 0, none⟩ = some (.slice A l.length c)) (h2 : w.cell? ⟨bt, 0, none⟩ = some (.int .i64 t)) (h3 : w.cell? ⟨bo, 0, none⟩ = some (.int .i64 o)) (hl : CamR w A c l) (hi : 0 ≤ i ∧ i ≤ 1000) (ht : 0 ≤ t ∧ t ≤ 1000) (ho : 1 ≤ o ∧ o ≤ 1000) :
    Calls Try.prog 160 #[.int .i64 i, .pointer (some ⟨ba, 0, none⟩), .pointer (some ⟨bt, 0, none⟩), .pointer (some ⟨bo, 0, none⟩)] w fun e w' => e = .returned (.int .i64 (scaleAt l t o i)) ∧ Drawn0 w w' := by
  have b1 := hl.ok.lift _ (at_mem hl.ok.pos i)
  have p1 : 0 ≤ at_ l i * t ∧ at_ l i * t ≤ 10000000 := ⟨Int.mul_nonneg b1.1 (by omega), by have := Int.mul_le_mul b1.2 ht.2 (by omega) (by omega); omega⟩
  have HL := Aside0.mk hl
  clear hl
  go_enter Try.func160, Try.ntmps160
  go_wp2
  repeat (go_quiet (first | (go_at_call 129; (with_reducible refine (impl_at_c A c l i _ (by repeat (first | exact HL.out | (with_reducible refine CamR.drewN ?_ _) | (with_reducible refine CamR.alloc ?_ _))) (by omega)).mono ?_); rintro e_ w_ ⟨rfl, ⟨nd, rfl⟩⟩; (first | exact ⟨rfl, _, rfl⟩ | exact ⟨rfl, _, World.drewN_drewN _ _ _⟩ | exact ⟨rfl, _, Eq.trans (World.drewN_drewN _ _ _) (congrArg (World.drewN _) (Nat.add_assoc _ _ _))⟩)) | (go_at_call 157; (with_reducible refine (impl_nearest_c (at_ l i * t) o _ (by omega) (by omega)).mono ?_); rintro e_ w_ ⟨rfl, ⟨nd, rfl⟩⟩; (first | exact ⟨rfl, _, rfl⟩ | exact ⟨rfl, _, World.drewN_drewN _ _ _⟩ | exact ⟨rfl, _, Eq.trans (World.drewN_drewN _ _ _) (congrArg (World.drewN _) (Nat.add_assoc _ _ _))⟩))); try go_wp2)
  go_ret
  exact ⟨rfl, (by first | exact Drawn0.refl _ | exact ⟨⟨_, rfl⟩⟩ | exact ⟨⟨_, World.drewN_drewN _ _ _⟩⟩ | (refine ⟨⟨_, ?_⟩⟩; simp only [World.drewN_drewN]; rfl))⟩
theorem impl_ThinCam1_c (ba bb : Nat) (A : Option Addr) (c : Nat) (l : List Int) (t i : Int) (w : World) (h1 : w.cell? ⟨ba, 0, none⟩ = some (.slice A l.length c)) (h2 : w.cell? ⟨bb, 0, none⟩ = some (.int .i64 t)) (hl : CamR w A c l) (hi : 0 ≤ i ∧ i ≤ 1000) (hr : 1 ≤ t ∧ t ≤ 45) :
    Calls Try.prog 165 #[.int .i64 i, .pointer (some ⟨ba, 0, none⟩), .pointer (some ⟨bb, 0, none⟩)] w fun e w' => e = .returned (.int .i64 (thinAt l t i)) ∧ Drawn0 w w' := by
  have p1 : 0 ≤ i * t ∧ i * t ≤ 45000 := ⟨Int.mul_nonneg hi.1 (by omega), by have := Int.mul_le_mul hi.2 hr.2 (by omega) (by omega); omega⟩
  have HL := Aside0.mk hl
  clear hl
  go_enter Try.func165, Try.ntmps165
  go_wp2_with (first | (go_at_call 129; (with_reducible refine (impl_at_c A c l (i * t) _ (by repeat (first | exact HL.out | (with_reducible refine CamR.drewN ?_ _) | (with_reducible refine CamR.alloc ?_ _))) (by omega)).mono ?_); rintro e_ w_ ⟨rfl, ⟨nd, rfl⟩⟩))
  go_ret
  exact ⟨rfl, (by first | exact Drawn0.refl _ | exact ⟨⟨_, rfl⟩⟩ | exact ⟨⟨_, World.drewN_drewN _ _ _⟩⟩ | (refine ⟨⟨_, ?_⟩⟩; simp only [World.drewN_drewN]; rfl))⟩
theorem impl_RefineCam1_c (bt ba : Nat) (A : Option Addr) (c : Nat) (l : List Int) (t i : Int) (w : World) (h2 : w.cell? ⟨bt, 0, none⟩ = some (.int .i64 t)) (h1 : w.cell? ⟨ba, 0, none⟩ = some (.slice A l.length c)) (hl : CamR w A c l) (hi : 0 ≤ i ∧ i ≤ 1000) (hr : 1 ≤ t ∧ t ≤ 45) :
    Calls Try.prog 162 #[.int .i64 i, .pointer (some ⟨bt, 0, none⟩), .pointer (some ⟨ba, 0, none⟩)] w fun e w' => e = .returned (.int .i64 (refAt l t i)) ∧ Drawn0 w w' := by
  have e1 : i.tdiv t = i / t := Int.tdiv_eq_ediv_of_nonneg hi.1
  have e2 : i.tmod t = i % t := Int.tmod_eq_emod_of_nonneg hi.1
  have hq : 0 ≤ i / t ∧ i / t ≤ 1000 := ⟨Int.ediv_nonneg hi.1 (by omega), Int.le_trans (Int.ediv_le_self _ hi.1) hi.2⟩
  have hk : 0 ≤ i % t ∧ i % t ≤ 45 := ⟨Int.emod_nonneg _ (by omega), by have := Int.emod_lt_of_pos i (show 0 < t by omega); omega⟩
  have ht0 : ¬ t = 0 := by omega
  have b1 := hl.ok.lift _ (at_mem hl.ok.pos (i / t))
  have b2 := hl.ok.lift _ (at_mem hl.ok.pos (i / t + 1))
  have p1 : 0 ≤ at_ l (i / t) * t ∧ at_ l (i / t) * t ≤ 450000 := ⟨Int.mul_nonneg b1.1 (by omega), by have := Int.mul_le_mul b1.2 hr.2 (by omega) (by omega); omega⟩
  have p2 : -450000 ≤ (at_ l (i / t + 1) - at_ l (i / t)) * (i % t) ∧ (at_ l (i / t + 1) - at_ l (i / t)) * (i % t) ≤ 450000 := by
    have := Int.mul_le_mul_of_nonneg_right (show at_ l (i / t + 1) - at_ l (i / t) ≤ 10000 by omega) hk.1
    have := Int.mul_le_mul_of_nonneg_right (show -10000 ≤ at_ l (i / t + 1) - at_ l (i / t) by omega) hk.1
    omega
  have HL := Aside0.mk hl
  clear hl
  go_enter Try.func162, Try.ntmps162
  go_wp2
  repeat (go_quiet (first | (go_at_call 129; (with_reducible refine (impl_at_c A c l (i / t) _ (by repeat (first | exact HL.out | (with_reducible refine CamR.drewN ?_ _) | (with_reducible refine CamR.alloc ?_ _))) (by omega)).mono ?_); rintro e_ w_ ⟨rfl, ⟨nd, rfl⟩⟩; (first | exact ⟨rfl, _, rfl⟩ | exact ⟨rfl, _, World.drewN_drewN _ _ _⟩ | exact ⟨rfl, _, Eq.trans (World.drewN_drewN _ _ _) (congrArg (World.drewN _) (Nat.add_assoc _ _ _))⟩)) | (go_at_call 129; (with_reducible refine (impl_at_c A c l (i / t + 1) _ (by repeat (first | exact HL.out | (with_reducible refine CamR.drewN ?_ _) | (with_reducible refine CamR.alloc ?_ _))) (by omega)).mono ?_); rintro e_ w_ ⟨rfl, ⟨nd, rfl⟩⟩; (first | exact ⟨rfl, _, rfl⟩ | exact ⟨rfl, _, World.drewN_drewN _ _ _⟩ | exact ⟨rfl, _, Eq.trans (World.drewN_drewN _ _ _) (congrArg (World.drewN _) (Nat.add_assoc _ _ _))⟩)) | (go_at_call 157; (with_reducible refine (impl_nearest_c (at_ l (i / t) * t + (at_ l (i / t + 1) - at_ l (i / t)) * (i % t)) t _ (by omega) (by omega)).mono ?_); rintro e_ w_ ⟨rfl, ⟨nd, rfl⟩⟩; (first | exact ⟨rfl, _, rfl⟩ | exact ⟨rfl, _, World.drewN_drewN _ _ _⟩ | exact ⟨rfl, _, Eq.trans (World.drewN_drewN _ _ _) (congrArg (World.drewN _) (Nat.add_assoc _ _ _))⟩))); try go_wp2)
  go_ret
  exact ⟨rfl, (by first | exact Drawn0.refl _ | exact ⟨⟨_, rfl⟩⟩ | exact ⟨⟨_, World.drewN_drewN _ _ _⟩⟩ | (refine ⟨⟨_, ?_⟩⟩; simp only [World.drewN_drewN]; rfl))⟩
set_option maxHeartbeats 1000000 in
set_option maxRecDepth 100000 in
theorem impl_AddCams_ok (A B : Option Addr) (c d : Nat) (l m : List Int) (w : World) (hr : CamR w A c l) (hm : CamR w B d m) (hlm : l.length = m.length) (hv : ∀ i : Nat, i < l.length → 0 ≤ addAt l m i ∧ addAt l m i ≤ 10000) :
    Calls Try.prog 47 #[.slice A l.length c, .slice B m.length d] w fun e w' => ∃ v : Value, e = .returned (.tuple #[v, .int .i64 0]) ∧ Kd.R (Kd.int .i16) 51 w' w.heap.size (fun _ => True) v (mapN l.length (addAt l m)) ∧ Below w.heap.size w w' := by
  have HR := Aside0.mk hr
  have HM := Aside0.mk hm
  have HLM := Aside0.mk hlm
  have HV := Aside0.mk hv
  have hn := hr.ok.hi
  clear hr hm hlm hv
  go_enter Try.func47, Try.ntmps47
  go_wp2_with (first | (go_at_call 152; (with_reducible refine (impl_pairCode_ok A B c d l m _ (by repeat (first | exact HR.out | (with_reducible refine CamR.drewN ?_ _) | (with_reducible refine CamR.alloc ?_ _))) (by repeat (first | exact HM.out | (with_reducible refine CamR.drewN ?_ _) | (with_reducible refine CamR.alloc ?_ _))) HLM.out).mono ?_); rintro e_ w_ ⟨rfl, ⟨nd, rfl⟩⟩) | (go_at_call 127; (with_reducible refine (impl_steps_c _ _ _ _).mono ?_); rintro e_ w_ ⟨rfl, ⟨nd, rfl⟩⟩) | (go_at_call 126; (with_reducible refine (impl_camOf_ok l.length _ (addAt l m) _ (by have := HR.out.ok.hi; omega) HV.out (fun i W_ hi hb_ => CallsV.of Try.func153 rfl rfl rfl ((impl_AddCams1_c w.heap.size (w.heap.size + 1) A B c d l m i W_ (pw_cell_below hb_ (by go_simp)) (pw_cell_below hb_ (by go_simp)) (CamR.mv (by repeat (first | exact HR.out | (with_reducible refine CamR.drewN ?_ _) | (with_reducible refine CamR.alloc ?_ _))) hb_) (CamR.mv (by repeat (first | exact HM.out | (with_reducible refine CamR.drewN ?_ _) | (with_reducible refine CamR.alloc ?_ _))) hb_) (by have := HR.out.ok.hi; omega)).mono (fun e w' h => ⟨h.1, h.2.below⟩)))).mono ?_); rintro e_ w_ ⟨v, rfl, ho, hb⟩) | go_in)
  go_ret2
  exact ⟨_, rfl, Kd.R_lower ho (below_size (by repeat (first | (with_reducible first | exact (Below.refl w.heap.size w) | apply below_alloc | apply pw_below_drewN | apply below_drew1) | exact (Below.refl w.heap.size w)))), below_step (by repeat (first | (with_reducible first | exact (Below.refl w.heap.size w) | apply below_alloc | apply pw_below_drewN | apply below_drew1) | exact (Below.refl w.heap.size w))) hb⟩
set_option maxHeartbeats 1000000 in
set_option maxRecDepth 100000 in
theorem impl_BlendCams_ok (A B : Option Addr) (c d : Nat) (l m : List Int) (s : Int) (w : World) (hr : CamR w A c l) (hm : CamR w B d m) (hlm : l.length = m.length) (hs : 0 ≤ s ∧ s ≤ 100) (hv : ∀ i : Nat, i < l.length → 0 ≤ blendAt l m s i ∧ blendAt l m s i ≤ 10000) :
    Calls Try.prog 49 #[.slice A l.length c, .slice B m.length d, .int .i64 s] w fun e w' => ∃ v : Value, e = .returned (.tuple #[v, .int .i64 0]) ∧ Kd.R (Kd.int .i16) 51 w' w.heap.size (fun _ => True) v (mapN l.length (blendAt l m s)) ∧ Below w.heap.size w w' := by
  have HR := Aside0.mk hr
  have HM := Aside0.mk hm
  have HLM := Aside0.mk hlm
  have HV := Aside0.mk hv
  have hn := hr.ok.hi
  clear hr hm hlm hv
  go_enter Try.func49, Try.ntmps49
  go_wp2_with (first | (go_at_call 152; (with_reducible refine (impl_pairCode_ok A B c d l m _ (by repeat (first | exact HR.out | (with_reducible refine CamR.drewN ?_ _) | (with_reducible refine CamR.alloc ?_ _))) (by repeat (first | exact HM.out | (with_reducible refine CamR.drewN ?_ _) | (with_reducible refine CamR.alloc ?_ _))) HLM.out).mono ?_); rintro e_ w_ ⟨rfl, ⟨nd, rfl⟩⟩) | (go_at_call 127; (with_reducible refine (impl_steps_c _ _ _ _).mono ?_); rintro e_ w_ ⟨rfl, ⟨nd, rfl⟩⟩) | (go_at_call 126; (with_reducible refine (impl_camOf_ok l.length _ (blendAt l m s) _ (by have := HR.out.ok.hi; omega) HV.out (fun i W_ hi hb_ => CallsV.of Try.func156 rfl rfl rfl ((impl_BlendCams1_c w.heap.size (w.heap.size + 2) (w.heap.size + 1) A B c d l m s i W_ (pw_cell_below hb_ (by go_simp)) (pw_cell_below hb_ (by go_simp)) (pw_cell_below hb_ (by go_simp)) (CamR.mv (by repeat (first | exact HR.out | (with_reducible refine CamR.drewN ?_ _) | (with_reducible refine CamR.alloc ?_ _))) hb_) (CamR.mv (by repeat (first | exact HM.out | (with_reducible refine CamR.drewN ?_ _) | (with_reducible refine CamR.alloc ?_ _))) hb_) (by have := HR.out.ok.hi; omega) hs).mono (fun e w' h => ⟨h.1, h.2.below⟩)))).mono ?_); rintro e_ w_ ⟨v, rfl, ho, hb⟩) | go_in)
  go_ret2
  exact ⟨_, rfl, Kd.R_lower ho (below_size (by repeat (first | (with_reducible first | exact (Below.refl w.heap.size w) | apply below_alloc | apply pw_below_drewN | apply below_drew1) | exact (Below.refl w.heap.size w)))), below_step (by repeat (first | (with_reducible first | exact (Below.refl w.heap.size w) | apply below_alloc | apply pw_below_drewN | apply below_drew1) | exact (Below.refl w.heap.size w))) hb⟩
set_option maxHeartbeats 1000000 in
set_option maxRecDepth 100000 in
theorem impl_RaiseCam_ok (A : Option Addr) (c : Nat) (l : List Int) (r : Int) (w : World) (hr : CamR w A c l) (hs : -10000 ≤ r ∧ r ≤ 10000) (hv : ∀ i : Nat, i < l.length → 0 ≤ raiseAt l r i ∧ raiseAt l r i ≤ 10000) :
    Calls Try.prog 51 #[.slice A l.length c, .int .i64 r] w fun e w' => ∃ v : Value, e = .returned (.tuple #[v, .int .i64 0]) ∧ Kd.R (Kd.int .i16) 51 w' w.heap.size (fun _ => True) v (mapN l.length (raiseAt l r)) ∧ Below w.heap.size w w' := by
  have HR := Aside0.mk hr
  have HV := Aside0.mk hv
  have hn := hr.ok.hi
  have hn0 := hr.ok.lo
  clear hr hv
  go_enter Try.func51, Try.ntmps51
  go_wp2_with (first | (go_at_call 118; (with_reducible refine (impl_ValidCam_ok _ _ l _ (by repeat (first | exact HR.out | (with_reducible refine CamR.drewN ?_ _) | (with_reducible refine CamR.alloc ?_ _)))).mono ?_); rintro e_ w_ ⟨rfl, ⟨nd, rfl⟩⟩) | (go_at_call 127; (with_reducible refine (impl_steps_c _ _ _ _).mono ?_); rintro e_ w_ ⟨rfl, ⟨nd, rfl⟩⟩) | (go_at_call 126; (with_reducible refine (impl_camOf_ok l.length _ (raiseAt l r) _ (by have := HR.out.ok.hi; omega) HV.out (fun i W_ hi hb_ => CallsV.of Try.func159 rfl rfl rfl ((impl_RaiseCam1_c w.heap.size (w.heap.size + 1) A c l r i W_ (pw_cell_below hb_ (by go_simp)) (pw_cell_below hb_ (by go_simp)) (CamR.mv (by repeat (first | exact HR.out | (with_reducible refine CamR.drewN ?_ _) | (with_reducible refine CamR.alloc ?_ _))) hb_) (by have := HR.out.ok.hi; omega) hs).mono (fun e w' h => ⟨h.1, h.2.below⟩)))).mono ?_); rintro e_ w_ ⟨v, rfl, ho, hb⟩) | go_in)
  go_ret2
  exact ⟨_, rfl, Kd.R_lower ho (below_size (by repeat (first | (with_reducible first | exact (Below.refl w.heap.size w) | apply below_alloc | apply pw_below_drewN | apply below_drew1) | exact (Below.refl w.heap.size w)))), below_step (by repeat (first | (with_reducible first | exact (Below.refl w.heap.size w) | apply below_alloc | apply pw_below_drewN | apply below_drew1) | exact (Below.refl w.heap.size w))) hb⟩
set_option maxHeartbeats 1000000 in
set_option maxRecDepth 100000 in
theorem impl_ScaleCam_ok (A : Option Addr) (c : Nat) (l : List Int) (t o : Int) (w : World) (hr : CamR w A c l) (ht : 0 ≤ t ∧ t ≤ 1000) (ho_ : 1 ≤ o ∧ o ≤ 1000) (hv : ∀ i : Nat, i < l.length → 0 ≤ scaleAt l t o i ∧ scaleAt l t o i ≤ 10000) :
    Calls Try.prog 52 #[.slice A l.length c, .int .i64 t, .int .i64 o] w fun e w' => ∃ v : Value, e = .returned (.tuple #[v, .int .i64 0]) ∧ Kd.R (Kd.int .i16) 51 w' w.heap.size (fun _ => True) v (mapN l.length (scaleAt l t o)) ∧ Below w.heap.size w w' := by
  have HR := Aside0.mk hr
  have HV := Aside0.mk hv
  have hn := hr.ok.hi
  have hn0 := hr.ok.lo
  clear hr hv
  go_enter Try.func52, Try.ntmps52
  go_wp2_with (first | (go_at_call 118; (with_reducible refine (impl_ValidCam_ok _ _ l _ (by repeat (first | exact HR.out | (with_reducible refine CamR.drewN ?_ _) | (with_reducible refine CamR.alloc ?_ _)))).mono ?_); rintro e_ w_ ⟨rfl, ⟨nd, rfl⟩⟩) | (go_at_call 127; (with_reducible refine (impl_steps_c _ _ _ _).mono ?_); rintro e_ w_ ⟨rfl, ⟨nd, rfl⟩⟩) | (go_at_call 126; (with_reducible refine (impl_camOf_ok l.length _ (scaleAt l t o) _ (by have := HR.out.ok.hi; omega) HV.out (fun i W_ hi hb_ => CallsV.of Try.func160 rfl rfl rfl ((impl_ScaleCam1_c w.heap.size (w.heap.size + 1) (w.heap.size + 2) A c l t o i W_ (pw_cell_below hb_ (by go_simp)) (pw_cell_below hb_ (by go_simp)) (pw_cell_below hb_ (by go_simp)) (CamR.mv (by repeat (first | exact HR.out | (with_reducible refine CamR.drewN ?_ _) | (with_reducible refine CamR.alloc ?_ _))) hb_) (by have := HR.out.ok.hi; omega) ht ho_).mono (fun e w' h => ⟨h.1, h.2.below⟩)))).mono ?_); rintro e_ w_ ⟨v, rfl, ho, hb⟩) | go_in)
  go_ret2
  exact ⟨_, rfl, Kd.R_lower ho (below_size (by repeat (first | (with_reducible first | exact (Below.refl w.heap.size w) | apply below_alloc | apply pw_below_drewN | apply below_drew1) | exact (Below.refl w.heap.size w)))), below_step (by repeat (first | (with_reducible first | exact (Below.refl w.heap.size w) | apply below_alloc | apply pw_below_drewN | apply below_drew1) | exact (Below.refl w.heap.size w))) hb⟩
theorem impl_isSteps_c (n : Int) (w : World) : Calls Try.prog 161 #[.int .i64 n] w fun e w' => e = .returned (.bool (isStepsB n)) ∧ Drawn0 w w' := by
  go_enter Try.func161, Try.ntmps161
  go_wp2_with go_in
  all_goals go_ret
  all_goals exact ⟨ret_bool (by unfold isStepsB; simp; omega), (by first | exact Drawn0.refl _ | exact ⟨⟨_, rfl⟩⟩ | exact ⟨⟨_, World.drewN_drewN _ _ _⟩⟩ | (refine ⟨⟨_, ?_⟩⟩; simp only [World.drewN_drewN]; rfl))⟩
theorem impl_isSteps_t (n : Int) (w : World) (h : 8 ≤ n ∧ n ≤ 360) : Calls Try.prog 161 #[.int .i64 n] w fun e w' => e = .returned (.bool true) ∧ Drawn0 w w' := by
  have := impl_isSteps_c n w
  rwa [show isStepsB n = true by unfold isStepsB; simp; omega] at this
theorem impl_camOf_z (z : Int) (n : Nat) (hz : z = n) (fv : Value) (g : Int → Int) (w : World) (hn : n ≤ 1099511627776) (hl : ∀ i : Nat, i < n → 0 ≤ g i ∧ g i ≤ 10000)
    (hg : ∀ (i : Nat) (W : World), i < n → Below w.heap.size w W → CallsV Try.prog fv #[.int .i64 i] W fun e W' => e = .returned (.int .i64 (g i)) ∧ Below W.heap.size W W') :
    Calls Try.prog 126 #[.int .i64 z, fv] w fun e w' => ∃ v : Value, e = .returned (.tuple #[v, .int .i64 0]) ∧ Kd.R (Kd.int .i16) 51 w' w.heap.size (fun _ => True) v (mapN n g) ∧ Below w.heap.size w w' := by
  rw [hz]; exact impl_camOf_ok n fv g w hn hl hg
end Go.Proofs.Ytpjibhedpieafaa.H
namespace Go.Proofs.Ytpjibhedpieafaa.H
open Go.RowKit Go.Proofs.YtpjibhedpieafaaW.PrintWords Go.Proofs.YtpjibhedpieafaaW.PrintLast Go.Proofs.YtpjibhedpieafaaW.PrintMore Go.Proofs.Ytpjibhedpieafaa.M
attribute [local go_sem] max2_int min2_int max_two min_two max_three min_three max_four min_four
attribute [local go_sem ↓] Go.wp_at_zero Go.wp_at_succ
theorem i64_id {x : Int} (h1 : -9223372036854775808 ≤ x) (h2 : x ≤ 9223372036854775807) : IntKind.i64.wrap x = x := by
  unfold IntKind.wrap
  simp only [IntKind.bits, IntKind.signed, Bool.true_and, decide_eq_true_eq, show (2 : Int) ^ 64 = 18446744073709551616 from rfl, show (2 : Int) ^ (64 - 1) = 9223372036854775808 from rfl]
  split <;> omega
set_option maxHeartbeats 1000000 in
set_option maxRecDepth 100000 in
theorem impl_RefineCam_ok (A : Option Addr) (c : Nat) (l : List Int) (t : Nat) (w : World) (hr : CamR w A c l) (ht : 1 ≤ t ∧ t ≤ 45) (hlt : l.length * t ≤ 360) (hv : ∀ i : Nat, i < l.length * t → 0 ≤ refAt l t i ∧ refAt l t i ≤ 10000) :
    Calls Try.prog 53 #[.slice A l.length c, .int .i64 t] w fun e w' => ∃ v : Value, e = .returned (.tuple #[v, .int .i64 0]) ∧ Kd.R (Kd.int .i16) 51 w' w.heap.size (fun _ => True) v (mapN (l.length * t) (refAt l t)) ∧ Below w.heap.size w w' := by
  have HR := Aside0.mk hr
  have HV := Aside0.mk hv
  have HLT := Aside0.mk hlt
  have hn := hr.ok.hi
  have hn0 := hr.ok.lo
  have hz := Int.natCast_mul l.length t
  have hge := Nat.mul_le_mul hn0 ht.1
  have HZ := Aside0.mk hz.symm
  have hp : 8 ≤ (l.length : Int) * (t : Int) ∧ (l.length : Int) * (t : Int) ≤ 360 := by omega
  have hw : IntKind.i64.wrap ((l.length : Int) * (t : Int)) = (l.length : Int) * (t : Int) := i64_id (by omega) (by omega)
  clear hr hv hz hge hlt
  have hd45 : decide ((t : Int) ≤ 45) = true := decide_eq_true (by omega)
  go_enter Try.func53, Try.ntmps53
  go_wp2_with (first | (go_at_call 118; (with_reducible refine (impl_ValidCam_ok _ _ l _ (by repeat (first | exact HR.out | (with_reducible refine CamR.drewN ?_ _) | (with_reducible refine CamR.alloc ?_ _)))).mono ?_); rintro e_ w_ ⟨rfl, ⟨nd, rfl⟩⟩) | (go_at_call 127; (with_reducible refine (impl_steps_c _ _ _ _).mono ?_); rintro e_ w_ ⟨rfl, ⟨nd, rfl⟩⟩) | (go_at_call 126; (with_reducible refine (impl_camOf_z _ (l.length * t) HZ.out _ (refAt l t) _ (by have := HLT.out; omega) HV.out (fun i W_ hi hb_ => CallsV.of Try.func162 rfl rfl rfl ((impl_RefineCam1_c (w.heap.size + 1) w.heap.size A c l t i W_ (pw_cell_below hb_ (by go_simp)) (pw_cell_below hb_ (by go_simp)) (CamR.mv (by repeat (first | exact HR.out | (with_reducible refine CamR.drewN ?_ _) | (with_reducible refine CamR.alloc ?_ _))) hb_) (by have := HLT.out; omega) (by omega)).mono (fun e w' h => ⟨h.1, h.2.below⟩)))).mono ?_); rintro e_ w_ ⟨v, rfl, ho, hb⟩) | go_in)
  repeat (go_quiet (first | (go_at_call 127; (with_reducible refine (impl_steps_c _ _ _ _).mono ?_); rintro e_ w_ ⟨rfl, ⟨nd, rfl⟩⟩; (first | exact ⟨rfl, _, rfl⟩ | exact ⟨rfl, _, World.drewN_drewN _ _ _⟩ | exact ⟨rfl, _, Eq.trans (World.drewN_drewN _ _ _) (congrArg (World.drewN _) (Nat.add_assoc _ _ _))⟩)) | (go_at_call 161; (with_reducible refine (impl_isSteps_t _ _ (by omega)).mono ?_); rintro e_ w_ ⟨rfl, ⟨nd, rfl⟩⟩; (first | exact ⟨rfl, _, rfl⟩ | exact ⟨rfl, _, World.drewN_drewN _ _ _⟩ | exact ⟨rfl, _, Eq.trans (World.drewN_drewN _ _ _) (congrArg (World.drewN _) (Nat.add_assoc _ _ _))⟩))); try go_wp2)
  go_region_held3 (fun w' => w'.cell? ⟨w.heap.size, 0, none⟩ = some (.slice A l.length c) ∧ w'.cell? ⟨w.heap.size + 1, 0, none⟩ = some (.int .i64 t)) (first | go_keep | exact ⟨pw_cell_below hb (by go_simp), pw_cell_below hb (by go_simp)⟩) (first | (go_at_call 127; (with_reducible refine (impl_steps_c _ _ _ _).mono ?_); rintro e_ w_ ⟨rfl, ⟨nd, rfl⟩⟩) | (go_at_call 126; (with_reducible refine (impl_camOf_z _ (l.length * t) HZ.out _ (refAt l t) _ (by have := HLT.out; omega) HV.out (fun i W_ hi hb_ => CallsV.of Try.func162 rfl rfl rfl ((impl_RefineCam1_c (w.heap.size + 1) w.heap.size A c l t i W_ (pw_cell_below hb_ (by go_simp)) (pw_cell_below hb_ (by go_simp)) (CamR.mv (by repeat (first | exact HR.out | (with_reducible refine CamR.drewN ?_ _) | (with_reducible refine CamR.alloc ?_ _))) hb_) (by have := HLT.out; omega) (by omega)).mono (fun e w' h => ⟨h.1, h.2.below⟩)))).mono ?_); rintro e_ w_ ⟨v, rfl, ho, hb⟩))
  all_goals go_wp2
  all_goals go_ret2
  all_goals exact ⟨_, rfl, Kd.R_lower ho (below_size (by repeat (first | (with_reducible first | exact (Below.refl w.heap.size w) | apply below_alloc | apply pw_below_drewN | apply below_drew1) | exact (Below.refl w.heap.size w)))), below_step (by repeat (first | (with_reducible first | exact (Below.refl w.heap.size w) | apply below_alloc | apply pw_below_drewN | apply below_drew1) | exact (Below.refl w.heap.size w))) hb⟩
set_option maxHeartbeats 1000000 in
set_option maxRecDepth 100000 in
theorem impl_ThinCam_ok (A : Option Addr) (c : Nat) (l : List Int) (n t : Nat) (w : World) (hr : CamR w A c l) (ht : 1 ≤ t ∧ t ≤ 45) (hn8 : 8 ≤ n) (hlt : l.length = n * t) (hv : ∀ i : Nat, i < n → 0 ≤ thinAt l t i ∧ thinAt l t i ≤ 10000) :
    Calls Try.prog 55 #[.slice A l.length c, .int .i64 t] w fun e w' => ∃ v : Value, e = .returned (.tuple #[v, .int .i64 0]) ∧ Kd.R (Kd.int .i16) 51 w' w.heap.size (fun _ => True) v (mapN n (thinAt l t)) ∧ Below w.heap.size w w' := by
  have HR := Aside0.mk hr
  have HV := Aside0.mk hv
  have hn := hr.ok.hi
  have hz := Int.natCast_mul n t
  rw [← hlt] at hz
  have e1 : (l.length : Int).tmod t = 0 := by rw [hz, Int.mul_tmod_left]
  have e2 : (l.length : Int).tdiv t = n := by rw [hz, Int.mul_tdiv_cancel _ (by omega)]
  have hge := Nat.mul_le_mul (Nat.le_refl n) ht.1
  have hn360 : n ≤ 360 := by omega
  have ht0 : ¬ (t : Int) = 0 := by omega
  have hw2 : IntKind.i64.wrap (n : Int) = n := i64_id (by omega) (by omega)
  have hw3 : IntKind.i64.wrap ((l.length : Int).tdiv t) = n := by rw [e2]; exact hw2
  have e3 : (l.length : Int) / t = n := by rw [← Int.tdiv_eq_ediv_of_nonneg (by omega)]; exact e2
  have hw4 : IntKind.i64.wrap ((l.length : Int) / t) = n := by rw [e3]; exact hw2
  have hb0 : ((t : Int) == 0) = false := beq_eq_false_iff_ne.mpr ht0
  have ht00 : ¬ t = 0 := by omega
  clear hr hv hz hge hlt
  have hd45 : decide ((t : Int) ≤ 45) = true := decide_eq_true (by omega)
  go_enter Try.func55, Try.ntmps55
  go_wp2_with (first | (go_at_call 118; (with_reducible refine (impl_ValidCam_ok _ _ l _ (by repeat (first | exact HR.out | (with_reducible refine CamR.drewN ?_ _) | (with_reducible refine CamR.alloc ?_ _)))).mono ?_); rintro e_ w_ ⟨rfl, ⟨nd, rfl⟩⟩) | go_in)
  repeat (go_quiet (first | (go_at_call 127; (with_reducible refine (impl_steps_c _ _ _ _).mono ?_); rintro e_ w_ ⟨rfl, ⟨nd, rfl⟩⟩; (first | exact ⟨rfl, _, rfl⟩ | exact ⟨rfl, _, World.drewN_drewN _ _ _⟩ | exact ⟨rfl, _, Eq.trans (World.drewN_drewN _ _ _) (congrArg (World.drewN _) (Nat.add_assoc _ _ _))⟩)) | (go_at_call 161; (with_reducible refine (impl_isSteps_t _ _ (by omega)).mono ?_); rintro e_ w_ ⟨rfl, ⟨nd, rfl⟩⟩; (first | exact ⟨rfl, _, rfl⟩ | exact ⟨rfl, _, World.drewN_drewN _ _ _⟩ | exact ⟨rfl, _, Eq.trans (World.drewN_drewN _ _ _) (congrArg (World.drewN _) (Nat.add_assoc _ _ _))⟩))); try go_wp2)
  go_region_held3 (fun w' => w'.cell? ⟨w.heap.size, 0, none⟩ = some (.slice A l.length c) ∧ w'.cell? ⟨w.heap.size + 1, 0, none⟩ = some (.int .i64 t)) (first | go_keep | exact ⟨pw_cell_below hb (by go_simp), pw_cell_below hb (by go_simp)⟩) (first | (go_at_call 127; (with_reducible refine (impl_steps_c _ _ _ _).mono ?_); rintro e_ w_ ⟨rfl, ⟨nd, rfl⟩⟩) | (go_at_call 126; (with_reducible refine (impl_camOf_ok n _ (thinAt l t) _ (by omega) HV.out (fun i W_ hi hb_ => CallsV.of Try.func165 rfl rfl rfl ((impl_ThinCam1_c w.heap.size (w.heap.size + 1) A c l t i W_ (pw_cell_below hb_ (by go_simp)) (pw_cell_below hb_ (by go_simp)) (CamR.mv (by repeat (first | exact HR.out | (with_reducible refine CamR.drewN ?_ _) | (with_reducible refine CamR.alloc ?_ _))) hb_) (by omega) (by omega)).mono (fun e w' h => ⟨h.1, h.2.below⟩)))).mono ?_); rintro e_ w_ ⟨v, rfl, ho, hb⟩))
  all_goals go_wp2
  all_goals go_ret2
  all_goals exact ⟨_, rfl, Kd.R_lower ho (below_size (by repeat (first | (with_reducible first | exact (Below.refl w.heap.size w) | apply below_alloc | apply pw_below_drewN | apply below_drew1) | exact (Below.refl w.heap.size w)))), below_step (by repeat (first | (with_reducible first | exact (Below.refl w.heap.size w) | apply below_alloc | apply pw_below_drewN | apply below_drew1) | exact (Below.refl w.heap.size w))) hb⟩
end Go.Proofs.Ytpjibhedpieafaa.H
namespace Go.Proofs.Ytpjibhedpieafaa.H
open Go.RowKit Go.Proofs.YtpjibhedpieafaaW.PrintWords Go.Proofs.YtpjibhedpieafaaW.PrintLast Go.Proofs.YtpjibhedpieafaaW.PrintMore
attribute [local go_sem] max2_int min2_int max_two min_two max_three min_three max_four min_four   -- for this text's walks alone
set_option linter.unusedVariables false
set_option linter.unusedSimpArgs false
def errW : Option Int → Value
  | none => .nilIface
  | some c => .iface 0 (.int .i64 c)
theorem errW_none : errW none = .nilIface := rfl
theorem errW_some (c : Int) : errW (some c) = .iface 0 (.int .i64 c) := rfl
theorem info2 : (Try.prog.info? 2).map (fun i => (i.zero, i.size, i.bytes)) = some (some (.int .i64 0), 1, 8) := by kernel_rfl
theorem info51 : (Try.prog.info? 51).map (fun i => (i.zero, i.size, i.bytes)) = some (some (.int .i16 0), 1, 2) := by kernel_rfl
theorem info76 : (Try.prog.info? 76).map (fun i => (i.zero, i.size, i.bytes)) = some (some (.agg #[(.int .i8 0), (.int .i16 0), (.int .i16 0)]), 3, 6) := by kernel_rfl
structure S8 where
  f0 : Int
  f1 : Int
  f2 : Bool
  f3 : Int
def k8 : Kd S8 := Kd.iso (Kd.pair (Kd.int .i64) (Kd.pair (Kd.int .i64) (Kd.pair Kd.bool (Kd.int .u8)))) (fun x : S8 => (x.f0, x.f1, x.f2, x.f3))
structure S76 where
  f0 : Int
  f1 : Int
  f2 : Int
def z76 : S76 := ⟨(0 : Int), (0 : Int), (0 : Int)⟩
def k76 : Kd S76 := Kd.iso (Kd.pair (Kd.int .i8) (Kd.pair (Kd.int .i16) (Kd.int .i16))) (fun x : S76 => (x.f0, x.f1, x.f2))
theorem k76_open {w : World} {x : S76} {cs : List Value} (h : k76.K w x cs) : cs = [.int .i8 x.f0, .int .i16 x.f1, .int .i16 x.f2] := by
  obtain ⟨_, _, rfl, rfl, ⟨_, _, rfl, rfl, rfl⟩⟩ := h
  exact rfl
theorem k76_openM {w : World} {base : Nat} {ok : Nat → Prop} {x : S76} {cs : List Value} (h : k76.M w base ok x cs) : cs = [.int .i8 x.f0, .int .i16 x.f1, .int .i16 x.f2] := by
  obtain ⟨_, _, rfl, rfl, ⟨_, _, rfl, rfl, rfl⟩⟩ := h
  exact rfl
theorem k76_mkM (w : World) (base : Nat) (ok : Nat → Prop) (x : S76)  : k76.M w base ok x [.int .i8 x.f0, .int .i16 x.f1, .int .i16 x.f2] := ⟨[.int .i8 x.f0], [.int .i16 x.f1, .int .i16 x.f2], rfl, rfl, ⟨[.int .i16 x.f1], [.int .i16 x.f2], rfl, rfl, rfl⟩⟩
def rd_T76 (xs : List S76) (i : Int) : S76 := xs.getD i.toNat z76
theorem at_T76 {w : World} {A : Option Addr} {n : Nat} {xs : List S76} (h : Kd.C k76 w A n xs) (i : Int) (h0 : 0 ≤ i) (h1 : i < n) : ∃ ad , A = some ad ∧ w.cell? (ad.add (i.toNat * 3)) = some (.int .i8 (rd_T76 xs i).f0) ∧ w.cell? ⟨(ad.add (i.toNat * 3)).block, (ad.add (i.toNat * 3)).off + 1, none⟩ = some (.int .i16 (rd_T76 xs i).f1) ∧ w.cell? ⟨(ad.add (i.toNat * 3)).block, (ad.add (i.toNat * 3)).off + 2, none⟩ = some (.int .i16 (rd_T76 xs i).f2) := by
  obtain ⟨ad, c, e, _, hK, hc0⟩ := Kd.C_get h z76 i h0 h1
  have hc : ∀ j u, c[j]? = some u → w.cell? (ad.add (i.toNat * 3 + j)) = some u := hc0
  obtain rfl := k76_open hK
  exact ⟨ad, e, hc 0 _ rfl, by rw [← add_field _ _ 1 (by omega)]; exact hc 1 _ rfl, by rw [← add_field _ _ 2 (by omega)]; exact hc 2 _ rfl⟩
end Go.Proofs.Ytpjibhedpieafaa.H
namespace Go.Proofs.Ytpjibhedpieafaa.H
open Go.RowKit Go.Proofs.YtpjibhedpieafaaW.PrintWords Go.Proofs.YtpjibhedpieafaaW.PrintLast Go.Proofs.YtpjibhedpieafaaW.PrintMore
attribute [local go_sem] max2_int min2_int max_two min_two max_three min_three max_four min_four   -- for this text's walks alone
set_option linter.unusedVariables false
set_option linter.unusedSimpArgs false
def spec_l00From.f (l0 : List Int) : Option (List Int × Int × Int) := some (l0, 0, 0)
end Go.Proofs.Ytpjibhedpieafaa.H
namespace Go.Proofs.Ytpjibhedpieafaa.H
open Go.RowKit Go.Proofs.YtpjibhedpieafaaW.PrintWords Go.Proofs.YtpjibhedpieafaaW.PrintLast Go.Proofs.YtpjibhedpieafaaW.PrintMore
attribute [local go_sem] max2_int min2_int max_two min_two max_three min_three max_four min_four   -- for this text's walks alone
set_option linter.unusedVariables false
set_option linter.unusedSimpArgs false
def spec_l00Max.f (a0 : Int) (a1 : Int) : Option (Int) := if a0 > a1 then (some a0) else (some a1)
end Go.Proofs.Ytpjibhedpieafaa.H
namespace Go.Proofs.Ytpjibhedpieafaa.H
open Go.RowKit Go.Proofs.YtpjibhedpieafaaW.PrintWords Go.Proofs.YtpjibhedpieafaaW.PrintLast Go.Proofs.YtpjibhedpieafaaW.PrintMore
attribute [local go_sem] max2_int min2_int max_two min_two max_three min_three max_four min_four   -- for this text's walks alone
set_option linter.unusedVariables false
set_option linter.unusedSimpArgs false
def spec_l00Min.f (a0 : Int) (a1 : Int) : Option (Int) := if a0 < a1 then (some a0) else (some a1)
end Go.Proofs.Ytpjibhedpieafaa.H
namespace Go.Proofs.Ytpjibhedpieafaa.H
open Go.RowKit Go.Proofs.YtpjibhedpieafaaW.PrintWords Go.Proofs.YtpjibhedpieafaaW.PrintLast Go.Proofs.YtpjibhedpieafaaW.PrintMore
attribute [local go_sem] max2_int min2_int max_two min_two max_three min_three max_four min_four   -- for this text's walks alone
set_option linter.unusedVariables false
set_option linter.unusedSimpArgs false
/-- A state of type 206 at block g of W; what its slices lead to came in by w0. -/
def IsS206 (w0 W : World) (g : Nat) (f0 : List Int) (f1 : Int) (f2 : Int) : Prop := ∃ A0 c0, W.heap[g]? = some (.cells #[.slice A0 f0.length c0, .int .i64 f1, .int .u64 f2] 206 (0, 0)) ∧ w0.heap.size ≤ g ∧ Kd.C (Kd.int .u8) w0 A0 f0.length f0
theorem IsS206.grown {w0 W : World} {g : Nat} {f0 : List Int} {f1 : Int} {f2 : Int} {W1 : World} {row : Option Nat} (h : IsS206 w0 W g f0 f1 f2) (hw : W.grownBy W1 row) (hne : some g ≠ row) : IsS206 w0 W1 g f0 f1 f2 := by
  obtain ⟨A0, c0, hb, hg, hr0⟩ := h
  exact ⟨A0, c0, blk_grown hb hw hne, hg, hr0⟩
theorem IsS206.kept {w0 W : World} {g : Nat} {f0 : List Int} {f1 : Int} {f2 : Int} {W1 : World} {S : Nat → Prop} (h : IsS206 w0 W g f0 f1 f2) (hk : Kept W W1 S) (hne : ¬ S g) : IsS206 w0 W1 g f0 f1 f2 := by
  obtain ⟨A0, c0, hb, hg, hr0⟩ := h
  exact ⟨A0, c0, blk_kept hb hk hne, hg, hr0⟩
theorem IsS206.below {w0 W : World} {g : Nat} {f0 : List Int} {f1 : Int} {f2 : Int} {W1 : World} (h : IsS206 w0 W g f0 f1 f2) (hw : Below W.heap.size W W1) : IsS206 w0 W1 g f0 f1 f2 := h.grown (grown_of_below hw none) (by simp)
theorem IsS206.alloc {w0 W : World} {g : Nat} {f0 : List Int} {f1 : Int} {f2 : Int} (h : IsS206 w0 W g f0 f1 f2) (o : Obj) : IsS206 w0 (W.alloc o) g f0 f1 f2 := h.below (below_alloc (Below.refl _ _) o)
theorem IsS206.drewN {w0 W : World} {g : Nat} {f0 : List Int} {f1 : Int} {f2 : Int} (h : IsS206 w0 W g f0 f1 f2) (m : Nat) : IsS206 w0 (W.drewN m) g f0 f1 f2 := h
theorem IsS206.drew {w0 W : World} {g : Nat} {f0 : List Int} {f1 : Int} {f2 : Int} (h : IsS206 w0 W g f0 f1 f2) : IsS206 w0 W.drew g f0 f1 f2 := h
theorem IsS206.at_ {w0 W : World} {g : Nat} {f0 : List Int} {f1 : Int} {f2 : Int} {w' : World} {m : Nat} (hq : W.drewN m = w') (h : IsS206 w0 W g f0 f1 f2) : IsS206 w0 w' g f0 f1 f2 := by subst hq; exact IsS206.drewN h m
theorem IsS206.apart {w0 W : World} {g : Nat} {f0 : List Int} {f1 : Int} {f2 : Int} {α : Type} {d : Kd α} {e : Nat} {base : Nat} {ok : Nat → Prop} {v : Value} {xs : List α} (h : IsS206 w0 W g f0 f1 f2) (ho : d.R e W base ok v xs) (ht : ∀ q, q ∈ e :: d.E → q ≠ 206) : d.R e W base (fun k => ok k ∧ k ≠ g) v xs := by
  obtain ⟨A0, c0, hb, hg, hr0⟩ := h
  exact Kd.R_types ho hb ht
theorem IsS206.own_ne {w0 W : World} {g : Nat} {f0 : List Int} {f1 : Int} {f2 : Int} {α : Type} {d : Kd α} {e : Nat} {base : Nat} {ok : Nat → Prop} {v : Value} {xs : List α} (h : IsS206 w0 W g f0 f1 f2) (ho : d.R e W base ok v xs) (ht : e ≠ 206) : some g ≠ v.ownBlock := by
  obtain ⟨A0, c0, hb, hg, hr0⟩ := h
  exact Kd.R_ne ho hb ht
theorem IsS206.ge {w0 W : World} {g : Nat} {f0 : List Int} {f1 : Int} {f2 : Int} (h : IsS206 w0 W g f0 f1 f2) : w0.heap.size ≤ g := by
  obtain ⟨A0, c0, hb, hg, hr0⟩ := h
  exact hg
theorem IsS206.far {w0 W : World} {g : Nat} {f0 : List Int} {f1 : Int} {f2 : Int} {p : Addr} (h : IsS206 w0 W g f0 f1 f2) (hne : g ≠ p.block) (u : Value) : IsS206 w0 (W.setCell p u) g f0 f1 f2 := by
  obtain ⟨A0, c0, hb, hg, hr0⟩ := h
  exact ⟨A0, c0, blk_far hb hne u, hg, hr0⟩
theorem cellS206_0 {W : World} {g : Nat} {A0 : Option Addr} {c0 : Nat} {f0 : List Int} {f1 : Int} {f2 : Int} (h : W.heap[g]? = some (.cells #[.slice A0 f0.length c0, .int .i64 f1, .int .u64 f2] 206 (0, 0))) : W.cell? ⟨g, 0, none⟩ = some (.slice A0 f0.length c0) := (blk_cell h 0).trans rfl
theorem cellS206_1 {W : World} {g : Nat} {A0 : Option Addr} {c0 : Nat} {f0 : List Int} {f1 : Int} {f2 : Int} (h : W.heap[g]? = some (.cells #[.slice A0 f0.length c0, .int .i64 f1, .int .u64 f2] 206 (0, 0))) : W.cell? ⟨g, 1, none⟩ = some (.int .i64 f1) := (blk_cell h 1).trans rfl
theorem IsS206.set_1 {w0 W : World} {g : Nat} {f0 : List Int} {f1 : Int} {f2 : Int} (h : IsS206 w0 W g f0 f1 f2) (x : Int) : IsS206 w0 (W.setCell ⟨g, 1, none⟩ (.int .i64 x)) g f0 x f2 := by
  obtain ⟨A0, c0, hb, hg, hr0⟩ := h
  exact ⟨A0, c0, by simpa using blk_set hb 1 (.int .i64 x), hg, hr0⟩
theorem cellS206_2 {W : World} {g : Nat} {A0 : Option Addr} {c0 : Nat} {f0 : List Int} {f1 : Int} {f2 : Int} (h : W.heap[g]? = some (.cells #[.slice A0 f0.length c0, .int .i64 f1, .int .u64 f2] 206 (0, 0))) : W.cell? ⟨g, 2, none⟩ = some (.int .u64 f2) := (blk_cell h 2).trans rfl
theorem IsS206.set_2 {w0 W : World} {g : Nat} {f0 : List Int} {f1 : Int} {f2 : Int} (h : IsS206 w0 W g f0 f1 f2) (x : Int) : IsS206 w0 (W.setCell ⟨g, 2, none⟩ (.int .u64 x)) g f0 f1 x := by
  obtain ⟨A0, c0, hb, hg, hr0⟩ := h
  exact ⟨A0, c0, by simpa using blk_set hb 2 (.int .u64 x), hg, hr0⟩
theorem IsS206.new (w0 W : World) (A0 : Option Addr) (c0 : Nat) (f0 : List Int) (f1 : Int) (f2 : Int) (hB : Below w0.heap.size w0 W) (hr0 : Kd.C (Kd.int .u8) w0 A0 f0.length f0) : IsS206 w0 (W.alloc (.cells #[.slice A0 f0.length c0, .int .i64 f1, .int .u64 f2] 206)) W.heap.size f0 f1 f2 := ⟨A0, c0, by simpa using heap_alloc_new W _, hB.size, hr0⟩
def spec_l00Src_next.f (s0_0 : List Int) (s0_1 : Int) (s0_2 : Int) : Option (Int × Int × Int) := if s0_1 < (s0_0.length : Int) then (if 0 ≤ s0_1 then (if (wrap64 (s0_1 + 1)) ≤ (s0_0.length : Int) then (some (wrap64 (rd s0_0 s0_1), wrap64 (s0_1 + 1), IntKind.u64.wrap ((IntKind.u64.wrap ((IntKind.u64.wrap (s0_2 * 6364136223846793005)) + (IntKind.u64.wrap (wrap64 (rd s0_0 s0_1))))) + 1442695040888963407))) else (some (wrap64 (Go.bits .and .u64 ((IntKind.u64.wrap ((IntKind.u64.wrap ((IntKind.u64.wrap (s0_2 * 6364136223846793005)) + (IntKind.u64.wrap (wrap64 (rd s0_0 s0_1))))) + 1442695040888963407)) / 1099511627776) 255), wrap64 (s0_1 + 1), IntKind.u64.wrap ((IntKind.u64.wrap ((IntKind.u64.wrap (s0_2 * 6364136223846793005)) + (IntKind.u64.wrap (wrap64 (rd s0_0 s0_1))))) + 1442695040888963407)))) else (none)) else (if (wrap64 (s0_1 + 1)) ≤ (s0_0.length : Int) then (some (0, wrap64 (s0_1 + 1), IntKind.u64.wrap ((IntKind.u64.wrap (IntKind.u64.wrap (s0_2 * 6364136223846793005))) + 1442695040888963407))) else (some (wrap64 (Go.bits .and .u64 ((IntKind.u64.wrap ((IntKind.u64.wrap (IntKind.u64.wrap (s0_2 * 6364136223846793005))) + 1442695040888963407)) / 1099511627776) 255), wrap64 (s0_1 + 1), IntKind.u64.wrap ((IntKind.u64.wrap (IntKind.u64.wrap (s0_2 * 6364136223846793005))) + 1442695040888963407))))
end Go.Proofs.Ytpjibhedpieafaa.H
namespace Go.Proofs.Ytpjibhedpieafaa.H
open Go.RowKit Go.Proofs.YtpjibhedpieafaaW.PrintWords Go.Proofs.YtpjibhedpieafaaW.PrintLast Go.Proofs.YtpjibhedpieafaaW.PrintMore
attribute [local go_sem] max2_int min2_int max_two min_two max_three min_three max_four min_four   -- for this text's walks alone
set_option linter.unusedVariables false
set_option linter.unusedSimpArgs false
def spec_l00Src_pick.f (s0_0 : List Int) (s0_1 : Int) (s0_2 : Int) (a1 : Int) : Option (Int × Int × Int) := if a1 ≤ 1 then (some (0, s0_1, s0_2)) else ((spec_l00Src_next.f s0_0 s0_1 s0_2).bind fun bt101 => (if a1 > 200 then ((spec_l00Src_next.f s0_0 bt101.2.1 bt101.2.2).bind fun bt104 => (if a1 = 0 then (none) else (some (Int.tmod (wrap64 ((wrap64 (bt101.1 * 256)) + bt104.1)) a1, bt104.2.1, bt104.2.2)))) else (if a1 = 0 then (none) else (some (Int.tmod bt101.1 a1, bt101.2.1, bt101.2.2)))))
end Go.Proofs.Ytpjibhedpieafaa.H
namespace Go.Proofs.Ytpjibhedpieafaa.H
open Go.RowKit Go.Proofs.YtpjibhedpieafaaW.PrintWords Go.Proofs.YtpjibhedpieafaaW.PrintLast Go.Proofs.YtpjibhedpieafaaW.PrintMore
attribute [local go_sem] max2_int min2_int max_two min_two max_three min_three max_four min_four   -- for this text's walks alone
set_option linter.unusedVariables false
set_option linter.unusedSimpArgs false
def spec_l00Src_among.f (s0_0 : List Int) (s0_1 : Int) (s0_2 : Int) (l1 : List Int) : Option (Int × Int × Int) := (spec_l00Src_pick.f s0_0 s0_1 s0_2 (l1.length : Int)).bind fun bt101 => (if 0 ≤ bt101.1 then (if bt101.1 < (l1.length : Int) then (some (rd l1 bt101.1, bt101.2.1, bt101.2.2)) else (none)) else (none))
end Go.Proofs.Ytpjibhedpieafaa.H
namespace Go.Proofs.Ytpjibhedpieafaa.H
open Go.RowKit Go.Proofs.YtpjibhedpieafaaW.PrintWords Go.Proofs.YtpjibhedpieafaaW.PrintLast Go.Proofs.YtpjibhedpieafaaW.PrintMore
attribute [local go_sem] max2_int min2_int max_two min_two max_three min_three max_four min_four   -- for this text's walks alone
set_option linter.unusedVariables false
set_option linter.unusedSimpArgs false
def spec_l00Src_one.f (s0_0 : List Int) (s0_1 : Int) (s0_2 : Int) (a1 : Int) : Option (Bool × Int × Int) := (spec_l00Src_pick.f s0_0 s0_1 s0_2 a1).bind fun bt101 => (some ((bt101.1 == 0), bt101.2.1, bt101.2.2))
end Go.Proofs.Ytpjibhedpieafaa.H
namespace Go.Proofs.Ytpjibhedpieafaa.H
open Go.RowKit Go.Proofs.YtpjibhedpieafaaW.PrintWords Go.Proofs.YtpjibhedpieafaaW.PrintLast Go.Proofs.YtpjibhedpieafaaW.PrintMore
attribute [local go_sem] max2_int min2_int max_two min_two max_three min_three max_four min_four   -- for this text's walks alone
set_option linter.unusedVariables false
set_option linter.unusedSimpArgs false
mutual
def spec_l01Drawn.l0 : Nat → Int → List Int → Int → List Int → Int → Int → Option (List Int × Int × Int)
  | 0, _, _, _, _, _, _ => none
  | k + 1, x3, x4, x5, x1000, x1001, x1002 => if (x4.length : Int) < x3 then ((spec_l00Src_pick.f x1000 x1001 x1002 7).bind fun bt113 => ((spec_l00Src_pick.f x1000 bt113.2.1 bt113.2.2 5).bind fun bt116 => (spec_l01Drawn.l1 k x3 x4 x5 (wrap64 (bt113.1 - 3)) (wrap64 (1 + bt116.1)) x1000 bt116.2.1 bt116.2.2))) else ((spec_l00Src_one.f x1000 x1001 x1002 8).bind fun bt124 => (if bt124.1 = true then (if 0 ≤ (wrap64 (Int.tdiv x3 2)) then (if (wrap64 (Int.tdiv x3 2)) ≤ (x4.length : Int) then ((some (x4.take ((wrap64 (Int.tdiv x3 2)) : Int).toNat : List Int)).bind fun y127 => (if (Int.tmod x3 2) = 0 then ((some (([] : List Int) : List Int)).bind fun y131 => (if y131.length + y127.length < 70368744177664 then ((some (y131 ++ y127 : List Int)).bind fun y134 => (if y134.length + y127.length < 70368744177664 then (some ((y134 ++ y127), bt124.2.1, bt124.2.2)) else (none))) else (none))) else (some (x4, bt124.2.1, bt124.2.2)))) else (none)) else (none)) else (some (x4, bt124.2.1, bt124.2.2))))
def spec_l01Drawn.l1 : Nat → Int → List Int → Int → Int → Int → List Int → Int → Int → Option (List Int × Int × Int)
  | 0, _, _, _, _, _, _, _, _ => none
  | k + 1, x3, x4, x5, x6, x7, x1000, x1001, x1002 => if x7 > 0 then (spec_l01Drawn.j2 k x3 x4 x5 x6 x7 (decide ((x4.length : Int) < x3)) x1000 x1001 x1002) else (spec_l01Drawn.j2 k x3 x4 x5 x6 x7 false x1000 x1001 x1002)
def spec_l01Drawn.j2 : Nat → Int → List Int → Int → Int → Int → Bool → List Int → Int → Int → Option (List Int × Int × Int)
  | 0, _, _, _, _, _, _, _, _, _ => none
  | k + 1, x3, x4, x5, x6, x7, x32, x1000, x1001, x1002 => if x32 = true then ((spec_l00Min.f 60 (wrap64 (x5 + x6))).bind fun t119 => ((spec_l00Max.f 0 t119).bind fun t120 => (if x4.length < 70368744177664 then (spec_l01Drawn.l1 k x3 (x4 ++ [IntKind.i16.wrap (t120)]) t120 x6 (wrap64 (x7 - 1)) x1000 x1001 x1002) else (none)))) else (spec_l01Drawn.l0 k x3 x4 x5 x1000 x1001 x1002)
end
def spec_l01Drawn.f (k : Nat) (s0_0 : List Int) (s0_1 : Int) (s0_2 : Int) : Option (List Int × Int × Int) := (spec_l00Src_among.f s0_0 s0_1 s0_2 (([8, 9, 12, 16, 24, 36] : List Int))).bind fun bt104 => ((spec_l00Src_pick.f s0_0 bt104.2.1 bt104.2.2 20).bind fun bt110 => (spec_l01Drawn.l0 k bt104.1 (([] : List Int)) bt110.1 s0_0 bt110.2.1 bt110.2.2))
theorem spec_l01Drawn.mono_l : ∀ k, (∀ y0 y1 y2 y3 y4 y5, LeO (spec_l01Drawn.l0 k y0 y1 y2 y3 y4 y5) (spec_l01Drawn.l0 (k + 1) y0 y1 y2 y3 y4 y5)) ∧ (∀ y0 y1 y2 y3 y4 y5 y6 y7, LeO (spec_l01Drawn.l1 k y0 y1 y2 y3 y4 y5 y6 y7) (spec_l01Drawn.l1 (k + 1) y0 y1 y2 y3 y4 y5 y6 y7)) ∧ (∀ y0 y1 y2 y3 y4 y5 y6 y7 y8, LeO (spec_l01Drawn.j2 k y0 y1 y2 y3 y4 y5 y6 y7 y8) (spec_l01Drawn.j2 (k + 1) y0 y1 y2 y3 y4 y5 y6 y7 y8))
  | 0 => ⟨fun _ _ _ _ _ _ r h => by simp [spec_l01Drawn.l0] at h, fun _ _ _ _ _ _ _ _ r h => by simp [spec_l01Drawn.l1] at h, fun _ _ _ _ _ _ _ _ _ r h => by simp [spec_l01Drawn.j2] at h⟩
  | k + 1 => by
    obtain ⟨ih0, ih1, ih2⟩ := spec_l01Drawn.mono_l k
    refine ⟨?_, ?_, ?_⟩
    · intro y0 y1 y2 y3 y4 y5
      unfold spec_l01Drawn.l0
      repeat' first
      | (with_reducible exact ih0 _ _ _ _ _ _)
      | (with_reducible exact ih1 _ _ _ _ _ _ _ _)
      | (with_reducible exact ih2 _ _ _ _ _ _ _ _ _)
      | (with_reducible exact LeO.refl _)
      | (with_reducible exact LeO.none _)
      | (with_reducible refine LeO.ite ?_ ?_)
      | (with_reducible refine LeO.bind ?_ (fun _ => ?_))
      | exact ih0 _ _ _ _ _ _
      | exact ih1 _ _ _ _ _ _ _ _
      | exact ih2 _ _ _ _ _ _ _ _ _
      | exact LeO.none _
      | refine LeO.ite ?_ ?_
      | refine LeO.bind ?_ (fun _ => ?_)
    · intro y0 y1 y2 y3 y4 y5 y6 y7
      unfold spec_l01Drawn.l1
      repeat' first
      | (with_reducible exact ih0 _ _ _ _ _ _)
      | (with_reducible exact ih1 _ _ _ _ _ _ _ _)
      | (with_reducible exact ih2 _ _ _ _ _ _ _ _ _)
      | (with_reducible exact LeO.refl _)
      | (with_reducible exact LeO.none _)
      | (with_reducible refine LeO.ite ?_ ?_)
      | (with_reducible refine LeO.bind ?_ (fun _ => ?_))
      | exact ih0 _ _ _ _ _ _
      | exact ih1 _ _ _ _ _ _ _ _
      | exact ih2 _ _ _ _ _ _ _ _ _
      | exact LeO.none _
      | refine LeO.ite ?_ ?_
      | refine LeO.bind ?_ (fun _ => ?_)
    · intro y0 y1 y2 y3 y4 y5 y6 y7 y8
      unfold spec_l01Drawn.j2
      repeat' first
      | (with_reducible exact ih0 _ _ _ _ _ _)
      | (with_reducible exact ih1 _ _ _ _ _ _ _ _)
      | (with_reducible exact ih2 _ _ _ _ _ _ _ _ _)
      | (with_reducible exact LeO.refl _)
      | (with_reducible exact LeO.none _)
      | (with_reducible refine LeO.ite ?_ ?_)
      | (with_reducible refine LeO.bind ?_ (fun _ => ?_))
      | exact ih0 _ _ _ _ _ _
      | exact ih1 _ _ _ _ _ _ _ _
      | exact ih2 _ _ _ _ _ _ _ _ _
      | exact LeO.none _
      | refine LeO.ite ?_ ?_
      | refine LeO.bind ?_ (fun _ => ?_)
theorem spec_l01Drawn.mono : ∀ a0 a1 a2 k, LeO (spec_l01Drawn.f k a0 a1 a2) (spec_l01Drawn.f (k + 1) a0 a1 a2) := by
  intro a0 a1 a2 k
  obtain ⟨ih0, ih1, ih2⟩ := spec_l01Drawn.mono_l k
  unfold spec_l01Drawn.f
  repeat' first
      | (with_reducible exact ih0 _ _ _ _ _ _)
      | (with_reducible exact ih1 _ _ _ _ _ _ _ _)
      | (with_reducible exact ih2 _ _ _ _ _ _ _ _ _)
      | (with_reducible exact LeO.refl _)
      | (with_reducible exact LeO.none _)
      | (with_reducible refine LeO.ite ?_ ?_)
      | (with_reducible refine LeO.bind ?_ (fun _ => ?_))
      | exact ih0 _ _ _ _ _ _
      | exact ih1 _ _ _ _ _ _ _ _
      | exact ih2 _ _ _ _ _ _ _ _ _
      | exact LeO.none _
      | refine LeO.ite ?_ ?_
      | refine LeO.bind ?_ (fun _ => ?_)
end Go.Proofs.Ytpjibhedpieafaa.H
namespace Go.Proofs.Ytpjibhedpieafaa.H
open Go.RowKit Go.Proofs.YtpjibhedpieafaaW.PrintWords Go.Proofs.YtpjibhedpieafaaW.PrintLast Go.Proofs.YtpjibhedpieafaaW.PrintMore
attribute [local go_sem] max2_int min2_int max_two min_two max_three min_three max_four min_four   -- for this text's walks alone
set_option linter.unusedVariables false
set_option linter.unusedSimpArgs false
def spec_P6Cam.f (k : Nat) (l0 : List Int) : Option (List Int) := (spec_l00From.f l0).bind fun bt101 => ((spec_l01Drawn.f k bt101.1 bt101.2.1 bt101.2.2).bind fun bt105 => (some bt105.1))
theorem spec_P6Cam.mono : ∀ a0 k, LeO (spec_P6Cam.f k a0) (spec_P6Cam.f (k + 1) a0) := by
  intro a0 k
  unfold spec_P6Cam.f
  repeat' first
      | (with_reducible exact spec_l01Drawn.mono _ _ _ _)
      | (with_reducible exact LeO.refl _)
      | (with_reducible exact LeO.none _)
      | (with_reducible refine LeO.ite ?_ ?_)
      | (with_reducible refine LeO.bind ?_ (fun _ => ?_))
      | exact spec_l01Drawn.mono _ _ _ _
      | exact LeO.none _
      | refine LeO.ite ?_ ?_
      | refine LeO.bind ?_ (fun _ => ?_)
end Go.Proofs.Ytpjibhedpieafaa.H
namespace Go.Proofs.Ytpjibhedpieafaa.H
open Go.RowKit Go.Proofs.YtpjibhedpieafaaW.PrintWords Go.Proofs.YtpjibhedpieafaaW.PrintLast Go.Proofs.YtpjibhedpieafaaW.PrintMore
attribute [local go_sem] max2_int min2_int max_two min_two max_three min_three max_four min_four   -- for this text's walks alone
set_option linter.unusedVariables false
set_option linter.unusedSimpArgs false
set_option maxHeartbeats 8000000 in
set_option maxRecDepth 100000 in
theorem spec_l00From.calls (A0 : Option Addr) (c0 : Nat) (l0 : List Int) (r1 : List Int) (r2 : Int) (r3 : Int) (w0 w : World) (hB : Below w0.heap.size w0 w) (hr0 : Kd.C (Kd.int .u8) w0 A0 l0.length l0) (hc0 : l0.length ≤ c0) (h : spec_l00From.f l0 = some (r1, r2, r3)) :
    Calls Try.prog 117 #[.slice A0 l0.length c0] w fun e w' => ∃ g_ : Nat, e = .returned (.pointer (some ⟨g_, 0, none⟩)) ∧ IsS206 w0 w' g_ r1 r2 r3 ∧ Below w0.heap.size w0 w' ∧ Below w.heap.size w w' := by
  have hu206 := Try.underlying206
  have HR0 := Aside0.mk hr0
  have HC0 := Aside0.mk hc0
  clear hr0 hc0
  have HBW := Aside0.mk (Below.refl w.heap.size w)
  have HW0 := Aside0.mk hB.size
  have HB := Aside0.mk hB
  clear hB
  have H : (some (l0, 0, 0)) = some (r1, r2, r3) := h
  clear h
  simp only [Option.some.injEq, Prod.mk.injEq] at H
  obtain ⟨rfl, rfl, rfl⟩ := H
  go_enter Try.func117, Try.ntmps117
  go_wp2_with (first | ((with_reducible refine gate_dst (N := 5) rfl ?_); refine box_event ?hg (N := 5) ?hd (cs := #[.slice A0 l0.length c0, .int .i64 0, .int .u64 0]) (t := 206) ?hr ?_; (case hd => rfl); (case hg => rfl); (case hr => first | (go_simp; done) | (go_simp; rfl)); intro gb101 hg w2 hbox hb; have n0_ := Aside0.mk (below_step HBW.out hb); have n1_ := Aside0.mk (below_step (by repeat (first | (with_reducible first | exact HB.out | apply below_alloc | apply pw_below_drewN | apply below_drew1) | exact HB.out)) hb); have n2_ := Aside0.mk (hbox); have n3_ := Aside0.mk ((by rw [hg]; exact (below_size (by repeat (first | (with_reducible first | exact HBW.out | apply below_alloc | apply pw_below_drewN | apply below_drew1) | exact HBW.out))) : w.heap.size ≤ gb101)); have n4_ := Aside0.mk ((Nat.le_trans HW0.out (by rw [hg]; exact (below_size (by repeat (first | (with_reducible first | exact HBW.out | apply below_alloc | apply pw_below_drewN | apply below_drew1) | exact HBW.out))) : w.heap.size ≤ gb101) : w0.heap.size ≤ gb101)); clear HBW; clear HB; have HBW := n0_; have HB := n1_; have BK101 := n2_; have GW101 := n3_; have GE101 := n4_; clear n0_ n1_ n2_ n3_ n4_; clear hb hbox hg))
  go_ret
  exact ⟨_, rfl, (show IsS206 w0 _ gb101 l0 0 0 from ⟨_, _, by (with_reducible repeat (first | refine blk_drewN ?_ _ | refine blk_drew ?_ | refine blk_alloc ?_ _)); exact BK101.out, GE101.out, HR0.out⟩), by repeat (first | (with_reducible first | exact HB.out | apply below_alloc | apply pw_below_drewN | apply below_drew1 | refine below_set ?_ GE101.out) | exact HB.out), by repeat (first | (with_reducible first | exact HBW.out | apply below_alloc | apply pw_below_drewN | apply below_drew1 | refine below_set ?_ GW101.out) | exact HBW.out)⟩
end Go.Proofs.Ytpjibhedpieafaa.H
namespace Go.Proofs.Ytpjibhedpieafaa.H
open Go.RowKit Go.Proofs.YtpjibhedpieafaaW.PrintWords Go.Proofs.YtpjibhedpieafaaW.PrintLast Go.Proofs.YtpjibhedpieafaaW.PrintMore
attribute [local go_sem] max2_int min2_int max_two min_two max_three min_three max_four min_four   -- for this text's walks alone
set_option linter.unusedVariables false
set_option linter.unusedSimpArgs false
set_option maxHeartbeats 8000000 in
set_option maxRecDepth 100000 in
theorem spec_l00Max.calls (a0 : Int) (a1 : Int) (r : Int) (w : World) (h : spec_l00Max.f a0 a1 = some r) :
    Calls Try.prog 124 #[.int .i64 a0, .int .i64 a1] w fun e w' => e = .returned (.int .i64 r) ∧ Drawn0 w w' := by
  have H : (if a0 > a1 then (some a0) else (some a1)) = some r := h
  clear h
  by_cases c3 : a0 > a1
  · rw [if_pos c3] at H
    have c3b0 : decide (a1 < a0) = true := decide_eq_true c3
    clear c3
    obtain rfl := Option.some.inj H
    go_enter Try.func124, Try.ntmps124
    go_wp2
    go_ret
    exact ⟨by first | rfl | (simp; done) | (simp [*]; done), by repeat (first | exact Drawn0.refl _ | apply Drawn0.step)⟩
  · rw [if_neg c3] at H
    have c3b0 : decide (a1 < a0) = false := decide_eq_false c3
    clear c3
    obtain rfl := Option.some.inj H
    go_enter Try.func124, Try.ntmps124
    go_wp2
    go_ret
    exact ⟨by first | rfl | (simp; done) | (simp [*]; done), by repeat (first | exact Drawn0.refl _ | apply Drawn0.step)⟩
end Go.Proofs.Ytpjibhedpieafaa.H
namespace Go.Proofs.Ytpjibhedpieafaa.H
open Go.RowKit Go.Proofs.YtpjibhedpieafaaW.PrintWords Go.Proofs.YtpjibhedpieafaaW.PrintLast Go.Proofs.YtpjibhedpieafaaW.PrintMore
attribute [local go_sem] max2_int min2_int max_two min_two max_three min_three max_four min_four   -- for this text's walks alone
set_option linter.unusedVariables false
set_option linter.unusedSimpArgs false
set_option maxHeartbeats 8000000 in
set_option maxRecDepth 100000 in
theorem spec_l00Min.calls (a0 : Int) (a1 : Int) (r : Int) (w : World) (h : spec_l00Min.f a0 a1 = some r) :
    Calls Try.prog 215 #[.int .i64 a0, .int .i64 a1] w fun e w' => e = .returned (.int .i64 r) ∧ Drawn0 w w' := by
  have H : (if a0 < a1 then (some a0) else (some a1)) = some r := h
  clear h
  by_cases c3 : a0 < a1
  · rw [if_pos c3] at H
    have c3b0 : decide (a0 < a1) = true := decide_eq_true c3
    clear c3
    obtain rfl := Option.some.inj H
    go_enter Try.func215, Try.ntmps215
    go_wp2
    go_ret
    exact ⟨by first | rfl | (simp; done) | (simp [*]; done), by repeat (first | exact Drawn0.refl _ | apply Drawn0.step)⟩
  · rw [if_neg c3] at H
    have c3b0 : decide (a0 < a1) = false := decide_eq_false c3
    clear c3
    obtain rfl := Option.some.inj H
    go_enter Try.func215, Try.ntmps215
    go_wp2
    go_ret
    exact ⟨by first | rfl | (simp; done) | (simp [*]; done), by repeat (first | exact Drawn0.refl _ | apply Drawn0.step)⟩
end Go.Proofs.Ytpjibhedpieafaa.H
namespace Go.Proofs.Ytpjibhedpieafaa.H
open Go.RowKit Go.Proofs.YtpjibhedpieafaaW.PrintWords Go.Proofs.YtpjibhedpieafaaW.PrintLast Go.Proofs.YtpjibhedpieafaaW.PrintMore
attribute [local go_sem] max2_int min2_int max_two min_two max_three min_three max_four min_four   -- for this text's walks alone
set_option linter.unusedVariables false
set_option linter.unusedSimpArgs false
set_option maxHeartbeats 8000000 in
set_option maxRecDepth 100000 in
theorem spec_l00Src_next.calls (g : Nat) (s0_0 : List Int) (s0_1 : Int) (s0_2 : Int) (r1 : Int) (r2 : Int) (r3 : Int) (w0 w : World) (hI : IsS206 w0 w g s0_0 s0_1 s0_2) (hB : Below w0.heap.size w0 w) (h : spec_l00Src_next.f s0_0 s0_1 s0_2 = some (r1, r2, r3)) :
    Calls Try.prog 220 #[.pointer (some ⟨g, 0, none⟩)] w fun e w' => e = .returned (.int .i64 r1) ∧ IsS206 w0 w' g s0_0 r2 r3 ∧ Below w0.heap.size w0 w' ∧ KeepBut w w' g none := by
  have HI0 := Aside0.mk hI
  have HK := Aside0.mk (KeepBut.refl w g none)
  have HL := Aside0.mk hB.size
  clear hI
  have HW0 := Aside0.mk hB.size
  have HB := Aside0.mk hB
  clear hB
  have H : (if s0_1 < (s0_0.length : Int) then (if 0 ≤ s0_1 then (if (wrap64 (s0_1 + 1)) ≤ (s0_0.length : Int) then (some (wrap64 (rd s0_0 s0_1), wrap64 (s0_1 + 1), IntKind.u64.wrap ((IntKind.u64.wrap ((IntKind.u64.wrap (s0_2 * 6364136223846793005)) + (IntKind.u64.wrap (wrap64 (rd s0_0 s0_1))))) + 1442695040888963407))) else (some (wrap64 (Go.bits .and .u64 ((IntKind.u64.wrap ((IntKind.u64.wrap ((IntKind.u64.wrap (s0_2 * 6364136223846793005)) + (IntKind.u64.wrap (wrap64 (rd s0_0 s0_1))))) + 1442695040888963407)) / 1099511627776) 255), wrap64 (s0_1 + 1), IntKind.u64.wrap ((IntKind.u64.wrap ((IntKind.u64.wrap (s0_2 * 6364136223846793005)) + (IntKind.u64.wrap (wrap64 (rd s0_0 s0_1))))) + 1442695040888963407)))) else (none)) else (if (wrap64 (s0_1 + 1)) ≤ (s0_0.length : Int) then (some (0, wrap64 (s0_1 + 1), IntKind.u64.wrap ((IntKind.u64.wrap (IntKind.u64.wrap (s0_2 * 6364136223846793005))) + 1442695040888963407))) else (some (wrap64 (Go.bits .and .u64 ((IntKind.u64.wrap ((IntKind.u64.wrap (IntKind.u64.wrap (s0_2 * 6364136223846793005))) + 1442695040888963407)) / 1099511627776) 255), wrap64 (s0_1 + 1), IntKind.u64.wrap ((IntKind.u64.wrap (IntKind.u64.wrap (s0_2 * 6364136223846793005))) + 1442695040888963407))))) = some (r1, r2, r3) := h
  clear h
  by_cases c2 : s0_1 < (s0_0.length : Int)
  · rw [if_pos c2] at H
    have c2b0 : decide (s0_1 < (s0_0.length : Int)) = true := decide_eq_true c2
    clear c2
    by_cases c3 : 0 ≤ s0_1
    · rw [if_pos c3] at H
      have c3b0 : decide (0 ≤ s0_1) = true := decide_eq_true c3
      clear c3
      by_cases c4 : (wrap64 (s0_1 + 1)) ≤ (s0_0.length : Int)
      · rw [if_pos c4] at H
        have c4b0 : decide ((wrap64 (s0_1 + 1)) ≤ (s0_0.length : Int)) = true := decide_eq_true c4
        clear c4
        simp only [Option.some.injEq, Prod.mk.injEq] at H
        obtain ⟨rfl, rfl, rfl⟩ := H
        obtain ⟨ASz5_0, cSz5_0, HGz5, hgz5, HSz5_0⟩ := HI0.out
        have hcz5_0 := cellS206_0 HGz5
        have hcz5_1 := cellS206_1 HGz5
        have hcz5_2 := cellS206_2 HGz5
        have hfz5_1 := blk_frozen HGz5 1
        have hfz5_2 := blk_frozen HGz5 2
        clear HGz5 hgz5
        have p101 : 0 ≤ (s0_1 : Int) := of_decide_eq_true (by first | (with_reducible assumption) | assumption)
        have q101 : s0_1 < (s0_0.length : Int) := of_decide_eq_true (by first | (with_reducible assumption) | assumption)
        obtain ⟨ad101, e101, hx101_0⟩ := Kd.at_int HSz5_0 s0_1 p101 q101
        cases e101
        replace hx101_0 := pw_cell_below HB.out hx101_0
        replace p101 := eq_true p101
        replace q101 := eq_true q101
        go_enter Try.func220, Try.ntmps220
        go_wp2
        repeat (go_quiet (fail); try go_wp2)
        go_ret
        exact ⟨by first | rfl | (simp [errW_none, errW_some] <;> rfl) | (simp [*, errW_none, errW_some] <;> rfl), by repeat (first | (with_reducible first | exact HI0.out | apply IsS206.alloc | apply IsS206.drewN | apply IsS206.drew | apply IsS206.set_1 | apply IsS206.set_2) | exact HI0.out), by repeat (first | (with_reducible first | exact HB.out | apply below_alloc | apply pw_below_drewN | apply below_drew1 | refine below_set ?_ (IsS206.ge HI0.out)) | exact HB.out), by repeat (first | (with_reducible first | exact HK.out | apply KeepBut.set_ | apply keep_drewN | apply keep_drew | apply keep_alloc) | exact HK.out)⟩
      · rw [if_neg c4] at H
        have c4b0 : decide ((wrap64 (s0_1 + 1)) ≤ (s0_0.length : Int)) = false := decide_eq_false c4
        clear c4
        simp only [Option.some.injEq, Prod.mk.injEq] at H
        obtain ⟨rfl, rfl, rfl⟩ := H
        obtain ⟨ASz6_0, cSz6_0, HGz6, hgz6, HSz6_0⟩ := HI0.out
        have hcz6_0 := cellS206_0 HGz6
        have hcz6_1 := cellS206_1 HGz6
        have hcz6_2 := cellS206_2 HGz6
        have hfz6_1 := blk_frozen HGz6 1
        have hfz6_2 := blk_frozen HGz6 2
        clear HGz6 hgz6
        have p101 : 0 ≤ (s0_1 : Int) := of_decide_eq_true (by first | (with_reducible assumption) | assumption)
        have q101 : s0_1 < (s0_0.length : Int) := of_decide_eq_true (by first | (with_reducible assumption) | assumption)
        obtain ⟨ad101, e101, hx101_0⟩ := Kd.at_int HSz6_0 s0_1 p101 q101
        cases e101
        replace hx101_0 := pw_cell_below HB.out hx101_0
        replace p101 := eq_true p101
        replace q101 := eq_true q101
        go_enter Try.func220, Try.ntmps220
        go_wp2
        repeat (go_quiet (fail); try go_wp2)
        go_ret
        exact ⟨by first | rfl | (simp [errW_none, errW_some] <;> rfl) | (simp [*, errW_none, errW_some] <;> rfl), by repeat (first | (with_reducible first | exact HI0.out | apply IsS206.alloc | apply IsS206.drewN | apply IsS206.drew | apply IsS206.set_1 | apply IsS206.set_2) | exact HI0.out), by repeat (first | (with_reducible first | exact HB.out | apply below_alloc | apply pw_below_drewN | apply below_drew1 | refine below_set ?_ (IsS206.ge HI0.out)) | exact HB.out), by repeat (first | (with_reducible first | exact HK.out | apply KeepBut.set_ | apply keep_drewN | apply keep_drew | apply keep_alloc) | exact HK.out)⟩
    · rw [if_neg c3] at H
      exact absurd H (by simp)
  · rw [if_neg c2] at H
    have c2b0 : decide (s0_1 < (s0_0.length : Int)) = false := decide_eq_false c2
    clear c2
    by_cases c7 : (wrap64 (s0_1 + 1)) ≤ (s0_0.length : Int)
    · rw [if_pos c7] at H
      have c7b0 : decide ((wrap64 (s0_1 + 1)) ≤ (s0_0.length : Int)) = true := decide_eq_true c7
      clear c7
      simp only [Option.some.injEq, Prod.mk.injEq] at H
      obtain ⟨rfl, rfl, rfl⟩ := H
      obtain ⟨ASz8_0, cSz8_0, HGz8, hgz8, HSz8_0⟩ := HI0.out
      have hcz8_0 := cellS206_0 HGz8
      have hcz8_1 := cellS206_1 HGz8
      have hcz8_2 := cellS206_2 HGz8
      have hfz8_1 := blk_frozen HGz8 1
      have hfz8_2 := blk_frozen HGz8 2
      clear HGz8 hgz8
      go_enter Try.func220, Try.ntmps220
      go_wp2
      repeat (go_quiet (fail); try go_wp2)
      go_ret
      exact ⟨by first | rfl | (simp [errW_none, errW_some] <;> rfl) | (simp [*, errW_none, errW_some] <;> rfl), by repeat (first | (with_reducible first | exact HI0.out | apply IsS206.alloc | apply IsS206.drewN | apply IsS206.drew | apply IsS206.set_1 | apply IsS206.set_2) | exact HI0.out), by repeat (first | (with_reducible first | exact HB.out | apply below_alloc | apply pw_below_drewN | apply below_drew1 | refine below_set ?_ (IsS206.ge HI0.out)) | exact HB.out), by repeat (first | (with_reducible first | exact HK.out | apply KeepBut.set_ | apply keep_drewN | apply keep_drew | apply keep_alloc) | exact HK.out)⟩
    · rw [if_neg c7] at H
      have c7b0 : decide ((wrap64 (s0_1 + 1)) ≤ (s0_0.length : Int)) = false := decide_eq_false c7
      clear c7
      simp only [Option.some.injEq, Prod.mk.injEq] at H
      obtain ⟨rfl, rfl, rfl⟩ := H
      obtain ⟨ASz9_0, cSz9_0, HGz9, hgz9, HSz9_0⟩ := HI0.out
      have hcz9_0 := cellS206_0 HGz9
      have hcz9_1 := cellS206_1 HGz9
      have hcz9_2 := cellS206_2 HGz9
      have hfz9_1 := blk_frozen HGz9 1
      have hfz9_2 := blk_frozen HGz9 2
      clear HGz9 hgz9
      go_enter Try.func220, Try.ntmps220
      go_wp2
      repeat (go_quiet (fail); try go_wp2)
      go_ret
      exact ⟨by first | rfl | (simp [errW_none, errW_some] <;> rfl) | (simp [*, errW_none, errW_some] <;> rfl), by repeat (first | (with_reducible first | exact HI0.out | apply IsS206.alloc | apply IsS206.drewN | apply IsS206.drew | apply IsS206.set_1 | apply IsS206.set_2) | exact HI0.out), by repeat (first | (with_reducible first | exact HB.out | apply below_alloc | apply pw_below_drewN | apply below_drew1 | refine below_set ?_ (IsS206.ge HI0.out)) | exact HB.out), by repeat (first | (with_reducible first | exact HK.out | apply KeepBut.set_ | apply keep_drewN | apply keep_drew | apply keep_alloc) | exact HK.out)⟩
end Go.Proofs.Ytpjibhedpieafaa.H
namespace Go.Proofs.Ytpjibhedpieafaa.H
open Go.RowKit Go.Proofs.YtpjibhedpieafaaW.PrintWords Go.Proofs.YtpjibhedpieafaaW.PrintLast Go.Proofs.YtpjibhedpieafaaW.PrintMore
attribute [local go_sem] max2_int min2_int max_two min_two max_three min_three max_four min_four   -- for this text's walks alone
set_option linter.unusedVariables false
set_option linter.unusedSimpArgs false
set_option maxHeartbeats 8000000 in
set_option maxRecDepth 100000 in
theorem spec_l00Src_pick.calls (g : Nat) (s0_0 : List Int) (s0_1 : Int) (s0_2 : Int) (a1 : Int) (r1 : Int) (r2 : Int) (r3 : Int) (w0 w : World) (hI : IsS206 w0 w g s0_0 s0_1 s0_2) (hB : Below w0.heap.size w0 w) (h : spec_l00Src_pick.f s0_0 s0_1 s0_2 a1 = some (r1, r2, r3)) :
    Calls Try.prog 131 #[.pointer (some ⟨g, 0, none⟩), .int .i64 a1] w fun e w' => e = .returned (.int .i64 r1) ∧ IsS206 w0 w' g s0_0 r2 r3 ∧ Below w0.heap.size w0 w' ∧ KeepBut w w' g none := by
  have HI0 := Aside0.mk hI
  have HK := Aside0.mk (KeepBut.refl w g none)
  have HL := Aside0.mk hB.size
  clear hI
  have HW0 := Aside0.mk hB.size
  have HB := Aside0.mk hB
  clear hB
  have H : (if a1 ≤ 1 then (some (0, s0_1, s0_2)) else ((spec_l00Src_next.f s0_0 s0_1 s0_2).bind fun bt101 => (if a1 > 200 then ((spec_l00Src_next.f s0_0 bt101.2.1 bt101.2.2).bind fun bt104 => (if a1 = 0 then (none) else (some (Int.tmod (wrap64 ((wrap64 (bt101.1 * 256)) + bt104.1)) a1, bt104.2.1, bt104.2.2)))) else (if a1 = 0 then (none) else (some (Int.tmod bt101.1 a1, bt101.2.1, bt101.2.2)))))) = some (r1, r2, r3) := h
  clear h
  by_cases c3 : a1 ≤ 1
  · rw [if_pos c3] at H
    have c3b0 : decide (a1 ≤ 1) = true := decide_eq_true c3
    clear c3
    simp only [Option.some.injEq, Prod.mk.injEq] at H
    obtain ⟨rfl, rfl, rfl⟩ := H
    go_enter Try.func131, Try.ntmps131
    go_wp2
    go_ret
    exact ⟨by first | rfl | (simp [errW_none, errW_some] <;> rfl) | (simp [*, errW_none, errW_some] <;> rfl), by repeat (first | (with_reducible first | exact HI0.out | apply IsS206.alloc | apply IsS206.drewN | apply IsS206.drew | apply IsS206.set_1 | apply IsS206.set_2) | exact HI0.out), by repeat (first | (with_reducible first | exact HB.out | apply below_alloc | apply pw_below_drewN | apply below_drew1 | refine below_set ?_ (IsS206.ge HI0.out)) | exact HB.out), by repeat (first | (with_reducible first | exact HK.out | apply KeepBut.set_ | apply keep_drewN | apply keep_drew | apply keep_alloc) | exact HK.out)⟩
  · rw [if_neg c3] at H
    have c3b0 : decide (a1 ≤ 1) = false := decide_eq_false c3
    clear c3
    replace H := Option.bind_eq_some_iff.mp H
    obtain ⟨⟨t101, t102, t103⟩, A40, H⟩ := H
    replace H : (if a1 > 200 then ((spec_l00Src_next.f s0_0 t102 t103).bind fun bt104 => (if a1 = 0 then (none) else (some (Int.tmod (wrap64 ((wrap64 (t101 * 256)) + bt104.1)) a1, bt104.2.1, bt104.2.2)))) else (if a1 = 0 then (none) else (some (Int.tmod t101 a1, t102, t103)))) = some (r1, r2, r3) := H
    have A4 := Aside0.mk A40
    clear A40
    by_cases c5 : a1 > 200
    · rw [if_pos c5] at H
      have c5b0 : decide (200 < a1) = true := decide_eq_true c5
      clear c5
      replace H := Option.bind_eq_some_iff.mp H
      obtain ⟨⟨t104, t105, t106⟩, A60, H⟩ := H
      replace H : (if a1 = 0 then (none) else (some (Int.tmod (wrap64 ((wrap64 (t101 * 256)) + t104)) a1, t105, t106))) = some (r1, r2, r3) := H
      have A6 := Aside0.mk A60
      clear A60
      by_cases c7 : a1 = 0
      · rw [if_pos c7] at H
        exact absurd H (by simp)
      · rw [if_neg c7] at H
        have c7b0 : (a1 == 0) = false := beq_eq_false_iff_ne.mpr c7
        have c7b1 : (a1 != 0) = true := bne_iff_ne.mpr c7
        simp only [Option.some.injEq, Prod.mk.injEq] at H
        obtain ⟨rfl, rfl, rfl⟩ := H
        go_enter Try.func131, Try.ntmps131
        go_wp2_with (first | ((with_reducible refine gate_callee (f := 220) rfl ?_); refine goesL_ (some 9) rfl rfl Try.func220 (by kernel_rfl) rfl #[.pointer (some ⟨g, 0, none⟩)] rfl (by (try simp only [List.map_toArray, List.map_cons, List.map_nil]); first | done | rfl | (simp only [List.length_drop, List.length_take]; rfl)) ?_; (with_reducible refine (spec_l00Src_next.calls g s0_0 s0_1 s0_2 t101 t102 t103 w0 _ ?side1 ?side2 A4.out).mono ?_); (case side1 => repeat (first | (with_reducible first | exact HI0.out | apply IsS206.alloc | apply IsS206.drewN | apply IsS206.drew | apply IsS206.set_1 | apply IsS206.set_2) | exact HI0.out)); (case side2 => repeat (first | (with_reducible first | exact HB.out | apply below_alloc | apply pw_below_drewN | apply below_drew1 | refine below_set ?_ (IsS206.ge HI0.out)) | exact HB.out)); rintro e w8 ⟨rfl, hi, hb, hk⟩; refine ⟨_, rfl, ?_⟩; have n0_ := Aside0.mk (KeepBut.trans (by repeat (first | (with_reducible first | exact HK.out | apply KeepBut.set_ | apply keep_drewN | apply keep_drew | apply keep_alloc) | exact HK.out)) hk (.inl rfl)); have n1_ := Aside0.mk (hb); have n2_ := Aside0.mk (hi); clear HK; clear HB; clear HI0; have HK := n0_; have HB := n1_; have HI0 := n2_; clear n0_ n1_ n2_; (try clear hb); (try clear hb2); (try clear hk); (try clear hi)) | ((with_reducible refine gate_callee (f := 220) rfl ?_); refine goesL_ (some 15) rfl rfl Try.func220 (by kernel_rfl) rfl #[.pointer (some ⟨g, 0, none⟩)] rfl (by (try simp only [List.map_toArray, List.map_cons, List.map_nil]); first | done | rfl | (simp only [List.length_drop, List.length_take]; rfl)) ?_; (with_reducible refine (spec_l00Src_next.calls g s0_0 t102 t103 t104 t105 t106 w0 _ ?side1 ?side2 A6.out).mono ?_); (case side1 => repeat (first | (with_reducible first | exact HI0.out | apply IsS206.alloc | apply IsS206.drewN | apply IsS206.drew | apply IsS206.set_1 | apply IsS206.set_2) | exact HI0.out)); (case side2 => repeat (first | (with_reducible first | exact HB.out | apply below_alloc | apply pw_below_drewN | apply below_drew1 | refine below_set ?_ (IsS206.ge HI0.out)) | exact HB.out)); rintro e w9 ⟨rfl, hi, hb, hk⟩; refine ⟨_, rfl, ?_⟩; have n0_ := Aside0.mk (KeepBut.trans (by repeat (first | (with_reducible first | exact HK.out | apply KeepBut.set_ | apply keep_drewN | apply keep_drew | apply keep_alloc) | exact HK.out)) hk (.inl rfl)); have n1_ := Aside0.mk (hb); have n2_ := Aside0.mk (hi); clear HK; clear HB; clear HI0; have HK := n0_; have HB := n1_; have HI0 := n2_; clear n0_ n1_ n2_; (try clear hb); (try clear hb2); (try clear hk); (try clear hi)))
        go_ret
        exact ⟨by first | rfl | (simp [errW_none, errW_some] <;> rfl) | (simp [*, errW_none, errW_some] <;> rfl), by repeat (first | (with_reducible first | exact HI0.out | apply IsS206.alloc | apply IsS206.drewN | apply IsS206.drew | apply IsS206.set_1 | apply IsS206.set_2) | exact HI0.out), by repeat (first | (with_reducible first | exact HB.out | apply below_alloc | apply pw_below_drewN | apply below_drew1 | refine below_set ?_ (IsS206.ge HI0.out)) | exact HB.out), by repeat (first | (with_reducible first | exact HK.out | apply KeepBut.set_ | apply keep_drewN | apply keep_drew | apply keep_alloc) | exact HK.out)⟩
    · rw [if_neg c5] at H
      have c5b0 : decide (200 < a1) = false := decide_eq_false c5
      clear c5
      by_cases c10 : a1 = 0
      · rw [if_pos c10] at H
        exact absurd H (by simp)
      · rw [if_neg c10] at H
        have c10b0 : (a1 == 0) = false := beq_eq_false_iff_ne.mpr c10
        have c10b1 : (a1 != 0) = true := bne_iff_ne.mpr c10
        simp only [Option.some.injEq, Prod.mk.injEq] at H
        obtain ⟨rfl, rfl, rfl⟩ := H
        go_enter Try.func131, Try.ntmps131
        go_wp2_with (first | ((with_reducible refine gate_callee (f := 220) rfl ?_); refine goesL_ (some 9) rfl rfl Try.func220 (by kernel_rfl) rfl #[.pointer (some ⟨g, 0, none⟩)] rfl (by (try simp only [List.map_toArray, List.map_cons, List.map_nil]); first | done | rfl | (simp only [List.length_drop, List.length_take]; rfl)) ?_; (with_reducible refine (spec_l00Src_next.calls g s0_0 s0_1 s0_2 t101 t102 t103 w0 _ ?side1 ?side2 A4.out).mono ?_); (case side1 => repeat (first | (with_reducible first | exact HI0.out | apply IsS206.alloc | apply IsS206.drewN | apply IsS206.drew | apply IsS206.set_1 | apply IsS206.set_2) | exact HI0.out)); (case side2 => repeat (first | (with_reducible first | exact HB.out | apply below_alloc | apply pw_below_drewN | apply below_drew1 | refine below_set ?_ (IsS206.ge HI0.out)) | exact HB.out)); rintro e w11 ⟨rfl, hi, hb, hk⟩; refine ⟨_, rfl, ?_⟩; have n0_ := Aside0.mk (KeepBut.trans (by repeat (first | (with_reducible first | exact HK.out | apply KeepBut.set_ | apply keep_drewN | apply keep_drew | apply keep_alloc) | exact HK.out)) hk (.inl rfl)); have n1_ := Aside0.mk (hb); have n2_ := Aside0.mk (hi); clear HK; clear HB; clear HI0; have HK := n0_; have HB := n1_; have HI0 := n2_; clear n0_ n1_ n2_; (try clear hb); (try clear hb2); (try clear hk); (try clear hi)))
        go_ret
        exact ⟨by first | rfl | (simp [errW_none, errW_some] <;> rfl) | (simp [*, errW_none, errW_some] <;> rfl), by repeat (first | (with_reducible first | exact HI0.out | apply IsS206.alloc | apply IsS206.drewN | apply IsS206.drew | apply IsS206.set_1 | apply IsS206.set_2) | exact HI0.out), by repeat (first | (with_reducible first | exact HB.out | apply below_alloc | apply pw_below_drewN | apply below_drew1 | refine below_set ?_ (IsS206.ge HI0.out)) | exact HB.out), by repeat (first | (with_reducible first | exact HK.out | apply KeepBut.set_ | apply keep_drewN | apply keep_drew | apply keep_alloc) | exact HK.out)⟩
end Go.Proofs.Ytpjibhedpieafaa.H
namespace Go.Proofs.Ytpjibhedpieafaa.H
open Go.RowKit Go.Proofs.YtpjibhedpieafaaW.PrintWords Go.Proofs.YtpjibhedpieafaaW.PrintLast Go.Proofs.YtpjibhedpieafaaW.PrintMore
attribute [local go_sem] max2_int min2_int max_two min_two max_three min_three max_four min_four   -- for this text's walks alone
set_option linter.unusedVariables false
set_option linter.unusedSimpArgs false
set_option maxHeartbeats 8000000 in
set_option maxRecDepth 100000 in
theorem spec_l00Src_among.calls (g : Nat) (s0_0 : List Int) (s0_1 : Int) (s0_2 : Int) (A1 : Option Addr) (c1 : Nat) (l1 : List Int) (r1 : Int) (r2 : Int) (r3 : Int) (w0 w : World) (hI : IsS206 w0 w g s0_0 s0_1 s0_2) (hB : Below w0.heap.size w0 w) (hr1 : Kd.C (Kd.int .i64) w A1 l1.length l1) (hc1 : l1.length ≤ c1) (hf1 : ∀ ad, A1 = some ad → 0 < l1.length → ad.block ≠ g) (h : spec_l00Src_among.f s0_0 s0_1 s0_2 l1 = some (r1, r2, r3)) :
    Calls Try.prog 214 #[.pointer (some ⟨g, 0, none⟩), .slice A1 l1.length c1] w fun e w' => e = .returned (.int .i64 r1) ∧ IsS206 w0 w' g s0_0 r2 r3 ∧ Below w0.heap.size w0 w' ∧ KeepBut w w' g none := by
  have HR1 := Aside0.mk hr1
  have HC1 := Aside0.mk hc1
  clear hr1 hc1
  have HI0 := Aside0.mk hI
  have HK := Aside0.mk (KeepBut.refl w g none)
  have HL := Aside0.mk hB.size
  clear hI
  have HW0 := Aside0.mk hB.size
  have HB := Aside0.mk hB
  clear hB
  have H : ((spec_l00Src_pick.f s0_0 s0_1 s0_2 (l1.length : Int)).bind fun bt101 => (if 0 ≤ bt101.1 then (if bt101.1 < (l1.length : Int) then (some (rd l1 bt101.1, bt101.2.1, bt101.2.2)) else (none)) else (none))) = some (r1, r2, r3) := h
  clear h
  replace H := Option.bind_eq_some_iff.mp H
  obtain ⟨⟨t101, t102, t103⟩, A30, H⟩ := H
  replace H : (if 0 ≤ t101 then (if t101 < (l1.length : Int) then (some (rd l1 t101, t102, t103)) else (none)) else (none)) = some (r1, r2, r3) := H
  have A3 := Aside0.mk A30
  clear A30
  by_cases c4 : 0 ≤ t101
  · rw [if_pos c4] at H
    have c4b0 : decide (0 ≤ t101) = true := decide_eq_true c4
    clear c4
    by_cases c5 : t101 < (l1.length : Int)
    · rw [if_pos c5] at H
      have c5b0 : decide (t101 < (l1.length : Int)) = true := decide_eq_true c5
      clear c5
      simp only [Option.some.injEq, Prod.mk.injEq] at H
      obtain ⟨rfl, rfl, rfl⟩ := H
      go_enter Try.func214, Try.ntmps214
      go_wp2_with (first | ((with_reducible refine gate_callee (f := 131) rfl ?_); refine goesL_ (some 9) rfl rfl Try.func131 (by kernel_rfl) rfl #[.pointer (some ⟨g, 0, none⟩), .int .i64 (l1.length : Int)] rfl (by (try simp only [List.map_toArray, List.map_cons, List.map_nil]); first | done | rfl | (simp only [List.length_drop, List.length_take]; rfl)) ?_; (with_reducible refine (spec_l00Src_pick.calls g s0_0 s0_1 s0_2 (l1.length : Int) t101 t102 t103 w0 _ ?side1 ?side2 A3.out).mono ?_); (case side1 => repeat (first | (with_reducible first | exact HI0.out | apply IsS206.alloc | apply IsS206.drewN | apply IsS206.drew | apply IsS206.set_1 | apply IsS206.set_2) | exact HI0.out)); (case side2 => repeat (first | (with_reducible first | exact HB.out | apply below_alloc | apply pw_below_drewN | apply below_drew1 | refine below_set ?_ (IsS206.ge HI0.out)) | exact HB.out)); rintro e w6 ⟨rfl, hi, hb, hk⟩; refine ⟨_, rfl, ?_⟩; have n0_ := Aside0.mk (KeepBut.trans (by repeat (first | (with_reducible first | exact HK.out | apply KeepBut.set_ | apply keep_drewN | apply keep_drew | apply keep_alloc) | exact HK.out)) hk (.inl rfl)); have n1_ := Aside0.mk (hb); have n2_ := Aside0.mk (hi); clear HK; clear HB; clear HI0; have HK := n0_; have HB := n1_; have HI0 := n2_; clear n0_ n1_ n2_; (try clear hb); (try clear hb2); (try clear hk); (try clear hi); have p104 : 0 ≤ (t101 : Int) := of_decide_eq_true (by first | (with_reducible assumption) | assumption); have q104 : t101 < (l1.length : Int) := of_decide_eq_true (by first | (with_reducible assumption) | assumption); obtain ⟨ad104, e104, hx104_0⟩ := Kd.at_int HR1.out t101 p104 q104; cases e104; replace hx104_0 := keep_cell HK.out hx104_0 (by first | (rw [add_block]; exact hf1 _ rfl (by omega)) | exact hf1 _ rfl (by omega) | exact hf1 ad104 rfl (by omega)); replace p104 := eq_true p104; replace q104 := eq_true q104))
      go_ret
      exact ⟨by first | rfl | (simp [errW_none, errW_some] <;> rfl) | (simp [*, errW_none, errW_some] <;> rfl), by repeat (first | (with_reducible first | exact HI0.out | apply IsS206.alloc | apply IsS206.drewN | apply IsS206.drew | apply IsS206.set_1 | apply IsS206.set_2) | exact HI0.out), by repeat (first | (with_reducible first | exact HB.out | apply below_alloc | apply pw_below_drewN | apply below_drew1 | refine below_set ?_ (IsS206.ge HI0.out)) | exact HB.out), by repeat (first | (with_reducible first | exact HK.out | apply KeepBut.set_ | apply keep_drewN | apply keep_drew | apply keep_alloc) | exact HK.out)⟩
    · rw [if_neg c5] at H
      exact absurd H (by simp)
  · rw [if_neg c4] at H
    exact absurd H (by simp)
end Go.Proofs.Ytpjibhedpieafaa.H
namespace Go.Proofs.Ytpjibhedpieafaa.H
open Go.RowKit Go.Proofs.YtpjibhedpieafaaW.PrintWords Go.Proofs.YtpjibhedpieafaaW.PrintLast Go.Proofs.YtpjibhedpieafaaW.PrintMore
attribute [local go_sem] max2_int min2_int max_two min_two max_three min_three max_four min_four   -- for this text's walks alone
set_option linter.unusedVariables false
set_option linter.unusedSimpArgs false
set_option maxHeartbeats 8000000 in
set_option maxRecDepth 100000 in
theorem spec_l00Src_one.calls (g : Nat) (s0_0 : List Int) (s0_1 : Int) (s0_2 : Int) (a1 : Int) (r1 : Bool) (r2 : Int) (r3 : Int) (w0 w : World) (hI : IsS206 w0 w g s0_0 s0_1 s0_2) (hB : Below w0.heap.size w0 w) (h : spec_l00Src_one.f s0_0 s0_1 s0_2 a1 = some (r1, r2, r3)) :
    Calls Try.prog 202 #[.pointer (some ⟨g, 0, none⟩), .int .i64 a1] w fun e w' => e = .returned (.bool r1) ∧ IsS206 w0 w' g s0_0 r2 r3 ∧ Below w0.heap.size w0 w' ∧ KeepBut w w' g none := by
  have HI0 := Aside0.mk hI
  have HK := Aside0.mk (KeepBut.refl w g none)
  have HL := Aside0.mk hB.size
  clear hI
  have HW0 := Aside0.mk hB.size
  have HB := Aside0.mk hB
  clear hB
  have H : ((spec_l00Src_pick.f s0_0 s0_1 s0_2 a1).bind fun bt101 => (some ((bt101.1 == 0), bt101.2.1, bt101.2.2))) = some (r1, r2, r3) := h
  clear h
  replace H := Option.bind_eq_some_iff.mp H
  obtain ⟨⟨t101, t102, t103⟩, A30, H⟩ := H
  replace H : (some ((t101 == 0), t102, t103)) = some (r1, r2, r3) := H
  have A3 := Aside0.mk A30
  clear A30
  simp only [Option.some.injEq, Prod.mk.injEq] at H
  obtain ⟨rfl, rfl, rfl⟩ := H
  go_enter Try.func202, Try.ntmps202
  go_wp2_with (first | ((with_reducible refine gate_callee (f := 131) rfl ?_); refine goesL_ (some 7) rfl rfl Try.func131 (by kernel_rfl) rfl #[.pointer (some ⟨g, 0, none⟩), .int .i64 a1] rfl (by (try simp only [List.map_toArray, List.map_cons, List.map_nil]); first | done | rfl | (simp only [List.length_drop, List.length_take]; rfl)) ?_; (with_reducible refine (spec_l00Src_pick.calls g s0_0 s0_1 s0_2 a1 t101 t102 t103 w0 _ ?side1 ?side2 A3.out).mono ?_); (case side1 => repeat (first | (with_reducible first | exact HI0.out | apply IsS206.alloc | apply IsS206.drewN | apply IsS206.drew | apply IsS206.set_1 | apply IsS206.set_2) | exact HI0.out)); (case side2 => repeat (first | (with_reducible first | exact HB.out | apply below_alloc | apply pw_below_drewN | apply below_drew1 | refine below_set ?_ (IsS206.ge HI0.out)) | exact HB.out)); rintro e w4 ⟨rfl, hi, hb, hk⟩; refine ⟨_, rfl, ?_⟩; have n0_ := Aside0.mk (KeepBut.trans (by repeat (first | (with_reducible first | exact HK.out | apply KeepBut.set_ | apply keep_drewN | apply keep_drew | apply keep_alloc) | exact HK.out)) hk (.inl rfl)); have n1_ := Aside0.mk (hb); have n2_ := Aside0.mk (hi); clear HK; clear HB; clear HI0; have HK := n0_; have HB := n1_; have HI0 := n2_; clear n0_ n1_ n2_; (try clear hb); (try clear hb2); (try clear hk); (try clear hi)))
  go_ret
  exact ⟨by first | rfl | (simp [errW_none, errW_some] <;> rfl) | (simp [*, errW_none, errW_some] <;> rfl), by repeat (first | (with_reducible first | exact HI0.out | apply IsS206.alloc | apply IsS206.drewN | apply IsS206.drew | apply IsS206.set_1 | apply IsS206.set_2) | exact HI0.out), by repeat (first | (with_reducible first | exact HB.out | apply below_alloc | apply pw_below_drewN | apply below_drew1 | refine below_set ?_ (IsS206.ge HI0.out)) | exact HB.out), by repeat (first | (with_reducible first | exact HK.out | apply KeepBut.set_ | apply keep_drewN | apply keep_drew | apply keep_alloc) | exact HK.out)⟩
end Go.Proofs.Ytpjibhedpieafaa.H
namespace Go.Proofs.Ytpjibhedpieafaa.H
open Go.RowKit Go.Proofs.YtpjibhedpieafaaW.PrintWords Go.Proofs.YtpjibhedpieafaaW.PrintLast Go.Proofs.YtpjibhedpieafaaW.PrintMore
attribute [local go_sem] max2_int min2_int max_two min_two max_three min_three max_four min_four   -- for this text's walks alone
set_option linter.unusedVariables false
set_option linter.unusedSimpArgs false
set_option maxHeartbeats 8000000 in
set_option maxRecDepth 100000 in
theorem spec_l01Drawn.calls (k : Nat) (g : Nat) (s0_0 : List Int) (s0_1 : Int) (s0_2 : Int) (r1 : List Int) (r2 : Int) (r3 : Int) (w0 w : World) (hI : IsS206 w0 w g s0_0 s0_1 s0_2) (hB : Below w0.heap.size w0 w) (h : spec_l01Drawn.f k s0_0 s0_1 s0_2 = some (r1, r2, r3)) :
    Calls Try.prog 116 #[.pointer (some ⟨g, 0, none⟩)] w fun e w' => ∃ v0_ : Value, e = .returned (v0_) ∧ Kd.R (Kd.int .i16) 51 w' w.heap.size (fun _ => True) v0_ r1 ∧ IsS206 w0 w' g s0_0 r2 r3 ∧ Below w0.heap.size w0 w' ∧ KeepBut w w' g none := by
  have HI0 := Aside0.mk hI
  have HK := Aside0.mk (KeepBut.refl w g none)
  have HL := Aside0.mk hB.size
  clear hI
  have HW0 := Aside0.mk hB.size
  have HB := Aside0.mk hB
  clear hB
  have H : ((spec_l00Src_among.f s0_0 s0_1 s0_2 (([8, 9, 12, 16, 24, 36] : List Int))).bind fun bt104 => ((spec_l00Src_pick.f s0_0 bt104.2.1 bt104.2.2 20).bind fun bt110 => (spec_l01Drawn.l0 k bt104.1 (([] : List Int)) bt110.1 s0_0 bt110.2.1 bt110.2.2))) = some (r1, r2, r3) := h
  clear h
  obtain ⟨y101, hy101⟩ : ∃ y_ : List Int, y_ = (([8, 9, 12, 16, 24, 36] : List Int)) := ⟨_, rfl⟩
  replace H : ((spec_l00Src_among.f s0_0 s0_1 s0_2 y101).bind fun bt104 => ((spec_l00Src_pick.f s0_0 bt104.2.1 bt104.2.2 20).bind fun bt110 => (spec_l01Drawn.l0 k bt104.1 (([] : List Int)) bt110.1 s0_0 bt110.2.1 bt110.2.2))) = some (r1, r2, r3) := by first | (rw [hy101]; with_reducible exact H) | (have H2_ := (Option.bind_some _ _).symm.trans H; rw [hy101]; with_reducible exact H2_) | (have H2_ := (Option.bind_some _ _).symm.trans H; with_reducible exact H2_) | with_reducible exact H | (rw [hy101]; exact H) | exact H
  have Ny101 := Aside0.mk hy101
  clear hy101
  replace H := Option.bind_eq_some_iff.mp H
  obtain ⟨⟨t104, t105, t106⟩, A20, H⟩ := H
  replace H : ((spec_l00Src_pick.f s0_0 t105 t106 20).bind fun bt110 => (spec_l01Drawn.l0 k t104 (([] : List Int)) bt110.1 s0_0 bt110.2.1 bt110.2.2)) = some (r1, r2, r3) := H
  have A2 := Aside0.mk A20
  clear A20
  obtain ⟨y107, hy107⟩ : ∃ y_ : List Int, y_ = (([] : List Int)) := ⟨_, rfl⟩
  replace H : ((spec_l00Src_pick.f s0_0 t105 t106 20).bind fun bt110 => (spec_l01Drawn.l0 k t104 y107 bt110.1 s0_0 bt110.2.1 bt110.2.2)) = some (r1, r2, r3) := by first | (rw [hy107]; with_reducible exact H) | (have H2_ := (Option.bind_some _ _).symm.trans H; rw [hy107]; with_reducible exact H2_) | (have H2_ := (Option.bind_some _ _).symm.trans H; with_reducible exact H2_) | with_reducible exact H | (rw [hy107]; exact H) | exact H
  have Ny107 := Aside0.mk hy107
  clear hy107
  replace H := Option.bind_eq_some_iff.mp H
  obtain ⟨⟨t110, t111, t112⟩, A30, H⟩ := H
  replace H : (spec_l01Drawn.l0 k t104 y107 t110 s0_0 t111 t112) = some (r1, r2, r3) := H
  have A3 := Aside0.mk A30
  clear A30
  have H' := Aside0.mk H
  clear H
  go_enter Try.func116, Try.ntmps116
  go_wp2_with (first | ((with_reducible refine gate_dst (N := 10) rfl ?_); (try (refine gate_guard (by rfl) ?_; dsimp only)); refine Kd.R_lit (Kd.int .i64) _ 2 ?hg (N := 10) ?hd (xs := ([8, 9, 12, 16, 24, 36] : List Int)) (inner := [.int .i64 8, .int .i64 9, .int .i64 12, .int .i64 16, .int .i64 24, .int .i64 36]) (ok := fun _ => True) (okp := fun _ => True) ?hr ?hp (fun _ hk => hk) trivial (Below.refl _ _) (Nat.le_refl _) (by simp) ?_; (case hd => rfl); (case hg => rfl); (case hr => first | (go_simp; done) | (go_simp; rfl)); (case hp => exact (Reps.one (show Kd.M (Kd.int .i64) _ _ _ 8 [.int .i64 8] from rfl) (Reps.one (show Kd.M (Kd.int .i64) _ _ _ 9 [.int .i64 9] from rfl) (Reps.one (show Kd.M (Kd.int .i64) _ _ _ 12 [.int .i64 12] from rfl) (Reps.one (show Kd.M (Kd.int .i64) _ _ _ 16 [.int .i64 16] from rfl) (Reps.one (show Kd.M (Kd.int .i64) _ _ _ 24 [.int .i64 24] from rfl) (Reps.one (show Kd.M (Kd.int .i64) _ _ _ 36 [.int .i64 36] from rfl) (Reps.none _ _)))))))); intro v102 w4 ho5 hb hg_ hnew_; clear hg_ hnew_; (first | rw [← Ny101.out] at ho5 | (simp only [Int.reduceToNat] at ho5; rw [← Ny101.out] at ho5)); have n0_ := Aside0.mk (Kd.R_lower ho5 (keep_size (w := w) (g := g) (row := none) (by repeat (first | (with_reducible first | exact HK.out | apply KeepBut.set_ | apply keep_drewN | apply keep_drew | apply keep_alloc) | exact HK.out)))); have n1_ := Aside0.mk (IsS206.below (by repeat (first | (with_reducible first | exact HI0.out | apply IsS206.alloc | apply IsS206.drewN | apply IsS206.drew | apply IsS206.set_1 | apply IsS206.set_2) | exact HI0.out)) hb); have n2_ := Aside0.mk (KeepBut.trans (by repeat (first | (with_reducible first | exact HK.out | apply KeepBut.set_ | apply keep_drewN | apply keep_drew | apply keep_alloc) | exact HK.out)) (KeepBut.of_below hb g none) (.inl rfl)); have n3_ := Aside0.mk (below_step (by repeat (first | (with_reducible first | exact HB.out | apply below_alloc | apply pw_below_drewN | apply below_drew1 | refine below_set ?_ (IsS206.ge HI0.out)) | exact HB.out)) hb); clear HI0; clear HK; clear HB; have HO103 := n0_; have HI0 := n1_; have HK := n2_; have HB := n3_; clear n0_ n1_ n2_ n3_; clear hb ho5; obtain ⟨Ao6, co6, eo6⟩ := Kd.R_slice HO103.out; subst eo6) | ((with_reducible refine gate_callee (f := 214) rfl ?_); refine goesL_ (some 11) rfl rfl Try.func214 (by kernel_rfl) rfl #[.pointer (some ⟨g, 0, none⟩), .slice Ao6 y101.length co6] rfl (by (try simp only [List.map_toArray, List.map_cons, List.map_nil]); first | done | rfl | (simp only [List.length_drop, List.length_take]; rfl)) ?_; (with_reducible refine (spec_l00Src_among.calls g s0_0 s0_1 s0_2 _ _ y101 t104 t105 t106 w0 _ ?side1 ?side2 ?side3 ?side4 ?side5 A2.out).mono ?_); (case side1 => repeat (first | (with_reducible first | exact HI0.out | apply IsS206.alloc | apply IsS206.drewN | apply IsS206.drew | apply IsS206.set_1 | apply IsS206.set_2) | exact HI0.out)); (case side2 => repeat (first | (with_reducible first | exact HB.out | apply below_alloc | apply pw_below_drewN | apply below_drew1 | refine below_set ?_ (IsS206.ge HI0.out)) | exact HB.out)); (case side3 => repeat (first | exact (Kd.R_reads' HO103.out).2.2 | (with_reducible refine Kd.C_alloc ?_ _) | (with_reducible refine Kd.C_drewN ?_ _) | (with_reducible refine Kd.C_drew ?_))); (case side4 => exact (Kd.R_reads' HO103.out).2.1); (case side5 => exact far_slice (IsS206.own_ne HI0.out HO103.out (by decide))); rintro e w7 ⟨rfl, hi, hb, hk⟩; refine ⟨_, rfl, ?_⟩; have n0_ := Aside0.mk (Kd.R_mono (Kd.R_keep (IsS206.apart (show IsS206 w0 _ g s0_0 s0_1 s0_2 from by repeat (first | (with_reducible first | exact HI0.out | apply IsS206.alloc | apply IsS206.drewN | apply IsS206.drew | apply IsS206.set_1 | apply IsS206.set_2) | exact HI0.out)) (by (with_reducible repeat (first | apply Kd.R_alloc | apply Kd.R_drewN | apply Kd.R_drew)); exact HO103.out) (by decide)) hk (fun _ h => h.2)) (fun _ h => h.1)); have n1_ := Aside0.mk (KeepBut.trans (by repeat (first | (with_reducible first | exact HK.out | apply KeepBut.set_ | apply keep_drewN | apply keep_drew | apply keep_alloc) | exact HK.out)) hk (.inl rfl)); have n2_ := Aside0.mk (hb); have n3_ := Aside0.mk (hi); clear HO103; clear HK; clear HB; clear HI0; have HO103 := n0_; have HK := n1_; have HB := n2_; have HI0 := n3_; clear n0_ n1_ n2_ n3_; (try clear hb); (try clear hb2); (try clear hk); (try clear hi)) | ((with_reducible refine gate_dst (N := 12) rfl ?_); (try (refine gate_guard (by rfl) ?_; dsimp only)); refine Kd.R_lit (Kd.int .i16) _ 51 ?hg (N := 12) ?hd (xs := ([] : List Int)) (inner := []) (ok := fun _ => True) (okp := fun _ => True) ?hr ?hp (fun _ hk => hk) trivial (Below.refl _ _) (Nat.le_refl _) (by simp) ?_; (case hd => rfl); (case hg => rfl); (case hr => first | (go_simp; done) | (go_simp; rfl)); (case hp => exact (Reps.none _ _)); intro v108 w8 ho9 hb hg_ hnew_; clear hg_ hnew_; (first | rw [← Ny107.out] at ho9 | (simp only [Int.reduceToNat] at ho9; rw [← Ny107.out] at ho9)); have n0_ := Aside0.mk (Kd.R_below (by (with_reducible repeat (first | apply Kd.R_alloc | apply Kd.R_drewN | apply Kd.R_drew)); exact HO103.out) hb); have n1_ := Aside0.mk (Kd.R_lower ho9 (keep_size (w := w) (g := g) (row := none) (by repeat (first | (with_reducible first | exact HK.out | apply KeepBut.set_ | apply keep_drewN | apply keep_drew | apply keep_alloc) | exact HK.out)))); have n2_ := Aside0.mk (IsS206.below (by repeat (first | (with_reducible first | exact HI0.out | apply IsS206.alloc | apply IsS206.drewN | apply IsS206.drew | apply IsS206.set_1 | apply IsS206.set_2) | exact HI0.out)) hb); have n3_ := Aside0.mk (KeepBut.trans (by repeat (first | (with_reducible first | exact HK.out | apply KeepBut.set_ | apply keep_drewN | apply keep_drew | apply keep_alloc) | exact HK.out)) (KeepBut.of_below hb g none) (.inl rfl)); have n4_ := Aside0.mk (below_step (by repeat (first | (with_reducible first | exact HB.out | apply below_alloc | apply pw_below_drewN | apply below_drew1 | refine below_set ?_ (IsS206.ge HI0.out)) | exact HB.out)) hb); clear HO103; clear HI0; clear HK; clear HB; have HO103 := n0_; have HO109 := n1_; have HI0 := n2_; have HK := n3_; have HB := n4_; clear n0_ n1_ n2_ n3_ n4_; clear hb ho9) | ((with_reducible refine gate_callee (f := 131) rfl ?_); refine goesL_ (some 14) rfl rfl Try.func131 (by kernel_rfl) rfl #[.pointer (some ⟨g, 0, none⟩), .int .i64 20] rfl (by (try simp only [List.map_toArray, List.map_cons, List.map_nil]); first | done | rfl | (simp only [List.length_drop, List.length_take]; rfl)) ?_; (with_reducible refine (spec_l00Src_pick.calls g s0_0 t105 t106 20 t110 t111 t112 w0 _ ?side1 ?side2 A3.out).mono ?_); (case side1 => repeat (first | (with_reducible first | exact HI0.out | apply IsS206.alloc | apply IsS206.drewN | apply IsS206.drew | apply IsS206.set_1 | apply IsS206.set_2) | exact HI0.out)); (case side2 => repeat (first | (with_reducible first | exact HB.out | apply below_alloc | apply pw_below_drewN | apply below_drew1 | refine below_set ?_ (IsS206.ge HI0.out)) | exact HB.out)); rintro e w10 ⟨rfl, hi, hb, hk⟩; refine ⟨_, rfl, ?_⟩; have n0_ := Aside0.mk (Kd.R_mono (Kd.R_keep (IsS206.apart (show IsS206 w0 _ g s0_0 t105 t106 from by repeat (first | (with_reducible first | exact HI0.out | apply IsS206.alloc | apply IsS206.drewN | apply IsS206.drew | apply IsS206.set_1 | apply IsS206.set_2) | exact HI0.out)) (by (with_reducible repeat (first | apply Kd.R_alloc | apply Kd.R_drewN | apply Kd.R_drew)); exact HO103.out) (by decide)) hk (fun _ h => h.2)) (fun _ h => h.1)); have n1_ := Aside0.mk (Kd.R_mono (Kd.R_keep (IsS206.apart (show IsS206 w0 _ g s0_0 t105 t106 from by repeat (first | (with_reducible first | exact HI0.out | apply IsS206.alloc | apply IsS206.drewN | apply IsS206.drew | apply IsS206.set_1 | apply IsS206.set_2) | exact HI0.out)) (by (with_reducible repeat (first | apply Kd.R_alloc | apply Kd.R_drewN | apply Kd.R_drew)); exact HO109.out) (by decide)) hk (fun _ h => h.2)) (fun _ h => h.1)); have n2_ := Aside0.mk (KeepBut.trans (by repeat (first | (with_reducible first | exact HK.out | apply KeepBut.set_ | apply keep_drewN | apply keep_drew | apply keep_alloc) | exact HK.out)) hk (.inl rfl)); have n3_ := Aside0.mk (hb); have n4_ := Aside0.mk (hi); clear HO103; clear HO109; clear HK; clear HB; clear HI0; have HO103 := n0_; have HO109 := n1_; have HK := n2_; have HB := n3_; have HI0 := n4_; clear n0_ n1_ n2_ n3_ n4_; (try clear hb); (try clear hb2); (try clear hk); (try clear hi)))
  go_loopg [4, 5] k (fun kq v4 v5 w' => ∃ (x4_1 : List Int) (x5_1 : Int) (x1001_1 : Int) (x1002_1 : Int), v5 = .int .i64 x5_1 ∧ Aside0 (spec_l01Drawn.l0 kq t104 x4_1 x5_1 s0_0 x1001_1 x1002_1 = some (r1, r2, r3)) ∧ Aside0 (kq ≤ k) ∧ Aside0 (Kd.R (Kd.int .i16) 51 w' w.heap.size (fun _ => True) v4 x4_1) ∧ Aside0 (IsS206 w0 w' g s0_0 x1001_1 x1002_1) ∧ Aside0 (KeepBut w w' g none) ∧ Aside0 (Below w0.heap.size w0 w'))
  case atStart => exact ⟨(y107), (t110), (t111), (t112), (by first | rfl | (simp; done) | (simp [*]; done)), H', ⟨Nat.le_refl _⟩, ⟨by (with_reducible repeat (first | apply Kd.R_alloc | apply Kd.R_drewN | apply Kd.R_drew)); exact HO109.out⟩, ⟨by repeat (first | (with_reducible first | exact HI0.out | apply IsS206.alloc | apply IsS206.drewN | apply IsS206.drew | apply IsS206.set_1 | apply IsS206.set_2) | exact HI0.out)⟩, ⟨by repeat (first | (with_reducible first | exact HK.out | apply KeepBut.set_ | apply keep_drewN | apply keep_drew | apply keep_alloc) | exact HK.out)⟩, ⟨by repeat (first | (with_reducible first | exact HB.out | apply below_alloc | apply pw_below_drewN | apply below_drew1 | refine below_set ?_ (IsS206.ge HI0.out)) | exact HB.out)⟩⟩
  case round =>
    clear H'
    try clear c1
    try clear c2
    try clear p2
    obtain ⟨x4_1, x5_1, x1001_1, x1002_1, rfl, HA, HK1, HO_4, HI0, HK, HB⟩ := hrel
    cases gk with
    | zero => exact absurd HA.out (by simp [spec_l01Drawn.l0])
    | succ k1 =>
      have H := HA.out
      clear HA
      simp only [spec_l01Drawn.l0] at H
      by_cases c11 : (x4_1.length : Int) < t104
      · rw [if_pos c11] at H
        have c11b0 : decide ((x4_1.length : Int) < t104) = true := decide_eq_true c11
        clear c11
        replace H := Option.bind_eq_some_iff.mp H
        obtain ⟨⟨t113, t114, t115⟩, A120, H⟩ := H
        replace H : ((spec_l00Src_pick.f s0_0 t114 t115 5).bind fun bt116 => (spec_l01Drawn.l1 k1 t104 x4_1 x5_1 (wrap64 (t113 - 3)) (wrap64 (1 + bt116.1)) s0_0 bt116.2.1 bt116.2.2)) = some (r1, r2, r3) := H
        have A12 := Aside0.mk A120
        clear A120
        replace H := Option.bind_eq_some_iff.mp H
        obtain ⟨⟨t116, t117, t118⟩, A130, H⟩ := H
        replace H : (spec_l01Drawn.l1 k1 t104 x4_1 x5_1 (wrap64 (t113 - 3)) (wrap64 (1 + t116)) s0_0 t117 t118) = some (r1, r2, r3) := H
        have A13 := Aside0.mk A130
        clear A130
        have H' := Aside0.mk H
        clear H
        obtain ⟨Ao14, co14, eo14⟩ := Kd.R_slice HO_4.out
        subst eo14
        go_wp2_with (first | ((with_reducible refine gate_callee (f := 131) rfl ?_); refine goesL_ (some 20) rfl rfl Try.func131 (by kernel_rfl) rfl #[.pointer (some ⟨g, 0, none⟩), .int .i64 7] rfl (by (try simp only [List.map_toArray, List.map_cons, List.map_nil]); first | done | rfl | (simp only [List.length_drop, List.length_take]; rfl)) ?_; (with_reducible refine (spec_l00Src_pick.calls g s0_0 x1001_1 x1002_1 7 t113 t114 t115 w0 _ ?side1 ?side2 A12.out).mono ?_); (case side1 => repeat (first | (with_reducible first | exact HI0.out | apply IsS206.alloc | apply IsS206.drewN | apply IsS206.drew | apply IsS206.set_1 | apply IsS206.set_2) | exact HI0.out)); (case side2 => repeat (first | (with_reducible first | exact HB.out | apply below_alloc | apply pw_below_drewN | apply below_drew1 | refine below_set ?_ (IsS206.ge HI0.out)) | exact HB.out)); rintro e w15 ⟨rfl, hi, hb, hk⟩; refine ⟨_, rfl, ?_⟩; have n0_ := Aside0.mk (Kd.R_mono (Kd.R_keep (IsS206.apart (show IsS206 w0 _ g s0_0 x1001_1 x1002_1 from by repeat (first | (with_reducible first | exact HI0.out | apply IsS206.alloc | apply IsS206.drewN | apply IsS206.drew | apply IsS206.set_1 | apply IsS206.set_2) | exact HI0.out)) (by (with_reducible repeat (first | apply Kd.R_alloc | apply Kd.R_drewN | apply Kd.R_drew)); exact HO_4.out) (by decide)) hk (fun _ h => h.2)) (fun _ h => h.1)); have n1_ := Aside0.mk (KeepBut.trans (by repeat (first | (with_reducible first | exact HK.out | apply KeepBut.set_ | apply keep_drewN | apply keep_drew | apply keep_alloc) | exact HK.out)) hk (.inl rfl)); have n2_ := Aside0.mk (hb); have n3_ := Aside0.mk (hi); clear HO_4; clear HK; clear HB; clear HI0; have HO_4 := n0_; have HK := n1_; have HB := n2_; have HI0 := n3_; clear n0_ n1_ n2_ n3_; (try clear hb); (try clear hb2); (try clear hk); (try clear hi)) | ((with_reducible refine gate_callee (f := 131) rfl ?_); refine goesL_ (some 23) rfl rfl Try.func131 (by kernel_rfl) rfl #[.pointer (some ⟨g, 0, none⟩), .int .i64 5] rfl (by (try simp only [List.map_toArray, List.map_cons, List.map_nil]); first | done | rfl | (simp only [List.length_drop, List.length_take]; rfl)) ?_; (with_reducible refine (spec_l00Src_pick.calls g s0_0 t114 t115 5 t116 t117 t118 w0 _ ?side1 ?side2 A13.out).mono ?_); (case side1 => repeat (first | (with_reducible first | exact HI0.out | apply IsS206.alloc | apply IsS206.drewN | apply IsS206.drew | apply IsS206.set_1 | apply IsS206.set_2) | exact HI0.out)); (case side2 => repeat (first | (with_reducible first | exact HB.out | apply below_alloc | apply pw_below_drewN | apply below_drew1 | refine below_set ?_ (IsS206.ge HI0.out)) | exact HB.out)); rintro e w16 ⟨rfl, hi, hb, hk⟩; refine ⟨_, rfl, ?_⟩; have n0_ := Aside0.mk (Kd.R_mono (Kd.R_keep (IsS206.apart (show IsS206 w0 _ g s0_0 t114 t115 from by repeat (first | (with_reducible first | exact HI0.out | apply IsS206.alloc | apply IsS206.drewN | apply IsS206.drew | apply IsS206.set_1 | apply IsS206.set_2) | exact HI0.out)) (by (with_reducible repeat (first | apply Kd.R_alloc | apply Kd.R_drewN | apply Kd.R_drew)); exact HO_4.out) (by decide)) hk (fun _ h => h.2)) (fun _ h => h.1)); have n1_ := Aside0.mk (KeepBut.trans (by repeat (first | (with_reducible first | exact HK.out | apply KeepBut.set_ | apply keep_drewN | apply keep_drew | apply keep_alloc) | exact HK.out)) hk (.inl rfl)); have n2_ := Aside0.mk (hb); have n3_ := Aside0.mk (hi); clear HO_4; clear HK; clear HB; clear HI0; have HO_4 := n0_; have HK := n1_; have HB := n2_; have HI0 := n3_; clear n0_ n1_ n2_ n3_; (try clear hb); (try clear hb2); (try clear hk); (try clear hi)))
        go_loopg [4, 5, 7] k1 (fun kq v4 v5 v7 w' => ∃ (x4_2 : List Int) (x5_2 : Int) (x7_2 : Int), v5 = .int .i64 x5_2 ∧ v7 = .int .i64 x7_2 ∧ Aside0 (spec_l01Drawn.l1 kq t104 x4_2 x5_2 (wrap64 (t113 - 3)) x7_2 s0_0 t117 t118 = some (r1, r2, r3)) ∧ Aside0 (kq ≤ k1) ∧ Aside0 (Kd.R (Kd.int .i16) 51 w' w.heap.size (fun _ => True) v4 x4_2) ∧ Aside0 (IsS206 w0 w' g s0_0 t117 t118) ∧ Aside0 (KeepBut w w' g none) ∧ Aside0 (Below w0.heap.size w0 w'))
        case atStart => exact ⟨(x4_1), (x5_1), (wrap64 (1 + t116)), (by first | rfl | (simp; done) | (simp [*]; done)), (by first | rfl | (simp; done) | (simp [*]; done)), H', ⟨Nat.le_refl _⟩, ⟨by (with_reducible repeat (first | apply Kd.R_alloc | apply Kd.R_drewN | apply Kd.R_drew)); exact HO_4.out⟩, ⟨by repeat (first | (with_reducible first | exact HI0.out | apply IsS206.alloc | apply IsS206.drewN | apply IsS206.drew | apply IsS206.set_1 | apply IsS206.set_2) | exact HI0.out)⟩, ⟨by repeat (first | (with_reducible first | exact HK.out | apply KeepBut.set_ | apply keep_drewN | apply keep_drew | apply keep_alloc) | exact HK.out)⟩, ⟨by repeat (first | (with_reducible first | exact HB.out | apply below_alloc | apply pw_below_drewN | apply below_drew1 | refine below_set ?_ (IsS206.ge HI0.out)) | exact HB.out)⟩⟩
        case round =>
          clear H'
          try clear c1
          try clear c2
          try clear p2
          try clear p6
          try clear c11
          try clear c11b0
          try clear c13
          try clear p2
          obtain ⟨x4_2, x5_2, x7_2, rfl, rfl, HA, HK2, HO_4, HI0, HK, HB⟩ := hrel
          cases gk with
          | zero => exact absurd HA.out (by simp [spec_l01Drawn.l1])
          | succ k2 =>
            have H := HA.out
            clear HA
            simp only [spec_l01Drawn.l1] at H
            have HC17 := Aside0.mk H
            clear H
            go_upto_region 7 with (fail)
            go_cut [32] (fun v32 wc => ∃ (kq : Nat) (x32_16 : Bool), v32 = .bool x32_16 ∧ Aside0 (spec_l01Drawn.j2 kq t104 x4_2 x5_2 (wrap64 (t113 - 3)) x7_2 x32_16 s0_0 t117 t118 = some (r1, r2, r3)) ∧ Aside0 (kq ≤ k2) ∧ Aside0 (Kd.R (Kd.int .i16) 51 wc w.heap.size (fun _ => True) u4 x4_2) ∧ Aside0 (IsS206 w0 wc g s0_0 t117 t118) ∧ Aside0 (KeepBut w wc g none) ∧ Aside0 (Below w0.heap.size w0 wc))
            case first =>
              have H := HC17.out
              clear HC17
              by_cases c18 : x7_2 > 0
              · rw [if_pos c18] at H
                have c18b0 : decide (0 < x7_2) = true := decide_eq_true c18
                clear c18
                (first | rw [c18b0] | (simp only [i64_w, i32_w]; rw [c18b0]) | skip)
                have H' := Aside0.mk H
                clear H
                obtain ⟨Ao19, co19, eo19⟩ := Kd.R_slice HO_4.out
                subst eo19
                go_wp2
                go_meet
                case rel => exact ⟨_, (decide ((x4_2.length : Int) < t104)), (by first | rfl | (simp; done) | (simp [*]; done)), H', ⟨by have := HK1.out; have := HK2.out; first | omega | exact Nat.le_refl _⟩, ⟨by (with_reducible repeat (first | apply Kd.R_alloc | apply Kd.R_drewN | apply Kd.R_drew)); exact HO_4.out⟩, ⟨by repeat (first | (with_reducible first | exact HI0.out | apply IsS206.alloc | apply IsS206.drewN | apply IsS206.drew | apply IsS206.set_1 | apply IsS206.set_2) | exact HI0.out)⟩, ⟨by repeat (first | (with_reducible first | exact HK.out | apply KeepBut.set_ | apply keep_drewN | apply keep_drew | apply keep_alloc) | exact HK.out)⟩, ⟨by repeat (first | (with_reducible first | exact HB.out | apply below_alloc | apply pw_below_drewN | apply below_drew1 | refine below_set ?_ (IsS206.ge HI0.out)) | exact HB.out)⟩⟩
              · rw [if_neg c18] at H
                have c18b0 : decide (0 < x7_2) = false := decide_eq_false c18
                clear c18
                (first | rw [c18b0] | (simp only [i64_w, i32_w]; rw [c18b0]) | skip)
                have H' := Aside0.mk H
                clear H
                go_wp2
                go_meet
                case rel => exact ⟨_, (false), (by first | rfl | (simp; done) | (simp [*]; done)), H', ⟨by have := HK1.out; have := HK2.out; first | omega | exact Nat.le_refl _⟩, ⟨by (with_reducible repeat (first | apply Kd.R_alloc | apply Kd.R_drewN | apply Kd.R_drew)); exact HO_4.out⟩, ⟨by repeat (first | (with_reducible first | exact HI0.out | apply IsS206.alloc | apply IsS206.drewN | apply IsS206.drew | apply IsS206.set_1 | apply IsS206.set_2) | exact HI0.out)⟩, ⟨by repeat (first | (with_reducible first | exact HK.out | apply KeepBut.set_ | apply keep_drewN | apply keep_drew | apply keep_alloc) | exact HK.out)⟩, ⟨by repeat (first | (with_reducible first | exact HB.out | apply below_alloc | apply pw_below_drewN | apply below_drew1 | refine below_set ?_ (IsS206.ge HI0.out)) | exact HB.out)⟩⟩
            case rest =>
              clear HC17
              try clear c1
              try clear c2
              try clear p2
              try clear p6
              try clear c11
              try clear c11b0
              try clear c13
              try clear c18
              try clear c18b0
              try clear p2
              try clear p6
              obtain ⟨kq, x32_16, rfl, HA, HJ16, HO_4, HI0, HK, HB⟩ := hcut
              cases kq with
              | zero => exact absurd HA.out (by simp [spec_l01Drawn.j2])
              | succ kj16 =>
                have H := HA.out
                clear HA
                simp only [spec_l01Drawn.j2] at H
                by_cases c20 : x32_16 = true
                · subst c20
                  have H1 : ((spec_l00Min.f 60 (wrap64 (x5_2 + (wrap64 (t113 - 3))))).bind fun t119 => ((spec_l00Max.f 0 t119).bind fun t120 => (if x4_2.length < 70368744177664 then (spec_l01Drawn.l1 kj16 t104 (x4_2 ++ [IntKind.i16.wrap (t120)]) t120 (wrap64 (t113 - 3)) (wrap64 (x7_2 - 1)) s0_0 t117 t118) else (none)))) = some (r1, r2, r3) := by rw [if_pos rfl] at H; exact H
                  clear H
                  have H := H1
                  clear H1
                  replace H := Option.bind_eq_some_iff.mp H
                  obtain ⟨t119, A210, H⟩ := H
                  replace H : ((spec_l00Max.f 0 t119).bind fun t120 => (if x4_2.length < 70368744177664 then (spec_l01Drawn.l1 kj16 t104 (x4_2 ++ [IntKind.i16.wrap (t120)]) t120 (wrap64 (t113 - 3)) (wrap64 (x7_2 - 1)) s0_0 t117 t118) else (none))) = some (r1, r2, r3) := H
                  have A21 := Aside0.mk A210
                  clear A210
                  replace H := Option.bind_eq_some_iff.mp H
                  obtain ⟨t120, A220, H⟩ := H
                  replace H : (if x4_2.length < 70368744177664 then (spec_l01Drawn.l1 kj16 t104 (x4_2 ++ [IntKind.i16.wrap (t120)]) t120 (wrap64 (t113 - 3)) (wrap64 (x7_2 - 1)) s0_0 t117 t118) else (none)) = some (r1, r2, r3) := H
                  have A22 := Aside0.mk A220
                  clear A220
                  by_cases c23 : x4_2.length < 70368744177664
                  · rw [if_pos c23] at H
                    have LMc23 := Aside0.mk c23
                    clear c23
                    obtain ⟨y121, hy121⟩ : ∃ y_ : List Int, y_ = (x4_2 ++ [IntKind.i16.wrap (t120)]) := ⟨_, rfl⟩
                    replace H : (spec_l01Drawn.l1 kj16 t104 y121 t120 (wrap64 (t113 - 3)) (wrap64 (x7_2 - 1)) s0_0 t117 t118) = some (r1, r2, r3) := by first | (rw [hy121]; with_reducible exact H) | (have H2_ := (Option.bind_some _ _).symm.trans H; rw [hy121]; with_reducible exact H2_) | (have H2_ := (Option.bind_some _ _).symm.trans H; with_reducible exact H2_) | with_reducible exact H | (rw [hy121]; exact H) | exact H
                    have Ny121 := Aside0.mk hy121
                    clear hy121
                    have H' := Aside0.mk H
                    clear H
                    go_wp2_with (first | ((with_reducible refine gate_callee (f := 215) rfl ?_); refine goesL_ (some 38) rfl rfl Try.func215 (by kernel_rfl) rfl #[.int .i64 60, .int .i64 (wrap64 (x5_2 + (wrap64 (t113 - 3))))] rfl (by (try simp only [List.map_toArray, List.map_cons, List.map_nil]); first | done | rfl | (simp only [List.length_drop, List.length_take]; rfl)) ?_; (with_reducible refine (spec_l00Min.calls 60 (wrap64 (x5_2 + (wrap64 (t113 - 3)))) t119 _ A21.out).mono ?_); rintro e w' ⟨rfl, ⟨nd, rfl⟩⟩; refine ⟨_, rfl, ?_⟩) | ((with_reducible refine gate_callee (f := 124) rfl ?_); refine goesL_ (some 39) rfl rfl Try.func124 (by kernel_rfl) rfl #[.int .i64 0, .int .i64 t119] rfl (by (try simp only [List.map_toArray, List.map_cons, List.map_nil]); first | done | rfl | (simp only [List.length_drop, List.length_take]; rfl)) ?_; (with_reducible refine (spec_l00Max.calls 0 t119 t120 _ A22.out).mono ?_); rintro e w' ⟨rfl, ⟨nd, rfl⟩⟩; refine ⟨_, rfl, ?_⟩) | ((with_reducible refine gate_builtin (b := .append) (xs := #[.tmp 40, .tmp 43]) rfl ?_); (try (refine gate_guard (by rfl) ?_; dsimp only)); at_builtin; refine Kd.R_append (Kd.int .i16) w.heap.size rfl (.tmp 40) (.tmp 43) 29 51 (.int .i16 0) 2 rfl Try.underlying29 info51 rfl (by decide) (by omega) u4 x4_2 (IntKind.i16.wrap (t120)) [.int .i16 (IntKind.i16.wrap (t120))] (fun _ => True) (fun _ => False) rfl rfl ?aP (fun _ hk => hk.elim) ?aF ?aO (Below.refl _ _) ?aS ?aL ?_; (case aP => exact rfl); (case aF => exact (fun _ _ => trivial)); (case aO => exact (by (with_reducible repeat (first | apply Kd.R_alloc | apply Kd.R_drewN | apply Kd.R_drew)); exact HO_4.out)); (case aS => exact (keep_size (w := w) (g := g) (row := none) (by repeat (first | (with_reducible first | exact HK.out | apply KeepBut.set_ | apply keep_drewN | apply keep_drew | apply keep_alloc) | exact HK.out)))); (case aL => have := LMc23.out; omega); intro v122 w24 ho hb hg hat; rw [← Ny121.out] at ho; have n0_ := Aside0.mk (IsS206.grown (by repeat (first | (with_reducible first | exact HI0.out | apply IsS206.alloc | apply IsS206.drewN | apply IsS206.drew | apply IsS206.set_1 | apply IsS206.set_2) | exact HI0.out)) hg (IsS206.own_ne HI0.out HO_4.out (by decide))); have n1_ := Aside0.mk (below_weaken (by repeat (first | (with_reducible first | exact HB.out | apply below_alloc | apply pw_below_drewN | apply below_drew1 | refine below_set ?_ (IsS206.ge HI0.out)) | exact HB.out)) HL.out hb); have n2_ := Aside0.mk (KeepBut.trans (by repeat (first | (with_reducible first | exact HK.out | apply KeepBut.set_ | apply keep_drewN | apply keep_drew | apply keep_alloc) | exact HK.out)) (KeepBut.of_grown hg g) (Kd.R_base2 HO_4.out)); have n3_ := Aside0.mk (ho); clear HI0; clear HB; clear HK; clear HO_4; have HI0 := n0_; have HB := n1_; have HK := n2_; have HO123 := n3_; clear n0_ n1_ n2_ n3_; clear ho hb hg hat))
                    go_roundg kj16
                    case measure => have := HK1.out; have := HK2.out; have := HJ16.out; omega
                    case rel => exact ⟨(y121), (t120), (wrap64 (x7_2 - 1)), (by first | rfl | (simp; done) | (simp [*]; done)), (by first | rfl | (simp; done) | (simp [*]; done)), H', ⟨by have := HK1.out; have := HK2.out; have := HJ16.out; omega⟩, ⟨by (with_reducible repeat (first | apply Kd.R_alloc | apply Kd.R_drewN | apply Kd.R_drew)); exact HO123.out⟩, ⟨by repeat (first | (with_reducible first | exact HI0.out | apply IsS206.alloc | apply IsS206.drewN | apply IsS206.drew | apply IsS206.set_1 | apply IsS206.set_2) | exact HI0.out)⟩, ⟨by repeat (first | (with_reducible first | exact HK.out | apply KeepBut.set_ | apply keep_drewN | apply keep_drew | apply keep_alloc) | exact HK.out)⟩, ⟨by repeat (first | (with_reducible first | exact HB.out | apply below_alloc | apply pw_below_drewN | apply below_drew1 | refine below_set ?_ (IsS206.ge HI0.out)) | exact HB.out)⟩⟩
                  · rw [if_neg c23] at H
                    exact absurd H (by simp)
                · replace c20 := Bool.eq_false_iff.mpr c20
                  subst c20
                  have H1 : (spec_l01Drawn.l0 kj16 t104 x4_2 x5_2 s0_0 t117 t118) = some (r1, r2, r3) := by rw [if_neg (show ¬ (false = true) by decide)] at H; exact H
                  clear H
                  have H := H1
                  clear H1
                  have H' := Aside0.mk H
                  clear H
                  go_wp2
                  go_roundg kj16
                  case measure => have := HK1.out; have := HK2.out; have := HJ16.out; omega
                  case rel => exact ⟨(x4_2), (x5_2), (t117), (t118), (by first | rfl | (simp; done) | (simp [*]; done)), H', ⟨by have := HK1.out; have := HK2.out; have := HJ16.out; omega⟩, ⟨by (with_reducible repeat (first | apply Kd.R_alloc | apply Kd.R_drewN | apply Kd.R_drew)); exact HO_4.out⟩, ⟨by repeat (first | (with_reducible first | exact HI0.out | apply IsS206.alloc | apply IsS206.drewN | apply IsS206.drew | apply IsS206.set_1 | apply IsS206.set_2) | exact HI0.out)⟩, ⟨by repeat (first | (with_reducible first | exact HK.out | apply KeepBut.set_ | apply keep_drewN | apply keep_drew | apply keep_alloc) | exact HK.out)⟩, ⟨by repeat (first | (with_reducible first | exact HB.out | apply below_alloc | apply pw_below_drewN | apply below_drew1 | refine below_set ?_ (IsS206.ge HI0.out)) | exact HB.out)⟩⟩
      · rw [if_neg c11] at H
        have c11b0 : decide ((x4_1.length : Int) < t104) = false := decide_eq_false c11
        clear c11
        replace H := Option.bind_eq_some_iff.mp H
        obtain ⟨⟨t124, t125, t126⟩, A250, H⟩ := H
        replace H : (if t124 = true then (if 0 ≤ (wrap64 (Int.tdiv t104 2)) then (if (wrap64 (Int.tdiv t104 2)) ≤ (x4_1.length : Int) then ((some (x4_1.take ((wrap64 (Int.tdiv t104 2)) : Int).toNat : List Int)).bind fun y127 => (if (Int.tmod t104 2) = 0 then ((some (([] : List Int) : List Int)).bind fun y131 => (if y131.length + y127.length < 70368744177664 then ((some (y131 ++ y127 : List Int)).bind fun y134 => (if y134.length + y127.length < 70368744177664 then (some ((y134 ++ y127), t125, t126)) else (none))) else (none))) else (some (x4_1, t125, t126)))) else (none)) else (none)) else (some (x4_1, t125, t126))) = some (r1, r2, r3) := H
        have A25 := Aside0.mk A250
        clear A250
        by_cases c26 : t124 = true
        · subst c26
          have H1 : (if 0 ≤ (wrap64 (Int.tdiv t104 2)) then (if (wrap64 (Int.tdiv t104 2)) ≤ (x4_1.length : Int) then ((some (x4_1.take ((wrap64 (Int.tdiv t104 2)) : Int).toNat : List Int)).bind fun y127 => (if (Int.tmod t104 2) = 0 then ((some (([] : List Int) : List Int)).bind fun y131 => (if y131.length + y127.length < 70368744177664 then ((some (y131 ++ y127 : List Int)).bind fun y134 => (if y134.length + y127.length < 70368744177664 then (some ((y134 ++ y127), t125, t126)) else (none))) else (none))) else (some (x4_1, t125, t126)))) else (none)) else (none)) = some (r1, r2, r3) := by rw [if_pos rfl] at H; exact H
          clear H
          have H := H1
          clear H1
          obtain ⟨ji27, hji27⟩ : ∃ j_ : Int, (wrap64 (Int.tdiv t104 2)) = j_ := ⟨_, rfl⟩
          replace H : (if 0 ≤ (ji27) then (if (ji27) ≤ (x4_1.length : Int) then ((some (x4_1.take ((ji27) : Int).toNat : List Int)).bind fun y127 => (if (Int.tmod t104 2) = 0 then ((some (([] : List Int) : List Int)).bind fun y131 => (if y131.length + y127.length < 70368744177664 then ((some (y131 ++ y127 : List Int)).bind fun y134 => (if y134.length + y127.length < 70368744177664 then (some ((y134 ++ y127), t125, t126)) else (none))) else (none))) else (some (x4_1, t125, t126)))) else (none)) else (none)) = some (r1, r2, r3) := by first | (rw [hji27] at H; exact H) | (simp only [hji27] at H ⊢; exact H)
          (try rw [hji27] at A25)
          have hji27w : (IntKind.i64.wrap (Int.tdiv t104 2)) = ji27 := (i64_w _).trans hji27
          by_cases c28 : 0 ≤ (ji27)
          · rw [if_pos c28] at H
            have c28b0 := eq_true c28
            have c28b1 : decide (0 ≤ (ji27)) = true := decide_eq_true c28
            clear c28
            by_cases c29 : (ji27) ≤ (x4_1.length : Int)
            · rw [if_pos c29] at H
              have c29b0 := eq_true c29
              have c29b1 : decide ((ji27) ≤ (x4_1.length : Int)) = true := decide_eq_true c29
              clear c29
              obtain ⟨y127, hy127⟩ : ∃ y_ : List Int, y_ = (x4_1.take ((ji27) : Int).toNat) := ⟨_, rfl⟩
              replace H : (if (Int.tmod t104 2) = 0 then ((some (([] : List Int) : List Int)).bind fun y131 => (if y131.length + y127.length < 70368744177664 then ((some (y131 ++ y127 : List Int)).bind fun y134 => (if y134.length + y127.length < 70368744177664 then (some ((y134 ++ y127), t125, t126)) else (none))) else (none))) else (some (x4_1, t125, t126))) = some (r1, r2, r3) := by first | (rw [hy127]; with_reducible exact H) | (have H2_ := (Option.bind_some _ _).symm.trans H; rw [hy127]; with_reducible exact H2_) | (have H2_ := (Option.bind_some _ _).symm.trans H; with_reducible exact H2_) | with_reducible exact H | (rw [hy127]; exact H) | exact H
              have Ny127 := Aside0.mk hy127
              clear hy127
              by_cases c30 : (Int.tmod t104 2) = 0
              · rw [if_pos c30] at H
                have c30b0 : ((Int.tmod t104 2) == 0) = true := beq_iff_eq.mpr c30
                have c30b1 : ((Int.tmod t104 2) != 0) = false := bne_eq_false_iff_eq.mpr c30
                clear c30
                obtain ⟨y131, hy131⟩ : ∃ y_ : List Int, y_ = (([] : List Int)) := ⟨_, rfl⟩
                replace H : (if y131.length + y127.length < 70368744177664 then ((some (y131 ++ y127 : List Int)).bind fun y134 => (if y134.length + y127.length < 70368744177664 then (some ((y134 ++ y127), t125, t126)) else (none))) else (none)) = some (r1, r2, r3) := by first | (rw [hy131]; with_reducible exact H) | (have H2_ := (Option.bind_some _ _).symm.trans H; rw [hy131]; with_reducible exact H2_) | (have H2_ := (Option.bind_some _ _).symm.trans H; with_reducible exact H2_) | with_reducible exact H | (rw [hy131]; exact H) | exact H
                have Ny131 := Aside0.mk hy131
                clear hy131
                by_cases c31 : y131.length + y127.length < 70368744177664
                · rw [if_pos c31] at H
                  have LMc31 := Aside0.mk c31
                  clear c31
                  obtain ⟨y134, hy134⟩ : ∃ y_ : List Int, y_ = (y131 ++ y127) := ⟨_, rfl⟩
                  replace H : (if y134.length + y127.length < 70368744177664 then (some ((y134 ++ y127), t125, t126)) else (none)) = some (r1, r2, r3) := by first | (rw [hy134]; with_reducible exact H) | (have H2_ := (Option.bind_some _ _).symm.trans H; rw [hy134]; with_reducible exact H2_) | (have H2_ := (Option.bind_some _ _).symm.trans H; with_reducible exact H2_) | with_reducible exact H | (rw [hy134]; exact H) | exact H
                  have Ny134 := Aside0.mk hy134
                  clear hy134
                  by_cases c32 : y134.length + y127.length < 70368744177664
                  · rw [if_pos c32] at H
                    have LMc32 := Aside0.mk c32
                    clear c32
                    obtain ⟨y137, hy137⟩ : ∃ y_ : List Int, y_ = (y134 ++ y127) := ⟨_, rfl⟩
                    replace H : (some (y137, t125, t126)) = some (r1, r2, r3) := by first | (rw [hy137]; with_reducible exact H) | (have H2_ := (Option.bind_some _ _).symm.trans H; rw [hy137]; with_reducible exact H2_) | (have H2_ := (Option.bind_some _ _).symm.trans H; with_reducible exact H2_) | with_reducible exact H | (rw [hy137]; exact H) | exact H
                    have Ny137 := Aside0.mk hy137
                    clear hy137
                    simp only [Option.some.injEq, Prod.mk.injEq] at H
                    obtain ⟨rfl, rfl, rfl⟩ := H
                    obtain ⟨Ao33, co33, eo33⟩ := Kd.R_slice HO_4.out
                    subst eo33
                    go_wp2_with (first | ((with_reducible refine gate_callee (f := 202) rfl ?_); refine goesL_ (some 46) rfl rfl Try.func202 (by kernel_rfl) rfl #[.pointer (some ⟨g, 0, none⟩), .int .i64 8] rfl (by (try simp only [List.map_toArray, List.map_cons, List.map_nil]); first | done | rfl | (simp only [List.length_drop, List.length_take]; rfl)) ?_; (with_reducible refine (spec_l00Src_one.calls g s0_0 x1001_1 x1002_1 8 true t125 t126 w0 _ ?side1 ?side2 A25.out).mono ?_); (case side1 => repeat (first | (with_reducible first | exact HI0.out | apply IsS206.alloc | apply IsS206.drewN | apply IsS206.drew | apply IsS206.set_1 | apply IsS206.set_2) | exact HI0.out)); (case side2 => repeat (first | (with_reducible first | exact HB.out | apply below_alloc | apply pw_below_drewN | apply below_drew1 | refine below_set ?_ (IsS206.ge HI0.out)) | exact HB.out)); rintro e w34 ⟨rfl, hi, hb, hk⟩; refine ⟨_, rfl, ?_⟩; have n0_ := Aside0.mk (Kd.R_mono (Kd.R_keep (IsS206.apart (show IsS206 w0 _ g s0_0 x1001_1 x1002_1 from by repeat (first | (with_reducible first | exact HI0.out | apply IsS206.alloc | apply IsS206.drewN | apply IsS206.drew | apply IsS206.set_1 | apply IsS206.set_2) | exact HI0.out)) (by (with_reducible repeat (first | apply Kd.R_alloc | apply Kd.R_drewN | apply Kd.R_drew)); exact HO_4.out) (by decide)) hk (fun _ h => h.2)) (fun _ h => h.1)); have n1_ := Aside0.mk (KeepBut.trans (by repeat (first | (with_reducible first | exact HK.out | apply KeepBut.set_ | apply keep_drewN | apply keep_drew | apply keep_alloc) | exact HK.out)) hk (.inl rfl)); have n2_ := Aside0.mk (hb); have n3_ := Aside0.mk (hi); clear HO_4; clear HK; clear HB; clear HI0; have HO_4 := n0_; have HK := n1_; have HB := n2_; have HI0 := n3_; clear n0_ n1_ n2_ n3_; (try clear hb); (try clear hb2); (try clear hk); (try clear hi); have q35 : ((ji27) : Int) ≤ ((x4_1.length : Int) : Int) := of_decide_eq_true (by first | (with_reducible assumption) | assumption); obtain ⟨i035, hi035, _, hsz35, _⟩ := info_parts info51; have hroom35 : x4_1.length ≤ co33 := (Kd.R_reads' HO_4.out).2.1; have hC35 : Kd.C (Kd.int .i16) _ Ao33 x4_1.length x4_1 := (Kd.R_reads' HO_4.out).2.2; have hcut35 := cut_to (P := Try.prog) 29 51 .i64 Try.underlying29 hi035 Ao33 x4_1.length co33 (ji27) (of_decide_eq_true (by first | (with_reducible assumption) | assumption)) q35 hroom35; have hr35 := Kd.C_take (m := ((ji27) : Int).toNat) hC35 (by omega); have hy35 : y127.length = ((ji27) : Int).toNat := (by rw [Ny127.out, List.length_take]; omega); rw [← Ny127.out] at hr35; rw [← hy35] at hcut35; have HR130 := Aside0.mk hr35; have HC130 := Aside0.mk (show y127.length ≤ co33 from by omega); clear hr35 hC35 hroom35 hi035 hsz35; have KY35 := Aside0.mk hy35; clear hy35; have KL35 := Aside0.mk (show ((ji27) : Int).toNat ≤ x4_1.length from by omega); replace q35 := eq_true q35) | ((with_reducible refine gate_dst (N := 54) rfl ?_); (try (refine gate_guard (by rfl) ?_; dsimp only)); refine Kd.R_lit (Kd.int .i16) _ 51 ?hg (N := 54) ?hd (xs := ([] : List Int)) (inner := []) (ok := fun _ => True) (okp := fun _ => True) ?hr ?hp (fun _ hk => hk) trivial (Below.refl _ _) (Nat.le_refl _) (by simp) ?_; (case hd => rfl); (case hg => rfl); (case hr => first | (go_simp; done) | (go_simp; rfl)); (case hp => exact (Reps.none _ _)); intro v132 w36 ho37 hb hg_ hnew_; clear hg_ hnew_; (first | rw [← Ny131.out] at ho37 | (simp only [Int.reduceToNat] at ho37; rw [← Ny131.out] at ho37)); have n0_ := Aside0.mk (Kd.R_elder' (by (with_reducible repeat (first | apply Kd.R_alloc | apply Kd.R_drewN | apply Kd.R_drew)); exact HO_4.out) (Kd.R_base ho37) hb); have n1_ := Aside0.mk (Kd.R_lower (Kd.R_new' ho37 (Kd.R_lt (by (with_reducible repeat (first | apply Kd.R_alloc | apply Kd.R_drewN | apply Kd.R_drew)); exact HO_4.out))) (keep_size (w := w) (g := g) (row := none) (by repeat (first | (with_reducible first | exact HK.out | apply KeepBut.set_ | apply keep_drewN | apply keep_drew | apply keep_alloc) | exact HK.out)))); have n2_ := Aside0.mk (IsS206.below (by repeat (first | (with_reducible first | exact HI0.out | apply IsS206.alloc | apply IsS206.drewN | apply IsS206.drew | apply IsS206.set_1 | apply IsS206.set_2) | exact HI0.out)) hb); have n3_ := Aside0.mk (Kd.C_below (by repeat (first | (with_reducible exact HR130.out) | (with_reducible refine Kd.C_alloc ?_ _) | (with_reducible refine Kd.C_drewN ?_ _) | (with_reducible refine Kd.C_drew ?_) | exact HR130.out)) hb); have n4_ := Aside0.mk (KeepBut.trans (by repeat (first | (with_reducible first | exact HK.out | apply KeepBut.set_ | apply keep_drewN | apply keep_drew | apply keep_alloc) | exact HK.out)) (KeepBut.of_below hb g none) (.inl rfl)); have n5_ := Aside0.mk (below_step (by repeat (first | (with_reducible first | exact HB.out | apply below_alloc | apply pw_below_drewN | apply below_drew1 | refine below_set ?_ (IsS206.ge HI0.out)) | exact HB.out)) hb); clear HO_4; clear HI0; clear HR130; clear HK; clear HB; have HO_4 := n0_; have HO133 := n1_; have HI0 := n2_; have HR130 := n3_; have HK := n4_; have HB := n5_; clear n0_ n1_ n2_ n3_ n4_ n5_; clear hb ho37) | ((with_reducible refine gate_builtin (b := .append) (xs := #[.tmp 54, .tmp 55]) rfl ?_); (try (refine gate_guard (by rfl) ?_; dsimp only)); at_builtin; refine Kd.R_append_rows (Kd.int .i16) w.heap.size rfl (.tmp 54) (.tmp 55) 29 51 (.int .i16 0) 2 rfl Try.underlying29 info51 rfl (by decide) (by omega) v132 y131 y127 _ _ _ (fun k_ => some k_ ≠ (.slice Ao33 x4_1.length co33 : Value).ownBlock) (fun _ => False) rfl rfl ?aO ?aR (fun _ _ h => h) (fun _ h => h.elim) ?aF (Below.refl _ _) ?aS ?aL ?_; (case aR => repeat (first | exact (by repeat (first | (with_reducible exact HR130.out) | (with_reducible refine Kd.C_alloc ?_ _) | (with_reducible refine Kd.C_drewN ?_ _) | (with_reducible refine Kd.C_drew ?_) | exact HR130.out)) | (with_reducible refine Kd.C_alloc ?_ _) | (with_reducible refine Kd.C_drewN ?_ _) | (with_reducible refine Kd.C_drew ?_))); (case aF => exact (fun k_ hk => Kd.fresh' (Kd.R_lt (by (with_reducible repeat (first | apply Kd.R_alloc | apply Kd.R_drewN | apply Kd.R_drew)); exact HO_4.out)) k_ hk)); (case aO => exact (by (with_reducible repeat (first | apply Kd.R_alloc | apply Kd.R_drewN | apply Kd.R_drew)); exact Kd.R_mono HO133.out (fun _ hk => hk.2))); (case aS => exact (keep_size (w := w) (g := g) (row := none) (by repeat (first | (with_reducible first | exact HK.out | apply KeepBut.set_ | apply keep_drewN | apply keep_drew | apply keep_alloc) | exact HK.out)))); (case aL => have := LMc31.out; omega); intro v135 w38 ho hb hg hat; rw [← Ny134.out] at ho; have n0_ := Aside0.mk (Kd.R_after (ok := (fun _ => True)) (by (with_reducible repeat (first | apply Kd.R_alloc | apply Kd.R_drewN | apply Kd.R_drew)); exact HO_4.out) hg hat); have n1_ := Aside0.mk (IsS206.grown (by repeat (first | (with_reducible first | exact HI0.out | apply IsS206.alloc | apply IsS206.drewN | apply IsS206.drew | apply IsS206.set_1 | apply IsS206.set_2) | exact HI0.out)) hg (IsS206.own_ne HI0.out HO133.out (by decide))); have n2_ := Aside0.mk (below_weaken (by repeat (first | (with_reducible first | exact HB.out | apply below_alloc | apply pw_below_drewN | apply below_drew1 | refine below_set ?_ (IsS206.ge HI0.out)) | exact HB.out)) HL.out hb); have n3_ := Aside0.mk (KeepBut.trans (by repeat (first | (with_reducible first | exact HK.out | apply KeepBut.set_ | apply keep_drewN | apply keep_drew | apply keep_alloc) | exact HK.out)) (KeepBut.of_grown hg g) (Kd.R_base2 HO133.out)); have n4_ := Aside0.mk ((show Kd.C (Kd.int .i16) w38 Ao33 y127.length y127 from by rw [Ny127.out]; exact Kd.C_take (m := ((ji27) : Int).toNat) ((Kd.R_reads' (Kd.R_after (ok := (fun _ => True)) (by (with_reducible repeat (first | apply Kd.R_alloc | apply Kd.R_drewN | apply Kd.R_drew)); exact HO_4.out) hg hat)).2.2) KL35.out)); have n5_ := Aside0.mk (ho); clear HO_4; clear HI0; clear HB; clear HK; clear HR130; clear HO133; have HO_4 := n0_; have HI0 := n1_; have HB := n2_; have HK := n3_; have HR130 := n4_; have HO136 := n5_; clear n0_ n1_ n2_ n3_ n4_ n5_; clear ho hb hg hat) | ((with_reducible refine gate_builtin (b := .append) (xs := #[.tmp 56, .tmp 57]) rfl ?_); (try (refine gate_guard (by rfl) ?_; dsimp only)); at_builtin; refine Kd.R_append_rows (Kd.int .i16) w.heap.size rfl (.tmp 56) (.tmp 57) 29 51 (.int .i16 0) 2 rfl Try.underlying29 info51 rfl (by decide) (by omega) v135 y134 y127 _ _ _ (fun k_ => some k_ ≠ (.slice Ao33 x4_1.length co33 : Value).ownBlock) (fun _ => False) rfl rfl ?aO ?aR (fun _ _ h => h) (fun _ h => h.elim) ?aF (Below.refl _ _) ?aS ?aL ?_; (case aR => repeat (first | exact (by repeat (first | (with_reducible exact HR130.out) | (with_reducible refine Kd.C_alloc ?_ _) | (with_reducible refine Kd.C_drewN ?_ _) | (with_reducible refine Kd.C_drew ?_) | exact HR130.out)) | (with_reducible refine Kd.C_alloc ?_ _) | (with_reducible refine Kd.C_drewN ?_ _) | (with_reducible refine Kd.C_drew ?_))); (case aF => exact (fun k_ hk => Kd.fresh' (Kd.R_lt (by (with_reducible repeat (first | apply Kd.R_alloc | apply Kd.R_drewN | apply Kd.R_drew)); exact HO_4.out)) k_ hk)); (case aO => exact (by (with_reducible repeat (first | apply Kd.R_alloc | apply Kd.R_drewN | apply Kd.R_drew)); exact HO136.out)); (case aS => exact (keep_size (w := w) (g := g) (row := none) (by repeat (first | (with_reducible first | exact HK.out | apply KeepBut.set_ | apply keep_drewN | apply keep_drew | apply keep_alloc) | exact HK.out)))); (case aL => have := LMc32.out; omega); intro v138 w39 ho hb hg hat; rw [← Ny137.out] at ho; have n0_ := Aside0.mk (Kd.R_after (ok := (fun _ => True)) (by (with_reducible repeat (first | apply Kd.R_alloc | apply Kd.R_drewN | apply Kd.R_drew)); exact HO_4.out) hg hat); have n1_ := Aside0.mk (IsS206.grown (by repeat (first | (with_reducible first | exact HI0.out | apply IsS206.alloc | apply IsS206.drewN | apply IsS206.drew | apply IsS206.set_1 | apply IsS206.set_2) | exact HI0.out)) hg (IsS206.own_ne HI0.out HO136.out (by decide))); have n2_ := Aside0.mk (below_weaken (by repeat (first | (with_reducible first | exact HB.out | apply below_alloc | apply pw_below_drewN | apply below_drew1 | refine below_set ?_ (IsS206.ge HI0.out)) | exact HB.out)) HL.out hb); have n3_ := Aside0.mk (KeepBut.trans (by repeat (first | (with_reducible first | exact HK.out | apply KeepBut.set_ | apply keep_drewN | apply keep_drew | apply keep_alloc) | exact HK.out)) (KeepBut.of_grown hg g) (Kd.R_base2 HO136.out)); have n4_ := Aside0.mk ((show Kd.C (Kd.int .i16) w39 Ao33 y127.length y127 from by rw [Ny127.out]; exact Kd.C_take (m := ((ji27) : Int).toNat) ((Kd.R_reads' (Kd.R_after (ok := (fun _ => True)) (by (with_reducible repeat (first | apply Kd.R_alloc | apply Kd.R_drewN | apply Kd.R_drew)); exact HO_4.out) hg hat)).2.2) KL35.out)); have n5_ := Aside0.mk (ho); clear HO_4; clear HI0; clear HB; clear HK; clear HR130; clear HO136; have HO_4 := n0_; have HI0 := n1_; have HB := n2_; have HK := n3_; have HR130 := n4_; have HO139 := n5_; clear n0_ n1_ n2_ n3_ n4_ n5_; clear ho hb hg hat))
                    go_ret
                    exact ⟨_, by first | rfl | (simp [errW_none, errW_some] <;> rfl) | (simp only [← hji27]; first | rfl | (simp [errW_none, errW_some] <;> rfl)) | (simp [*, errW_none, errW_some] <;> rfl), by (with_reducible repeat (first | apply Kd.R_alloc | apply Kd.R_drewN | apply Kd.R_drew)); exact Kd.R_mono HO139.out (fun _ hk => trivial), by repeat (first | (with_reducible first | exact HI0.out | apply IsS206.alloc | apply IsS206.drewN | apply IsS206.drew | apply IsS206.set_1 | apply IsS206.set_2) | exact HI0.out), by repeat (first | (with_reducible first | exact HB.out | apply below_alloc | apply pw_below_drewN | apply below_drew1 | refine below_set ?_ (IsS206.ge HI0.out)) | exact HB.out), by repeat (first | (with_reducible first | exact HK.out | apply KeepBut.set_ | apply keep_drewN | apply keep_drew | apply keep_alloc) | exact HK.out)⟩
                  · rw [if_neg c32] at H
                    exact absurd H (by simp)
                · rw [if_neg c31] at H
                  exact absurd H (by simp)
              · rw [if_neg c30] at H
                have c30b0 : ((Int.tmod t104 2) == 0) = false := beq_eq_false_iff_ne.mpr c30
                have c30b1 : ((Int.tmod t104 2) != 0) = true := bne_iff_ne.mpr c30
                simp only [Option.some.injEq, Prod.mk.injEq] at H
                obtain ⟨rfl, rfl, rfl⟩ := H
                obtain ⟨Ao40, co40, eo40⟩ := Kd.R_slice HO_4.out
                subst eo40
                go_wp2_with (first | ((with_reducible refine gate_callee (f := 202) rfl ?_); refine goesL_ (some 46) rfl rfl Try.func202 (by kernel_rfl) rfl #[.pointer (some ⟨g, 0, none⟩), .int .i64 8] rfl (by (try simp only [List.map_toArray, List.map_cons, List.map_nil]); first | done | rfl | (simp only [List.length_drop, List.length_take]; rfl)) ?_; (with_reducible refine (spec_l00Src_one.calls g s0_0 x1001_1 x1002_1 8 true t125 t126 w0 _ ?side1 ?side2 A25.out).mono ?_); (case side1 => repeat (first | (with_reducible first | exact HI0.out | apply IsS206.alloc | apply IsS206.drewN | apply IsS206.drew | apply IsS206.set_1 | apply IsS206.set_2) | exact HI0.out)); (case side2 => repeat (first | (with_reducible first | exact HB.out | apply below_alloc | apply pw_below_drewN | apply below_drew1 | refine below_set ?_ (IsS206.ge HI0.out)) | exact HB.out)); rintro e w41 ⟨rfl, hi, hb, hk⟩; refine ⟨_, rfl, ?_⟩; have n0_ := Aside0.mk (Kd.R_mono (Kd.R_keep (IsS206.apart (show IsS206 w0 _ g s0_0 x1001_1 x1002_1 from by repeat (first | (with_reducible first | exact HI0.out | apply IsS206.alloc | apply IsS206.drewN | apply IsS206.drew | apply IsS206.set_1 | apply IsS206.set_2) | exact HI0.out)) (by (with_reducible repeat (first | apply Kd.R_alloc | apply Kd.R_drewN | apply Kd.R_drew)); exact HO_4.out) (by decide)) hk (fun _ h => h.2)) (fun _ h => h.1)); have n1_ := Aside0.mk (KeepBut.trans (by repeat (first | (with_reducible first | exact HK.out | apply KeepBut.set_ | apply keep_drewN | apply keep_drew | apply keep_alloc) | exact HK.out)) hk (.inl rfl)); have n2_ := Aside0.mk (hb); have n3_ := Aside0.mk (hi); clear HO_4; clear HK; clear HB; clear HI0; have HO_4 := n0_; have HK := n1_; have HB := n2_; have HI0 := n3_; clear n0_ n1_ n2_ n3_; (try clear hb); (try clear hb2); (try clear hk); (try clear hi); have q42 : ((ji27) : Int) ≤ ((x4_1.length : Int) : Int) := of_decide_eq_true (by first | (with_reducible assumption) | assumption); obtain ⟨i042, hi042, _, hsz42, _⟩ := info_parts info51; have hroom42 : x4_1.length ≤ co40 := (Kd.R_reads' HO_4.out).2.1; have hC42 : Kd.C (Kd.int .i16) _ Ao40 x4_1.length x4_1 := (Kd.R_reads' HO_4.out).2.2; have hcut42 := cut_to (P := Try.prog) 29 51 .i64 Try.underlying29 hi042 Ao40 x4_1.length co40 (ji27) (of_decide_eq_true (by first | (with_reducible assumption) | assumption)) q42 hroom42; have hr42 := Kd.C_take (m := ((ji27) : Int).toNat) hC42 (by omega); have hy42 : y127.length = ((ji27) : Int).toNat := (by rw [Ny127.out, List.length_take]; omega); rw [← Ny127.out] at hr42; rw [← hy42] at hcut42; have HR130 := Aside0.mk hr42; have HC130 := Aside0.mk (show y127.length ≤ co40 from by omega); clear hr42 hC42 hroom42 hi042 hsz42; have KY42 := Aside0.mk hy42; clear hy42; have KL42 := Aside0.mk (show ((ji27) : Int).toNat ≤ x4_1.length from by omega); replace q42 := eq_true q42))
                go_ret
                exact ⟨_, by first | rfl | (simp [errW_none, errW_some] <;> rfl) | (simp only [← hji27]; first | rfl | (simp [errW_none, errW_some] <;> rfl)) | (simp [*, errW_none, errW_some] <;> rfl), by (with_reducible repeat (first | apply Kd.R_alloc | apply Kd.R_drewN | apply Kd.R_drew)); exact HO_4.out, by repeat (first | (with_reducible first | exact HI0.out | apply IsS206.alloc | apply IsS206.drewN | apply IsS206.drew | apply IsS206.set_1 | apply IsS206.set_2) | exact HI0.out), by repeat (first | (with_reducible first | exact HB.out | apply below_alloc | apply pw_below_drewN | apply below_drew1 | refine below_set ?_ (IsS206.ge HI0.out)) | exact HB.out), by repeat (first | (with_reducible first | exact HK.out | apply KeepBut.set_ | apply keep_drewN | apply keep_drew | apply keep_alloc) | exact HK.out)⟩
            · rw [if_neg c29] at H
              exact absurd H (by simp)
          · rw [if_neg c28] at H
            exact absurd H (by simp)
        · replace c26 := Bool.eq_false_iff.mpr c26
          subst c26
          have H1 : (some (x4_1, t125, t126)) = some (r1, r2, r3) := by rw [if_neg (show ¬ (false = true) by decide)] at H; exact H
          clear H
          have H := H1
          clear H1
          simp only [Option.some.injEq, Prod.mk.injEq] at H
          obtain ⟨rfl, rfl, rfl⟩ := H
          obtain ⟨Ao43, co43, eo43⟩ := Kd.R_slice HO_4.out
          subst eo43
          go_wp2_with (first | ((with_reducible refine gate_callee (f := 202) rfl ?_); refine goesL_ (some 46) rfl rfl Try.func202 (by kernel_rfl) rfl #[.pointer (some ⟨g, 0, none⟩), .int .i64 8] rfl (by (try simp only [List.map_toArray, List.map_cons, List.map_nil]); first | done | rfl | (simp only [List.length_drop, List.length_take]; rfl)) ?_; (with_reducible refine (spec_l00Src_one.calls g s0_0 x1001_1 x1002_1 8 false t125 t126 w0 _ ?side1 ?side2 A25.out).mono ?_); (case side1 => repeat (first | (with_reducible first | exact HI0.out | apply IsS206.alloc | apply IsS206.drewN | apply IsS206.drew | apply IsS206.set_1 | apply IsS206.set_2) | exact HI0.out)); (case side2 => repeat (first | (with_reducible first | exact HB.out | apply below_alloc | apply pw_below_drewN | apply below_drew1 | refine below_set ?_ (IsS206.ge HI0.out)) | exact HB.out)); rintro e w44 ⟨rfl, hi, hb, hk⟩; refine ⟨_, rfl, ?_⟩; have n0_ := Aside0.mk (Kd.R_mono (Kd.R_keep (IsS206.apart (show IsS206 w0 _ g s0_0 x1001_1 x1002_1 from by repeat (first | (with_reducible first | exact HI0.out | apply IsS206.alloc | apply IsS206.drewN | apply IsS206.drew | apply IsS206.set_1 | apply IsS206.set_2) | exact HI0.out)) (by (with_reducible repeat (first | apply Kd.R_alloc | apply Kd.R_drewN | apply Kd.R_drew)); exact HO_4.out) (by decide)) hk (fun _ h => h.2)) (fun _ h => h.1)); have n1_ := Aside0.mk (KeepBut.trans (by repeat (first | (with_reducible first | exact HK.out | apply KeepBut.set_ | apply keep_drewN | apply keep_drew | apply keep_alloc) | exact HK.out)) hk (.inl rfl)); have n2_ := Aside0.mk (hb); have n3_ := Aside0.mk (hi); clear HO_4; clear HK; clear HB; clear HI0; have HO_4 := n0_; have HK := n1_; have HB := n2_; have HI0 := n3_; clear n0_ n1_ n2_ n3_; (try clear hb); (try clear hb2); (try clear hk); (try clear hi)))
          go_ret
          exact ⟨_, by first | rfl | (simp [errW_none, errW_some] <;> rfl) | (simp [*, errW_none, errW_some] <;> rfl), by (with_reducible repeat (first | apply Kd.R_alloc | apply Kd.R_drewN | apply Kd.R_drew)); exact HO_4.out, by repeat (first | (with_reducible first | exact HI0.out | apply IsS206.alloc | apply IsS206.drewN | apply IsS206.drew | apply IsS206.set_1 | apply IsS206.set_2) | exact HI0.out), by repeat (first | (with_reducible first | exact HB.out | apply below_alloc | apply pw_below_drewN | apply below_drew1 | refine below_set ?_ (IsS206.ge HI0.out)) | exact HB.out), by repeat (first | (with_reducible first | exact HK.out | apply KeepBut.set_ | apply keep_drewN | apply keep_drew | apply keep_alloc) | exact HK.out)⟩
end Go.Proofs.Ytpjibhedpieafaa.H
namespace Go.Proofs.Ytpjibhedpieafaa.H
open Go.RowKit Go.Proofs.YtpjibhedpieafaaW.PrintWords Go.Proofs.YtpjibhedpieafaaW.PrintLast Go.Proofs.YtpjibhedpieafaaW.PrintMore
attribute [local go_sem] max2_int min2_int max_two min_two max_three min_three max_four min_four   -- for this text's walks alone
set_option linter.unusedVariables false
set_option linter.unusedSimpArgs false
set_option maxHeartbeats 8000000 in
set_option maxRecDepth 100000 in
theorem spec_P6Cam.calls (k : Nat) (A0 : Option Addr) (c0 : Nat) (l0 : List Int) (r : List Int) (w : World) (hr0 : Kd.C (Kd.int .u8) w A0 l0.length l0) (hc0 : l0.length ≤ c0) (h : spec_P6Cam.f k l0 = some r) :
    Calls Try.prog 21 #[.slice A0 l0.length c0] w fun e w' => ∃ v0_ : Value, e = .returned (v0_) ∧ Kd.R (Kd.int .i16) 51 w' w.heap.size (fun _ => True) v0_ r ∧ Below w.heap.size w w' := by
  have HR0 := Aside0.mk hr0
  have HC0 := Aside0.mk hc0
  clear hr0 hc0
  have HB := Aside0.mk (Below.refl w.heap.size w)
  have H : ((spec_l00From.f l0).bind fun bt101 => ((spec_l01Drawn.f k bt101.1 bt101.2.1 bt101.2.2).bind fun bt105 => (some bt105.1))) = some r := h
  clear h
  replace H := Option.bind_eq_some_iff.mp H
  obtain ⟨⟨t101, t102, t103⟩, A20, H⟩ := H
  replace H : ((spec_l01Drawn.f k t101 t102 t103).bind fun bt105 => (some bt105.1)) = some r := H
  have A2 := Aside0.mk A20
  clear A20
  replace H := Option.bind_eq_some_iff.mp H
  obtain ⟨⟨t105, t108, t109⟩, A30, H⟩ := H
  replace H : (some t105) = some r := H
  have A3 := Aside0.mk A30
  clear A30
  obtain rfl := Option.some.inj H
  go_enter Try.func21, Try.ntmps21
  go_wp2_with (first | ((with_reducible refine gate_callee (f := 117) rfl ?_); refine goesL_ (some 4) rfl rfl Try.func117 (by kernel_rfl) rfl #[.slice A0 l0.length c0] rfl (by (try simp only [List.map_toArray, List.map_cons, List.map_nil]); first | done | rfl | (simp only [List.length_drop, List.length_take]; rfl)) ?_; (with_reducible refine (spec_l00From.calls _ _ l0 t101 t102 t103 w _ ?side1 ?side2 ?side3 A2.out).mono ?_); (case side1 => repeat (first | (with_reducible first | exact HB.out | apply below_alloc | apply pw_below_drewN | apply below_drew1) | exact HB.out)); (case side2 => exact HR0.out); (case side3 => exact HC0.out); rintro e w4 ⟨g104, rfl, hi, hb, hb2⟩; refine ⟨_, rfl, ?_⟩; have n0_ := Aside0.mk (hb); have n1_ := Aside0.mk (hi); clear HB; have HB := n0_; have HI104 := n1_; clear n0_ n1_; (try clear hb); (try clear hb2); (try clear hk); (try clear hi)) | ((with_reducible refine gate_callee (f := 116) rfl ?_); refine goesL_ (some 5) rfl rfl Try.func116 (by kernel_rfl) rfl #[.pointer (some ⟨g104, 0, none⟩)] rfl (by (try simp only [List.map_toArray, List.map_cons, List.map_nil]); first | done | rfl | (simp only [List.length_drop, List.length_take]; rfl)) ?_; (with_reducible refine (spec_l01Drawn.calls k g104 t101 t102 t103 t105 t108 t109 w _ ?side1 ?side2 A3.out).mono ?_); (case side1 => repeat (first | (with_reducible first | exact HI104.out | apply IsS206.alloc | apply IsS206.drewN | apply IsS206.drew | apply IsS206.set_1 | apply IsS206.set_2) | exact HI104.out)); (case side2 => repeat (first | (with_reducible first | exact HB.out | apply below_alloc | apply pw_below_drewN | apply below_drew1 | refine below_set ?_ (IsS206.ge HI104.out)) | exact HB.out)); rintro e w5 ⟨v106, rfl, ho0, hi, hb, hk⟩; refine ⟨_, rfl, ?_⟩; have n0_ := Aside0.mk (Kd.R_lower ho0 (below_size (by repeat (first | (with_reducible first | exact HB.out | apply below_alloc | apply pw_below_drewN | apply below_drew1 | refine below_set ?_ (IsS206.ge HI104.out)) | exact HB.out)))); have n1_ := Aside0.mk (hb); have n2_ := Aside0.mk (hi); clear HB; clear HI104; have HO107 := n0_; have HB := n1_; have HI104 := n2_; clear n0_ n1_ n2_; (try clear hb); (try clear hb2); (try clear hk); (try clear hi); (try clear ho0)))
  go_ret
  exact ⟨_, by first | rfl | (simp [errW_none, errW_some] <;> rfl) | (simp [*, errW_none, errW_some] <;> rfl), by (with_reducible repeat (first | apply Kd.R_alloc | apply Kd.R_drewN | apply Kd.R_drew)); exact HO107.out, by repeat (first | (with_reducible first | exact HB.out | apply below_alloc | apply pw_below_drewN | apply below_drew1 | refine below_set ?_ (IsS206.ge HI104.out)) | exact HB.out)⟩
end Go.Proofs.Ytpjibhedpieafaa.H
namespace Go.Proofs.Ytpjibhedpieafaa.H
open Go.RowKit Go.Proofs.YtpjibhedpieafaaW.PrintWords Go.Proofs.YtpjibhedpieafaaW.PrintLast Go.Proofs.YtpjibhedpieafaaW.PrintMore
attribute [local go_sem] max2_int min2_int max_two min_two max_three min_three max_four min_four   -- for this text's walks alone
set_option linter.unusedVariables false
set_option linter.unusedSimpArgs false
def spec_P6Pick.f (l0 : List Int) (a1 : Int) : Option (Int) := (spec_l00From.f l0).bind fun bt101 => ((spec_l00Src_pick.f bt101.1 bt101.2.1 bt101.2.2 a1).bind fun bt105 => (some bt105.1))
end Go.Proofs.Ytpjibhedpieafaa.H
namespace Go.Proofs.Ytpjibhedpieafaa.H
open Go.RowKit Go.Proofs.YtpjibhedpieafaaW.PrintWords Go.Proofs.YtpjibhedpieafaaW.PrintLast Go.Proofs.YtpjibhedpieafaaW.PrintMore
attribute [local go_sem] max2_int min2_int max_two min_two max_three min_three max_four min_four   -- for this text's walks alone
set_option linter.unusedVariables false
set_option linter.unusedSimpArgs false
set_option maxHeartbeats 8000000 in
set_option maxRecDepth 100000 in
theorem spec_P6Pick.calls (A0 : Option Addr) (c0 : Nat) (l0 : List Int) (a1 : Int) (r : Int) (w : World) (hr0 : Kd.C (Kd.int .u8) w A0 l0.length l0) (hc0 : l0.length ≤ c0) (h : spec_P6Pick.f l0 a1 = some r) :
    Calls Try.prog 26 #[.slice A0 l0.length c0, .int .i64 a1] w fun e w' => e = .returned (.int .i64 r) ∧ Below w.heap.size w w' := by
  have HR0 := Aside0.mk hr0
  have HC0 := Aside0.mk hc0
  clear hr0 hc0
  have HB := Aside0.mk (Below.refl w.heap.size w)
  have H : ((spec_l00From.f l0).bind fun bt101 => ((spec_l00Src_pick.f bt101.1 bt101.2.1 bt101.2.2 a1).bind fun bt105 => (some bt105.1))) = some r := h
  clear h
  replace H := Option.bind_eq_some_iff.mp H
  obtain ⟨⟨t101, t102, t103⟩, A30, H⟩ := H
  replace H : ((spec_l00Src_pick.f t101 t102 t103 a1).bind fun bt105 => (some bt105.1)) = some r := H
  have A3 := Aside0.mk A30
  clear A30
  replace H := Option.bind_eq_some_iff.mp H
  obtain ⟨⟨t105, t106, t107⟩, A40, H⟩ := H
  replace H : (some t105) = some r := H
  have A4 := Aside0.mk A40
  clear A40
  obtain rfl := Option.some.inj H
  go_enter Try.func26, Try.ntmps26
  go_wp2_with (first | ((with_reducible refine gate_callee (f := 117) rfl ?_); refine goesL_ (some 6) rfl rfl Try.func117 (by kernel_rfl) rfl #[.slice A0 l0.length c0] rfl (by (try simp only [List.map_toArray, List.map_cons, List.map_nil]); first | done | rfl | (simp only [List.length_drop, List.length_take]; rfl)) ?_; (with_reducible refine (spec_l00From.calls _ _ l0 t101 t102 t103 w _ ?side1 ?side2 ?side3 A3.out).mono ?_); (case side1 => repeat (first | (with_reducible first | exact HB.out | apply below_alloc | apply pw_below_drewN | apply below_drew1) | exact HB.out)); (case side2 => exact HR0.out); (case side3 => exact HC0.out); rintro e w5 ⟨g104, rfl, hi, hb, hb2⟩; refine ⟨_, rfl, ?_⟩; have n0_ := Aside0.mk (hb); have n1_ := Aside0.mk (hi); clear HB; have HB := n0_; have HI104 := n1_; clear n0_ n1_; (try clear hb); (try clear hb2); (try clear hk); (try clear hi)) | ((with_reducible refine gate_callee (f := 131) rfl ?_); refine goesL_ (some 8) rfl rfl Try.func131 (by kernel_rfl) rfl #[.pointer (some ⟨g104, 0, none⟩), .int .i64 a1] rfl (by (try simp only [List.map_toArray, List.map_cons, List.map_nil]); first | done | rfl | (simp only [List.length_drop, List.length_take]; rfl)) ?_; (with_reducible refine (spec_l00Src_pick.calls g104 t101 t102 t103 a1 t105 t106 t107 w _ ?side1 ?side2 A4.out).mono ?_); (case side1 => repeat (first | (with_reducible first | exact HI104.out | apply IsS206.alloc | apply IsS206.drewN | apply IsS206.drew | apply IsS206.set_1 | apply IsS206.set_2) | exact HI104.out)); (case side2 => repeat (first | (with_reducible first | exact HB.out | apply below_alloc | apply pw_below_drewN | apply below_drew1 | refine below_set ?_ (IsS206.ge HI104.out)) | exact HB.out)); rintro e w6 ⟨rfl, hi, hb, hk⟩; refine ⟨_, rfl, ?_⟩; have n0_ := Aside0.mk (hb); have n1_ := Aside0.mk (hi); clear HB; clear HI104; have HB := n0_; have HI104 := n1_; clear n0_ n1_; (try clear hb); (try clear hb2); (try clear hk); (try clear hi)))
  go_ret
  exact ⟨by first | rfl | (simp [errW_none, errW_some] <;> rfl) | (simp [*, errW_none, errW_some] <;> rfl), by repeat (first | (with_reducible first | exact HB.out | apply below_alloc | apply pw_below_drewN | apply below_drew1 | refine below_set ?_ (IsS206.ge HI104.out)) | exact HB.out)⟩
end Go.Proofs.Ytpjibhedpieafaa.H
namespace Go.Proofs.Ytpjibhedpieafaa.H
open Go.RowKit Go.Proofs.YtpjibhedpieafaaW.PrintWords Go.Proofs.YtpjibhedpieafaaW.PrintLast Go.Proofs.YtpjibhedpieafaaW.PrintMore Go.Proofs.Ytpjibhedpieafaa.M
abbrev B8 (l : List Int) : Prop := ∀ x ∈ l, 0 ≤ x ∧ x ≤ 255
theorem rd_mem {l : List Int} {i : Int} (h0 : 0 ≤ i) (h1 : i < l.length) : rd l i ∈ l := by
  have h : i.toNat < l.length := by omega
  unfold rd; rw [List.getD_eq_getElem?_getD, List.getElem?_eq_getElem h]; exact List.getElem_mem _
theorem u64_bd (x : Int) : 0 ≤ IntKind.u64.wrap x ∧ IntKind.u64.wrap x < 18446744073709551616 := by
  unfold IntKind.wrap; simp only [IntKind.bits, IntKind.signed, Bool.false_and, if_false, show (2 : Int) ^ 64 = 18446744073709551616 from rfl]
  simp only [Bool.false_eq_true, if_false]
  omega
theorem u64_wraps (n : Int) (h₀ : 0 ≤ n) (h₁ : n < 2 ^ 64) : IntKind.u64.wrap n = n := by
  unfold IntKind.wrap; simp only [IntKind.bits, IntKind.signed, Bool.false_and, Bool.false_eq_true, if_false]
  exact Int.emod_eq_of_lt h₀ h₁
theorem u64_and255 {x : Int} (h0 : 0 ≤ x) (h1 : x < 18446744073709551616) : Go.bits .and .u64 x 255 = x % 256 := bits_mask .u64 64 (by decide) u64_wraps 8 (by decide) x h0 (by simpa using h1)
/-- The next number. -/
theorem next_some {code : List Int} (hc : B8 code) (hl : code.length ≤ 140737488351232) {a s : Int} (h0 : 0 ≤ a) (h1 : a ≤ 1099511627776) : ∃ r s', spec_l00Src_next.f code a s = some (r, a + 1, s') ∧ 0 ≤ r ∧ r ≤ 255 := by
  have hw : wrap64 (a + 1) = a + 1 := wrap64_id (by omega) (by omega)
  have tail : ∀ X : Int, 0 ≤ wrap64 (Go.bits .and .u64 (IntKind.u64.wrap X / 1099511627776) 255) ∧ wrap64 (Go.bits .and .u64 (IntKind.u64.wrap X / 1099511627776) 255) ≤ 255 := by
    intro X
    have := u64_bd X
    rw [u64_and255 (by omega) (by omega), wrap64_id (by omega) (by omega)]
    omega
  unfold spec_l00Src_next.f
  rw [hw]
  by_cases h : a < (code.length : Int)
  · rw [if_pos h, if_pos h0]
    have hb := hc _ (rd_mem h0 h)
    rw [if_pos (by omega)]
    exact ⟨_, _, rfl, by rw [wrap64_id (by omega) (by omega)]; exact hb.1, by rw [wrap64_id (by omega) (by omega)]; exact hb.2⟩
  · rw [if_neg h, if_neg (by omega)]
    exact ⟨_, _, rfl, (tail _).1, (tail _).2⟩
/-- A pick. -/
theorem pick_some {code : List Int} (hc : B8 code) (hl : code.length ≤ 140737488351232) {a s : Int} (n : Int) (h0 : 0 ≤ a) (h1 : a ≤ 1099511627000) (hn : n ≤ 9000000000000) : ∃ r a' s', spec_l00Src_pick.f code a s n = some (r, a', s') ∧ 0 ≤ r ∧ (0 < n → r < n) ∧ (n ≤ 0 → r = 0) ∧ a ≤ a' ∧ a' ≤ a + 2 := by
  unfold spec_l00Src_pick.f
  by_cases h : n ≤ 1
  · rw [if_pos h]; exact ⟨0, a, s, rfl, by omega, by omega, by omega, by omega, by omega⟩
  · rw [if_neg h]
    obtain ⟨r, s', e, hr0, hr1⟩ := next_some hc hl (s := s) h0 (by omega)
    rw [e]; simp only [Option.bind_some]
    by_cases h2 : n > 200
    · rw [if_pos h2]
      obtain ⟨r2, s2, e2, hr20, hr21⟩ := next_some hc hl (a := a + 1) (s := s') (by omega) (by omega)
      rw [e2]; simp only [Option.bind_some]; rw [if_neg (by omega)]
      refine ⟨_, _, _, rfl, ?_, ?_, by omega, by omega, by omega⟩
      · rw [wrap64_id (x := r * 256) (by omega) (by omega), wrap64_id (by omega) (by omega)]; exact Int.tmod_nonneg _ (by omega)
      · intro _; exact Int.tmod_lt_of_pos _ (by omega)
    · rw [if_neg h2, if_neg (by omega)]
      exact ⟨_, _, _, rfl, Int.tmod_nonneg _ hr0, fun _ => Int.tmod_lt_of_pos _ (by omega), by omega, by omega, by omega⟩
/-- Lifts of at most 60. -/
abbrev L60 (l : List Int) : Prop := ∀ x ∈ l, 0 ≤ x ∧ x ≤ 60
theorem one_some {code : List Int} (hc : B8 code) (hl : code.length ≤ 140737488351232) {a s : Int} (h0 : 0 ≤ a) (h1 : a ≤ 1099511627000) : ∃ b a' s', spec_l00Src_one.f code a s 8 = some (b, a', s') ∧ a ≤ a' ∧ a' ≤ a + 2 := by
  unfold spec_l00Src_one.f
  obtain ⟨r, a', s', e, _, _, _, h3, h4⟩ := pick_some hc hl (s := s) 8 h0 h1 (by omega)
  rw [e]; exact ⟨_, _, _, rfl, h3, h4⟩
/-- What a cam that is drawn is like. -/
structure Drw (n : Int) (l : List Int) : Prop where
  len : (l.length : Int) = n
  lift : L60 l
theorem drawn_end {code : List Int} (hc : B8 code) (hl : code.length ≤ 140737488351232) {n : Int} (hn : n ∈ [8, 9, 12, 16, 24, 36]) {out : List Int} (ho : (out.length : Int) = n) (h60 : L60 out) {lift a s : Int} (h0 : 0 ≤ a) (h1 : a ≤ 1099511627000) (k : Nat) :
    ∃ r a' s', spec_l01Drawn.l0 (k + 1) n out lift code a s = some (r, a', s') ∧ Drw n r ∧ a ≤ a' ∧ a' ≤ a + 2 := by
  have hn' : 8 ≤ n ∧ n ≤ 36 := by simp at hn; omega
  obtain ⟨b, a', s', e, h3, h4⟩ := one_some hc hl (s := s) h0 h1
  simp only [spec_l01Drawn.l0]
  rw [if_neg (by omega), e]; simp only [Option.bind_some]
  have ht : Int.tdiv n 2 = n / 2 := Int.tdiv_eq_ediv_of_nonneg (by omega)
  have ht2 : Int.tmod n 2 = n % 2 := Int.tmod_eq_emod_of_nonneg (by omega)
  rw [ht, ht2, wrap64_id (x := n / 2) (by omega) (by omega)]
  cases b with
  | false => exact ⟨out, a', s', by simp, ⟨ho, h60⟩, h3, h4⟩
  | true =>
    simp only [if_true]
    rw [if_pos (by omega), if_pos (by omega)]
    by_cases hp : n % 2 = 0
    · rw [if_pos hp]
      have hlen : (out.take (n / 2).toNat).length = (n / 2).toNat := by rw [List.length_take]; omega
      rw [if_pos (by simp; omega), if_pos (by simp; omega)]
      refine ⟨_, _, _, rfl, ⟨?_, ?_⟩, h3, h4⟩
      · simp; omega
      · intro x hx
        simp at hx
        exact h60 x (List.mem_of_mem_take hx)
    · rw [if_neg hp]; exact ⟨out, a', s', rfl, ⟨ho, h60⟩, h3, h4⟩
/-- The loops: fuel enough, a cam comes out. -/
theorem drawn_loop {code : List Int} (hc : B8 code) (hl : code.length ≤ 140737488351232) {n : Int} (hn : n ∈ [8, 9, 12, 16, 24, 36]) (m : Nat) :
    (∀ (k : Nat) (out : List Int) (lift a s : Int), k ≤ m → n - out.length ≤ 36 → (out.length : Int) ≤ n → 20 * (n - out.length) + 2 ≤ k → L60 out → 0 ≤ lift → lift ≤ 60 → 0 ≤ a → a ≤ 1000000000 + 4 * out.length → ∃ r a' s', spec_l01Drawn.l0 k n out lift code a s = some (r, a', s') ∧ Drw n r ∧ a ≤ a' ∧ a' ≤ 1000000002 + 4 * n) ∧
    (∀ (k : Nat) (out : List Int) (lift by_ x7 a s : Int), k ≤ m → n - out.length ≤ 36 → (out.length : Int) ≤ n → (20 * (n - out.length) + 4 ≤ k ∨ (0 < x7 ∧ (out.length : Int) < n ∧ 20 * (n - out.length) + 1 ≤ k)) → L60 out → 0 ≤ lift → lift ≤ 60 → -10 ≤ by_ → by_ ≤ 10 → 0 ≤ x7 → x7 ≤ 10 → 0 ≤ a → (a ≤ 1000000000 + 4 * out.length ∨ (0 < x7 ∧ (out.length : Int) < n ∧ a ≤ 1000000004 + 4 * out.length)) → ∃ r a' s', spec_l01Drawn.l1 k n out lift by_ x7 code a s = some (r, a', s') ∧ Drw n r ∧ a ≤ a' ∧ a' ≤ 1000000002 + 4 * n) := by
  have hn' : 8 ≤ n ∧ n ≤ 36 := by simp at hn; omega
  induction m with
  | zero => exact ⟨fun k out lift a s hk _ _ hf => by omega, fun k out lift by_ x7 a s hk _ _ hf => by omega⟩
  | succ m ih =>
    obtain ⟨ih0, ih1⟩ := ih
    refine ⟨?_, ?_⟩
    · intro k out lift a s hk h36 hle hf h60 hl0 hl1 ha0 ha1
      obtain ⟨k, rfl⟩ : ∃ p, k = p + 1 := ⟨k - 1, by omega⟩
      by_cases hlt : (out.length : Int) < n
      · simp only [spec_l01Drawn.l0]
        rw [if_pos hlt]
        obtain ⟨p, a1, s1, e1, hp0, hp1, _, h3, h4⟩ := pick_some hc hl (s := s) 7 ha0 (by omega) (by omega)
        rw [e1]; simp only [Option.bind_some]
        obtain ⟨q, a2, s2, e2, hq0, hq1, _, h5, h6⟩ := pick_some hc hl (a := a1) (s := s1) 5 (by omega) (by omega) (by omega)
        rw [e2]; simp only [Option.bind_some]
        have := hp1 (by omega)
        have := hq1 (by omega)
        rw [wrap64_id (x := p - 3) (by omega) (by omega), wrap64_id (x := 1 + q) (by omega) (by omega)]
        obtain ⟨r, a', s', e, hd, h7, h8⟩ := ih1 k out lift (p - 3) (1 + q) a2 s2 (by omega) h36 hle (.inr ⟨by omega, hlt, by omega⟩) h60 hl0 hl1 (by omega) (by omega) (by omega) (by omega) (by omega) (.inr ⟨by omega, hlt, by omega⟩)
        exact ⟨r, a', s', e, hd, by omega, h8⟩
      · obtain ⟨r, a', s', e, hd, h3, h4⟩ := drawn_end hc hl hn (out := out) (by omega) h60 (lift := lift) (s := s) ha0 (by omega) k
        exact ⟨r, a', s', e, hd, h3, by omega⟩
    · intro k out lift by_ x7 a s hk h36 hle hf h60 hl0 hl1 hb0 hb1 hx0 hx1 ha0 ha1
      obtain ⟨k, rfl⟩ : ∃ p, k = p + 2 := ⟨k - 2, by omega⟩
      simp only [spec_l01Drawn.l1]
      by_cases hgo : 0 < x7 ∧ (out.length : Int) < n
      · rw [if_pos (by omega)]
        simp only [spec_l01Drawn.j2]
        rw [if_pos (by simpa using hgo.2)]
        have em : ∀ x y : Int, spec_l00Min.f x y = some (if x < y then x else y) := by intro x y; unfold spec_l00Min.f; split <;> rfl
        have ex : ∀ x y : Int, spec_l00Max.f x y = some (if x > y then x else y) := by intro x y; unfold spec_l00Max.f; split <;> rfl
        rw [em]; simp only [Option.bind_some]; rw [ex]; try simp only [Option.bind_some]
        rw [if_pos (by omega), wrap64_id (x := lift + by_) (by omega) (by omega), wrap64_id (x := x7 - 1) (by omega) (by omega)]
        obtain ⟨z, hz⟩ : ∃ z, (if (0 : Int) > (if 60 < lift + by_ then 60 else lift + by_) then 0 else (if 60 < lift + by_ then 60 else lift + by_)) = z := ⟨_, rfl⟩
        rw [hz]
        have hz2 : 0 ≤ z ∧ z ≤ 60 := by rw [← hz]; split <;> split <;> omega
        rw [i16_id (by omega) (by omega)]
        obtain ⟨r, a', s', e, hd, h7, h8⟩ := ih1 k (out ++ [z]) z by_ (x7 - 1) a s (by omega) (by simp; omega) (by simp; omega) (.inl (by simp; omega)) (by intro x hx; rcases List.mem_append.mp hx with h | h; exact h60 x h; rw [List.mem_singleton.mp h]; exact hz2) hz2.1 hz2.2 hb0 hb1 (by omega) (by omega) ha0 (.inl (by simp; omega))
        exact ⟨r, a', s', e, hd, h7, h8⟩
      · have hstep : ∀ b : Bool, b = false → spec_l01Drawn.j2 (k + 1) n out lift by_ x7 b code a s = spec_l01Drawn.l0 k n out lift code a s := by intro b hb; simp only [spec_l01Drawn.j2]; rw [hb]; simp
        have h20 : 20 * (n - out.length) + 4 ≤ ((k + 2 : Nat) : Int) := by rcases hf with h | h; exact h; omega
        have ha2 : a ≤ 1000000000 + 4 * out.length := by rcases ha1 with h | h; exact h; omega
        obtain ⟨r, a', s', e, hd, h7, h8⟩ := ih0 k out lift a s (by omega) h36 hle (by omega) h60 hl0 hl1 ha0 ha2
        refine ⟨r, a', s', ?_, hd, h7, h8⟩
        split
        · rw [hstep _ (by simp; omega)]; exact e
        · rw [hstep _ rfl]; exact e
theorem drawn_some {code : List Int} (hc : B8 code) (hl : code.length ≤ 140737488351232) {a s : Int} (h0 : 0 ≤ a) (h1 : a ≤ 900000000) : ∃ r a' s', spec_l01Drawn.f 1000 code a s = some (r, a', s') ∧ (8 ≤ r.length ∧ r.length ≤ 36) ∧ L60 r ∧ a ≤ a' ∧ a' ≤ 1000000200 := by
  unfold spec_l01Drawn.f spec_l00Src_among.f
  obtain ⟨p, a1, s1, e1, hp0, hp1, _, h3, h4⟩ := pick_some hc hl (s := s) 6 h0 (by omega) (by omega)
  have := hp1 (by omega)
  simp only [List.length_cons, List.length_nil]
  simp only [show ((0 + 1 + 1 + 1 + 1 + 1 + 1 : Nat) : Int) = 6 from rfl]
  rw [e1]; simp only [Option.bind_some]; rw [if_pos hp0, if_pos (by omega)]; try simp only [Option.bind_some]
  obtain ⟨q, a2, s2, e2, hq0, hq1, _, h5, h6⟩ := pick_some hc hl (a := a1) (s := s1) 20 (by omega) (by omega) (by omega)
  have := hq1 (by omega)
  rw [e2]; simp only [Option.bind_some]
  have hm : rd [8, 9, 12, 16, 24, 36] p ∈ ([8, 9, 12, 16, 24, 36] : List Int) := rd_mem hp0 (by simp; omega)
  generalize rd [8, 9, 12, 16, 24, 36] p = n at hm
  have hn' : 8 ≤ n ∧ n ≤ 36 := by simp at hm; omega
  obtain ⟨r, a', s', e, hd, h7, h8⟩ := (drawn_loop hc hl hm 1000).1 1000 [] q a2 s2 (by omega) (by simp; omega) (by simp; omega) (by simp; omega) (fun x hx => by cases hx) (by omega) (by omega) (by omega) (by simp; omega)
  have := hd.len
  exact ⟨r, a', s', e, ⟨by omega, by omega⟩, hd.lift, by omega, by omega⟩
theorem P6Cam_some {code : List Int} (hc : B8 code) (hl : code.length ≤ 140737488351232) : ∃ r, spec_P6Cam.f 1000 code = some r ∧ Ok r ∧ L60 r ∧ r.length ≤ 36 := by
  unfold spec_P6Cam.f spec_l00From.f
  simp only [Option.bind_some]
  obtain ⟨r, a', s', e, h1, h2, _, _⟩ := drawn_some hc hl (a := 0) (s := 0) (by omega) (by omega)
  rw [e]
  exact ⟨r, rfl, ⟨h1.1, by omega, fun x hx => by have := h2 x hx; omega⟩, h2, h1.2⟩
theorem P6Pick_some {code : List Int} (hc : B8 code) (hl : code.length ≤ 140737488351232) (n : Int) (hn : n ≤ 9000000000000) : ∃ r, spec_P6Pick.f code n = some r ∧ 0 ≤ r ∧ (0 < n → r < n) ∧ (n ≤ 0 → r = 0) := by
  unfold spec_P6Pick.f spec_l00From.f
  simp only [Option.bind_some]
  obtain ⟨r, a', s', e, h1, h2, h3, _⟩ := pick_some hc hl (a := 0) (s := 0) n (by omega) (by omega) hn
  rw [e]
  exact ⟨r, rfl, h1, h2, h3⟩
/-- A slice that reads as bytes. -/
structure BytR (w : World) (A : Option Addr) (c : Nat) (l : List Int) : Prop where
  rd : Kd.C (Kd.int .u8) w A l.length l
  cap : l.length ≤ c
  b8 : B8 l
  len : l.length ≤ 140737488351232
theorem BytR.mv {w W : World} {A : Option Addr} {c : Nat} {l : List Int} (h : BytR w A c l) (hb : Below w.heap.size w W) : BytR W A c l := ⟨Kd.C_below h.rd hb, h.cap, h.b8, h.len⟩
theorem BytR.drewN {w : World} {A : Option Addr} {c : Nat} {l : List Int} (h : BytR w A c l) (n : Nat) : BytR (w.drewN n) A c l := ⟨Kd.C_drewN h.rd n, h.cap, h.b8, h.len⟩
theorem BytR.alloc {w : World} {A : Option Addr} {c : Nat} {l : List Int} (h : BytR w A c l) (o : Obj) : BytR (w.alloc o) A c l := h.mv (below_alloc (Below.refl _ _) o)
end Go.Proofs.Ytpjibhedpieafaa.H
namespace Go.Proofs.Ytpjibhedpieafaa.H
open Go.RowKit Go.Proofs.YtpjibhedpieafaaW.PrintWords Go.Proofs.YtpjibhedpieafaaW.PrintLast Go.Proofs.YtpjibhedpieafaaW.PrintMore
attribute [local go_sem] max2_int min2_int max_two min_two max_three min_three max_four min_four   -- for this text's walks alone
set_option linter.unusedVariables false
set_option linter.unusedSimpArgs false
def impl_abs.f (a0 : Int) : Option (Int) := some (mx a0 (wrap64 (-a0)))
end Go.Proofs.Ytpjibhedpieafaa.H
namespace Go.Proofs.Ytpjibhedpieafaa.H
open Go.RowKit Go.Proofs.YtpjibhedpieafaaW.PrintWords Go.Proofs.YtpjibhedpieafaaW.PrintLast Go.Proofs.YtpjibhedpieafaaW.PrintMore
attribute [local go_sem] max2_int min2_int max_two min_two max_three min_three max_four min_four   -- for this text's walks alone
set_option linter.unusedVariables false
set_option linter.unusedSimpArgs false
def impl_greatest.l0 : Nat → Int → Int → List Int → Int → Int → Option (Int × Int)
  | 0, _, _, _, _, _ => none
  | k + 1, x4, x5, x8, x9, x10 => if x10 < x9 then (if 0 ≤ x10 then (if x10 < (x8.length : Int) then ((impl_abs.f (rd x8 x10)).bind fun t102 => (if t102 > x5 then ((impl_abs.f (rd x8 x10)).bind fun t103 => (impl_greatest.l0 k x10 t103 x8 x9 (wrap64 (x10 + 1)))) else (impl_greatest.l0 k x4 x5 x8 x9 (wrap64 (x10 + 1))))) else (none)) else (none)) else (some (x4, x5))
def impl_greatest.f (k : Nat) (l0 : List Int) : Option (Int × Int) := impl_greatest.l0 k 0 (-1) l0 (l0.length : Int) 0
theorem impl_greatest.mono_l : ∀ k, (∀ y0 y1 y2 y3 y4, LeO (impl_greatest.l0 k y0 y1 y2 y3 y4) (impl_greatest.l0 (k + 1) y0 y1 y2 y3 y4))
  | 0 => fun _ _ _ _ _ r h => by simp [impl_greatest.l0] at h
  | k + 1 => by
    have ih0 := impl_greatest.mono_l k
    · intro y0 y1 y2 y3 y4
      unfold impl_greatest.l0
      repeat' first
      | (with_reducible exact ih0 _ _ _ _ _)
      | (with_reducible exact LeO.refl _)
      | (with_reducible exact LeO.none _)
      | (with_reducible refine LeO.ite ?_ ?_)
      | (with_reducible refine LeO.bind ?_ (fun _ => ?_))
      | exact ih0 _ _ _ _ _
      | exact LeO.none _
      | refine LeO.ite ?_ ?_
      | refine LeO.bind ?_ (fun _ => ?_)
theorem impl_greatest.mono : ∀ a0 k, LeO (impl_greatest.f k a0) (impl_greatest.f (k + 1) a0) := by
  intro a0 k
  have ih0 := impl_greatest.mono_l k
  unfold impl_greatest.f
  repeat' first
      | (with_reducible exact ih0 _ _ _ _ _)
      | (with_reducible exact LeO.refl _)
      | (with_reducible exact LeO.none _)
      | (with_reducible refine LeO.ite ?_ ?_)
      | (with_reducible refine LeO.bind ?_ (fun _ => ?_))
      | exact ih0 _ _ _ _ _
      | exact LeO.none _
      | refine LeO.ite ?_ ?_
      | refine LeO.bind ?_ (fun _ => ?_)
end Go.Proofs.Ytpjibhedpieafaa.H
namespace Go.Proofs.Ytpjibhedpieafaa.H
open Go.RowKit Go.Proofs.YtpjibhedpieafaaW.PrintWords Go.Proofs.YtpjibhedpieafaaW.PrintLast Go.Proofs.YtpjibhedpieafaaW.PrintMore
attribute [local go_sem] max2_int min2_int max_two min_two max_three min_three max_four min_four   -- for this text's walks alone
set_option linter.unusedVariables false
set_option linter.unusedSimpArgs false
def spec_l00In.f (a0 : Int) (a1 : Int) (a2 : Int) : Option (Bool) := if a0 ≥ a1 then (some (decide (a0 ≤ a2))) else (some false)
end Go.Proofs.Ytpjibhedpieafaa.H
namespace Go.Proofs.Ytpjibhedpieafaa.H
open Go.RowKit Go.Proofs.YtpjibhedpieafaaW.PrintWords Go.Proofs.YtpjibhedpieafaaW.PrintLast Go.Proofs.YtpjibhedpieafaaW.PrintMore
attribute [local go_sem] max2_int min2_int max_two min_two max_three min_three max_four min_four   -- for this text's walks alone
set_option linter.unusedVariables false
set_option linter.unusedSimpArgs false
def spec_l01Lift.f (a0 : Int) : Option (Bool) := (spec_l00In.f a0 0 10000).bind fun t101 => (some t101)
end Go.Proofs.Ytpjibhedpieafaa.H
namespace Go.Proofs.Ytpjibhedpieafaa.H
open Go.RowKit Go.Proofs.YtpjibhedpieafaaW.PrintWords Go.Proofs.YtpjibhedpieafaaW.PrintLast Go.Proofs.YtpjibhedpieafaaW.PrintMore
attribute [local go_sem] max2_int min2_int max_two min_two max_three min_three max_four min_four   -- for this text's walks alone
set_option linter.unusedVariables false
set_option linter.unusedSimpArgs false
def spec_l01Made.l0 : Nat → List Int → List Int → Int → Option (List Int × Int)
  | 0, _, _, _ => none
  | k + 1, x0, x4, x5 => if x5 < (x0.length : Int) then (if 0 ≤ x5 then ((spec_l01Lift.f (rd x0 x5)).bind fun t105 => (if t105 = true then (if x4.length < 70368744177664 then (spec_l01Made.l0 k x0 (x4 ++ [IntKind.i16.wrap (rd x0 x5)]) (wrap64 (x5 + 1))) else (none)) else (some ((([] : List Int)), 3)))) else (none)) else (some (x4, 0))
def spec_l01Made.f (k : Nat) (l0 : List Int) : Option (List Int × Int) := spec_l01Made.l0 k l0 (([] : List Int)) 0
theorem spec_l01Made.mono_l : ∀ k, (∀ y0 y1 y2, LeO (spec_l01Made.l0 k y0 y1 y2) (spec_l01Made.l0 (k + 1) y0 y1 y2))
  | 0 => fun _ _ _ r h => by simp [spec_l01Made.l0] at h
  | k + 1 => by
    have ih0 := spec_l01Made.mono_l k
    · intro y0 y1 y2
      unfold spec_l01Made.l0
      repeat' first
      | (with_reducible exact ih0 _ _ _)
      | (with_reducible exact LeO.refl _)
      | (with_reducible exact LeO.none _)
      | (with_reducible refine LeO.ite ?_ ?_)
      | (with_reducible refine LeO.bind ?_ (fun _ => ?_))
      | exact ih0 _ _ _
      | exact LeO.none _
      | refine LeO.ite ?_ ?_
      | refine LeO.bind ?_ (fun _ => ?_)
theorem spec_l01Made.mono : ∀ a0 k, LeO (spec_l01Made.f k a0) (spec_l01Made.f (k + 1) a0) := by
  intro a0 k
  have ih0 := spec_l01Made.mono_l k
  unfold spec_l01Made.f
  repeat' first
      | (with_reducible exact ih0 _ _ _)
      | (with_reducible exact LeO.refl _)
      | (with_reducible exact LeO.none _)
      | (with_reducible refine LeO.ite ?_ ?_)
      | (with_reducible refine LeO.bind ?_ (fun _ => ?_))
      | exact ih0 _ _ _
      | exact LeO.none _
      | refine LeO.ite ?_ ?_
      | refine LeO.bind ?_ (fun _ => ?_)
end Go.Proofs.Ytpjibhedpieafaa.H
namespace Go.Proofs.Ytpjibhedpieafaa.H
open Go.RowKit Go.Proofs.YtpjibhedpieafaaW.PrintWords Go.Proofs.YtpjibhedpieafaaW.PrintLast Go.Proofs.YtpjibhedpieafaaW.PrintMore
attribute [local go_sem] max2_int min2_int max_two min_two max_three min_three max_four min_four   -- for this text's walks alone
set_option linter.unusedVariables false
set_option linter.unusedSimpArgs false
def spec_l01Steps.f (a0 : Int) : Option (Bool) := (spec_l00In.f a0 8 360).bind fun t101 => (some t101)
end Go.Proofs.Ytpjibhedpieafaa.H
namespace Go.Proofs.Ytpjibhedpieafaa.H
open Go.RowKit Go.Proofs.YtpjibhedpieafaaW.PrintWords Go.Proofs.YtpjibhedpieafaaW.PrintLast Go.Proofs.YtpjibhedpieafaaW.PrintMore
attribute [local go_sem] max2_int min2_int max_two min_two max_three min_three max_four min_four   -- for this text's walks alone
set_option linter.unusedVariables false
set_option linter.unusedSimpArgs false
def spec_l01Ok.l0 : Nat → List Int → Int → Option (Bool)
  | 0, _, _ => none
  | k + 1, x0, x3 => if x3 < (x0.length : Int) then (if 0 ≤ x3 then ((spec_l01Lift.f (wrap64 (rd x0 x3))).bind fun t103 => (if t103 = true then (spec_l01Ok.l0 k x0 (wrap64 (x3 + 1))) else (some false))) else (none)) else (some true)
def spec_l01Ok.f (k : Nat) (l0 : List Int) : Option (Bool) := (spec_l01Steps.f (l0.length : Int)).bind fun t101 => (if t101 = true then (spec_l01Ok.l0 k l0 0) else (some false))
theorem spec_l01Ok.mono_l : ∀ k, (∀ y0 y1, LeO (spec_l01Ok.l0 k y0 y1) (spec_l01Ok.l0 (k + 1) y0 y1))
  | 0 => fun _ _ r h => by simp [spec_l01Ok.l0] at h
  | k + 1 => by
    have ih0 := spec_l01Ok.mono_l k
    · intro y0 y1
      unfold spec_l01Ok.l0
      repeat' first
      | (with_reducible exact ih0 _ _)
      | (with_reducible exact LeO.refl _)
      | (with_reducible exact LeO.none _)
      | (with_reducible refine LeO.ite ?_ ?_)
      | (with_reducible refine LeO.bind ?_ (fun _ => ?_))
      | exact ih0 _ _
      | exact LeO.none _
      | refine LeO.ite ?_ ?_
      | refine LeO.bind ?_ (fun _ => ?_)
theorem spec_l01Ok.mono : ∀ a0 k, LeO (spec_l01Ok.f k a0) (spec_l01Ok.f (k + 1) a0) := by
  intro a0 k
  have ih0 := spec_l01Ok.mono_l k
  unfold spec_l01Ok.f
  repeat' first
      | (with_reducible exact ih0 _ _)
      | (with_reducible exact LeO.refl _)
      | (with_reducible exact LeO.none _)
      | (with_reducible refine LeO.ite ?_ ?_)
      | (with_reducible refine LeO.bind ?_ (fun _ => ?_))
      | exact ih0 _ _
      | exact LeO.none _
      | refine LeO.ite ?_ ?_
      | refine LeO.bind ?_ (fun _ => ?_)
end Go.Proofs.Ytpjibhedpieafaa.H
namespace Go.Proofs.Ytpjibhedpieafaa.H
open Go.RowKit Go.Proofs.YtpjibhedpieafaaW.PrintWords Go.Proofs.YtpjibhedpieafaaW.PrintLast Go.Proofs.YtpjibhedpieafaaW.PrintMore
attribute [local go_sem] max2_int min2_int max_two min_two max_three min_three max_four min_four   -- for this text's walks alone
set_option linter.unusedVariables false
set_option linter.unusedSimpArgs false
def spec_l01Two.j0 : Nat → List Int → List Int → Bool → Option (Int)
  | 0, _, _, _ => none
  | k + 1, x0, x1, x12 => if x12 = true then (some 1) else (if (x0.length : Int) = (x1.length : Int) then (some 0) else (some 4))
def spec_l01Two.f (k : Nat) (l0 : List Int) (l1 : List Int) : Option (Int) := (spec_l01Ok.f k l0).bind fun t101 => (if t101 = true then ((spec_l01Ok.f k l1).bind fun t102 => (spec_l01Two.j0 k l0 l1 (!t102))) else (spec_l01Two.j0 k l0 l1 true))
theorem spec_l01Two.mono_l : ∀ k, (∀ y0 y1 y2, LeO (spec_l01Two.j0 k y0 y1 y2) (spec_l01Two.j0 (k + 1) y0 y1 y2))
  | 0 => fun _ _ _ r h => by simp [spec_l01Two.j0] at h
  | k + 1 => by
    have ih0 := spec_l01Two.mono_l k
    · intro y0 y1 y2
      unfold spec_l01Two.j0
      repeat' first
      | (with_reducible exact ih0 _ _ _)
      | (with_reducible exact spec_l01Ok.mono _ _)
      | (with_reducible exact LeO.refl _)
      | (with_reducible exact LeO.none _)
      | (with_reducible refine LeO.ite ?_ ?_)
      | (with_reducible refine LeO.bind ?_ (fun _ => ?_))
      | exact ih0 _ _ _
      | exact spec_l01Ok.mono _ _
      | exact LeO.none _
      | refine LeO.ite ?_ ?_
      | refine LeO.bind ?_ (fun _ => ?_)
theorem spec_l01Two.mono : ∀ a0 a1 k, LeO (spec_l01Two.f k a0 a1) (spec_l01Two.f (k + 1) a0 a1) := by
  intro a0 a1 k
  have ih0 := spec_l01Two.mono_l k
  unfold spec_l01Two.f
  repeat' first
      | (with_reducible exact ih0 _ _ _)
      | (with_reducible exact spec_l01Ok.mono _ _)
      | (with_reducible exact LeO.refl _)
      | (with_reducible exact LeO.none _)
      | (with_reducible refine LeO.ite ?_ ?_)
      | (with_reducible refine LeO.bind ?_ (fun _ => ?_))
      | exact ih0 _ _ _
      | exact spec_l01Ok.mono _ _
      | exact LeO.none _
      | refine LeO.ite ?_ ?_
      | refine LeO.bind ?_ (fun _ => ?_)
end Go.Proofs.Ytpjibhedpieafaa.H
namespace Go.Proofs.Ytpjibhedpieafaa.H
open Go.RowKit Go.Proofs.YtpjibhedpieafaaW.PrintWords Go.Proofs.YtpjibhedpieafaaW.PrintLast Go.Proofs.YtpjibhedpieafaaW.PrintMore
attribute [local go_sem] max2_int min2_int max_two min_two max_three min_three max_four min_four   -- for this text's walks alone
set_option linter.unusedVariables false
set_option linter.unusedSimpArgs false
def spec_AddCams.l0 : Nat → List Int → List Int → List Int → Int → Option (List Int × Int)
  | 0, _, _, _, _ => none
  | k + 1, x0, x1, x7, x8 => if x8 < (x0.length : Int) then (if 0 ≤ x8 then (if x8 < (x1.length : Int) then (if x7.length < 17592186044416 then (spec_AddCams.l0 k x0 x1 (x7 ++ [wrap64 ((wrap64 (rd x0 x8)) + (wrap64 (rd x1 x8)))]) (wrap64 (x8 + 1))) else (none)) else (none)) else (none)) else ((spec_l01Made.f k x7).bind fun bt113 => (some (bt113.1, bt113.2)))
def spec_AddCams.f (k : Nat) (l0 : List Int) (l1 : List Int) : Option (List Int × Int) := (spec_l01Two.f k l0 l1).bind fun t101 => (if t101 = 0 then (spec_AddCams.l0 k l0 l1 (([] : List Int)) 0) else (some ((([] : List Int)), t101)))
theorem spec_AddCams.mono_l : ∀ k, (∀ y0 y1 y2 y3, LeO (spec_AddCams.l0 k y0 y1 y2 y3) (spec_AddCams.l0 (k + 1) y0 y1 y2 y3))
  | 0 => fun _ _ _ _ r h => by simp [spec_AddCams.l0] at h
  | k + 1 => by
    have ih0 := spec_AddCams.mono_l k
    · intro y0 y1 y2 y3
      unfold spec_AddCams.l0
      repeat' first
      | (with_reducible exact ih0 _ _ _ _)
      | (with_reducible exact spec_l01Made.mono _ _)
      | (with_reducible exact spec_l01Two.mono _ _ _)
      | (with_reducible exact LeO.refl _)
      | (with_reducible exact LeO.none _)
      | (with_reducible refine LeO.ite ?_ ?_)
      | (with_reducible refine LeO.bind ?_ (fun _ => ?_))
      | exact ih0 _ _ _ _
      | exact spec_l01Made.mono _ _
      | exact spec_l01Two.mono _ _ _
      | exact LeO.none _
      | refine LeO.ite ?_ ?_
      | refine LeO.bind ?_ (fun _ => ?_)
theorem spec_AddCams.mono : ∀ a0 a1 k, LeO (spec_AddCams.f k a0 a1) (spec_AddCams.f (k + 1) a0 a1) := by
  intro a0 a1 k
  have ih0 := spec_AddCams.mono_l k
  unfold spec_AddCams.f
  repeat' first
      | (with_reducible exact ih0 _ _ _ _)
      | (with_reducible exact spec_l01Made.mono _ _)
      | (with_reducible exact spec_l01Two.mono _ _ _)
      | (with_reducible exact LeO.refl _)
      | (with_reducible exact LeO.none _)
      | (with_reducible refine LeO.ite ?_ ?_)
      | (with_reducible refine LeO.bind ?_ (fun _ => ?_))
      | exact ih0 _ _ _ _
      | exact spec_l01Made.mono _ _
      | exact spec_l01Two.mono _ _ _
      | exact LeO.none _
      | refine LeO.ite ?_ ?_
      | refine LeO.bind ?_ (fun _ => ?_)
def spec_AddCams.T8 : Bool × List (List Nat × List Nat) := (true, [([], []), ([], []), ([], []), ([1, 2], [1, 2]), ([3], [3]), ([4], [4]), ([], []), ([], []), ([6, 7], [6, 7]), ([8], [8]), ([9], [9]), ([5, 10], [5, 10]), ([11], [11]), ([0, 12], [0, 12]), ([13, 13, 0, 1, 2, 3, 4, 5, 6, 7, 8, 9, 10, 11, 12, 13], [0, 13])])
def spec_AddCams.B8 : List Nat := [0, 0, 0, 6, 14, 30, 0, 0, 192, 448, 960, 2046, 4094, 8191, 16383]
theorem spec_AddCams.tab8 : rtab .any (opsOf Try.f48 8) = spec_AddCams.T8 := by kernel_rfl
theorem spec_AddCams.bits8 : waitsOk spec_AddCams.T8.2 spec_AddCams.B8 = true := by kernel_rfl
end Go.Proofs.Ytpjibhedpieafaa.H
namespace Go.Proofs.Ytpjibhedpieafaa.H
open Go.RowKit Go.Proofs.YtpjibhedpieafaaW.PrintWords Go.Proofs.YtpjibhedpieafaaW.PrintLast Go.Proofs.YtpjibhedpieafaaW.PrintMore
attribute [local go_sem] max2_int min2_int max_two min_two max_three min_three max_four min_four   -- for this text's walks alone
set_option linter.unusedVariables false
set_option linter.unusedSimpArgs false
def spec_l01Near.f (a0 : Int) (a1 : Int) : Option (Int) := if (wrap64 (2 * a1)) = 0 then (none) else (if (Int.tmod (wrap64 ((wrap64 (2 * a0)) + a1)) (wrap64 (2 * a1))) < 0 then (some (wrap64 ((wrap64 (Int.tdiv (wrap64 ((wrap64 (2 * a0)) + a1)) (wrap64 (2 * a1)))) - 1))) else (some (wrap64 (Int.tdiv (wrap64 ((wrap64 (2 * a0)) + a1)) (wrap64 (2 * a1))))))
end Go.Proofs.Ytpjibhedpieafaa.H
namespace Go.Proofs.Ytpjibhedpieafaa.H
open Go.RowKit Go.Proofs.YtpjibhedpieafaaW.PrintWords Go.Proofs.YtpjibhedpieafaaW.PrintLast Go.Proofs.YtpjibhedpieafaaW.PrintMore
attribute [local go_sem] max2_int min2_int max_two min_two max_three min_three max_four min_four   -- for this text's walks alone
set_option linter.unusedVariables false
set_option linter.unusedSimpArgs false
mutual
def spec_BlendCams.j0 : Nat → List Int → List Int → Int → Int → Bool → Option (List Int × Int)
  | 0, _, _, _, _, _ => none
  | k + 1, x0, x1, x2, x8, x20 => if x20 = true then (spec_BlendCams.j1 k x0 x1 x2 2) else (spec_BlendCams.j1 k x0 x1 x2 x8)
def spec_BlendCams.j1 : Nat → List Int → List Int → Int → Int → Option (List Int × Int)
  | 0, _, _, _, _ => none
  | k + 1, x0, x1, x2, x8 => if x8 = 0 then (spec_BlendCams.l0 k x0 x1 x2 (([] : List Int)) 0) else (some ((([] : List Int)), x8))
def spec_BlendCams.l0 : Nat → List Int → List Int → Int → List Int → Int → Option (List Int × Int)
  | 0, _, _, _, _, _ => none
  | k + 1, x0, x1, x2, x9, x10 => if x10 < (x0.length : Int) then (if 0 ≤ x10 then (if x10 < (x1.length : Int) then ((spec_l01Near.f (wrap64 ((wrap64 ((wrap64 (rd x0 x10)) * (wrap64 (100 - x2)))) + (wrap64 ((wrap64 (rd x1 x10)) * x2)))) 100).bind fun t111 => (if x9.length < 17592186044416 then (spec_BlendCams.l0 k x0 x1 x2 (x9 ++ [t111]) (wrap64 (x10 + 1))) else (none))) else (none)) else (none)) else ((spec_l01Made.f k x9).bind fun bt115 => (some (bt115.1, bt115.2)))
end
def spec_BlendCams.f (k : Nat) (l0 : List Int) (l1 : List Int) (a2 : Int) : Option (List Int × Int) := (spec_l01Two.f k l0 l1).bind fun t101 => (if t101 = 0 then ((spec_l00In.f a2 0 100).bind fun t102 => (spec_BlendCams.j0 k l0 l1 a2 t101 (!t102))) else (spec_BlendCams.j0 k l0 l1 a2 t101 false))
theorem spec_BlendCams.mono_l : ∀ k, (∀ y0 y1 y2 y3 y4, LeO (spec_BlendCams.j0 k y0 y1 y2 y3 y4) (spec_BlendCams.j0 (k + 1) y0 y1 y2 y3 y4)) ∧ (∀ y0 y1 y2 y3, LeO (spec_BlendCams.j1 k y0 y1 y2 y3) (spec_BlendCams.j1 (k + 1) y0 y1 y2 y3)) ∧ (∀ y0 y1 y2 y3 y4, LeO (spec_BlendCams.l0 k y0 y1 y2 y3 y4) (spec_BlendCams.l0 (k + 1) y0 y1 y2 y3 y4))
  | 0 => ⟨fun _ _ _ _ _ r h => by simp [spec_BlendCams.j0] at h, fun _ _ _ _ r h => by simp [spec_BlendCams.j1] at h, fun _ _ _ _ _ r h => by simp [spec_BlendCams.l0] at h⟩
  | k + 1 => by
    obtain ⟨ih0, ih1, ih2⟩ := spec_BlendCams.mono_l k
    refine ⟨?_, ?_, ?_⟩
    · intro y0 y1 y2 y3 y4
      unfold spec_BlendCams.j0
      repeat' first
      | (with_reducible exact ih0 _ _ _ _ _)
      | (with_reducible exact ih1 _ _ _ _)
      | (with_reducible exact ih2 _ _ _ _ _)
      | (with_reducible exact spec_l01Made.mono _ _)
      | (with_reducible exact spec_l01Two.mono _ _ _)
      | (with_reducible exact LeO.refl _)
      | (with_reducible exact LeO.none _)
      | (with_reducible refine LeO.ite ?_ ?_)
      | (with_reducible refine LeO.bind ?_ (fun _ => ?_))
      | exact ih0 _ _ _ _ _
      | exact ih1 _ _ _ _
      | exact ih2 _ _ _ _ _
      | exact spec_l01Made.mono _ _
      | exact spec_l01Two.mono _ _ _
      | exact LeO.none _
      | refine LeO.ite ?_ ?_
      | refine LeO.bind ?_ (fun _ => ?_)
    · intro y0 y1 y2 y3
      unfold spec_BlendCams.j1
      repeat' first
      | (with_reducible exact ih0 _ _ _ _ _)
      | (with_reducible exact ih1 _ _ _ _)
      | (with_reducible exact ih2 _ _ _ _ _)
      | (with_reducible exact spec_l01Made.mono _ _)
      | (with_reducible exact spec_l01Two.mono _ _ _)
      | (with_reducible exact LeO.refl _)
      | (with_reducible exact LeO.none _)
      | (with_reducible refine LeO.ite ?_ ?_)
      | (with_reducible refine LeO.bind ?_ (fun _ => ?_))
      | exact ih0 _ _ _ _ _
      | exact ih1 _ _ _ _
      | exact ih2 _ _ _ _ _
      | exact spec_l01Made.mono _ _
      | exact spec_l01Two.mono _ _ _
      | exact LeO.none _
      | refine LeO.ite ?_ ?_
      | refine LeO.bind ?_ (fun _ => ?_)
    · intro y0 y1 y2 y3 y4
      unfold spec_BlendCams.l0
      repeat' first
      | (with_reducible exact ih0 _ _ _ _ _)
      | (with_reducible exact ih1 _ _ _ _)
      | (with_reducible exact ih2 _ _ _ _ _)
      | (with_reducible exact spec_l01Made.mono _ _)
      | (with_reducible exact spec_l01Two.mono _ _ _)
      | (with_reducible exact LeO.refl _)
      | (with_reducible exact LeO.none _)
      | (with_reducible refine LeO.ite ?_ ?_)
      | (with_reducible refine LeO.bind ?_ (fun _ => ?_))
      | exact ih0 _ _ _ _ _
      | exact ih1 _ _ _ _
      | exact ih2 _ _ _ _ _
      | exact spec_l01Made.mono _ _
      | exact spec_l01Two.mono _ _ _
      | exact LeO.none _
      | refine LeO.ite ?_ ?_
      | refine LeO.bind ?_ (fun _ => ?_)
theorem spec_BlendCams.mono : ∀ a0 a1 a2 k, LeO (spec_BlendCams.f k a0 a1 a2) (spec_BlendCams.f (k + 1) a0 a1 a2) := by
  intro a0 a1 a2 k
  obtain ⟨ih0, ih1, ih2⟩ := spec_BlendCams.mono_l k
  unfold spec_BlendCams.f
  repeat' first
      | (with_reducible exact ih0 _ _ _ _ _)
      | (with_reducible exact ih1 _ _ _ _)
      | (with_reducible exact ih2 _ _ _ _ _)
      | (with_reducible exact spec_l01Made.mono _ _)
      | (with_reducible exact spec_l01Two.mono _ _ _)
      | (with_reducible exact LeO.refl _)
      | (with_reducible exact LeO.none _)
      | (with_reducible refine LeO.ite ?_ ?_)
      | (with_reducible refine LeO.bind ?_ (fun _ => ?_))
      | exact ih0 _ _ _ _ _
      | exact ih1 _ _ _ _
      | exact ih2 _ _ _ _ _
      | exact spec_l01Made.mono _ _
      | exact spec_l01Two.mono _ _ _
      | exact LeO.none _
      | refine LeO.ite ?_ ?_
      | refine LeO.bind ?_ (fun _ => ?_)
def spec_BlendCams.T10 : Bool × List (List Nat × List Nat) := (true, [([], []), ([], []), ([], []), ([1, 2], [1, 2]), ([3], [3]), ([4], [4]), ([], []), ([6], [6]), ([5, 7], [5, 7]), ([], []), ([], []), ([9, 10], [9, 10]), ([11], [11]), ([12], [12]), ([], []), ([13, 14], [13, 14]), ([8, 15], [8, 15]), ([16], [16]), ([17], [17]), ([0, 18, 17], [0, 18]), ([19, 19, 0, 1, 2, 3, 4, 5, 6, 7, 8, 9, 10, 11, 12, 13, 14, 15, 16, 17, 18, 19], [0, 19])])
def spec_BlendCams.B10 : List Nat := [0, 0, 0, 6, 14, 30, 0, 64, 254, 0, 0, 1536, 3584, 7680, 0, 32256, 65534, 131070, 262142, 524287, 1048575]
theorem spec_BlendCams.tab10 : rtab .any (opsOf Try.f50 10) = spec_BlendCams.T10 := by kernel_rfl
theorem spec_BlendCams.bits10 : waitsOk spec_BlendCams.T10.2 spec_BlendCams.B10 = true := by kernel_rfl
end Go.Proofs.Ytpjibhedpieafaa.H
namespace Go.Proofs.Ytpjibhedpieafaa.H
open Go.RowKit Go.Proofs.YtpjibhedpieafaaW.PrintWords Go.Proofs.YtpjibhedpieafaaW.PrintLast Go.Proofs.YtpjibhedpieafaaW.PrintMore
attribute [local go_sem] max2_int min2_int max_two min_two max_three min_three max_four min_four   -- for this text's walks alone
set_option linter.unusedVariables false
set_option linter.unusedSimpArgs false
def spec_l01At.f (l0 : List Int) (a1 : Int) : Option (Int) := if (l0.length : Int) = 0 then (none) else (if 0 ≤ (Int.tmod (wrap64 ((Int.tmod a1 (l0.length : Int)) + (l0.length : Int))) (l0.length : Int)) then (if (Int.tmod (wrap64 ((Int.tmod a1 (l0.length : Int)) + (l0.length : Int))) (l0.length : Int)) < (l0.length : Int) then (some (wrap64 (rd l0 (Int.tmod (wrap64 ((Int.tmod a1 (l0.length : Int)) + (l0.length : Int))) (l0.length : Int))))) else (none)) else (none))
end Go.Proofs.Ytpjibhedpieafaa.H
namespace Go.Proofs.Ytpjibhedpieafaa.H
open Go.RowKit Go.Proofs.YtpjibhedpieafaaW.PrintWords Go.Proofs.YtpjibhedpieafaaW.PrintLast Go.Proofs.YtpjibhedpieafaaW.PrintMore
attribute [local go_sem] max2_int min2_int max_two min_two max_three min_three max_four min_four   -- for this text's walks alone
set_option linter.unusedVariables false
set_option linter.unusedSimpArgs false
def spec_l01Changes.l0 : Nat → List Int → List Int → Int → Option (List Int)
  | 0, _, _, _ => none
  | k + 1, x0, x3, x4 => if x4 < (x0.length : Int) then ((spec_l01At.f x0 (wrap64 (x4 + 1))).bind fun t104 => ((spec_l01At.f x0 x4).bind fun t105 => (if x3.length < 17592186044416 then (spec_l01Changes.l0 k x0 (x3 ++ [wrap64 (t104 - t105)]) (wrap64 (x4 + 1))) else (none)))) else (some x3)
def spec_l01Changes.f (k : Nat) (l0 : List Int) : Option (List Int) := spec_l01Changes.l0 k l0 (([] : List Int)) 0
theorem spec_l01Changes.mono_l : ∀ k, (∀ y0 y1 y2, LeO (spec_l01Changes.l0 k y0 y1 y2) (spec_l01Changes.l0 (k + 1) y0 y1 y2))
  | 0 => fun _ _ _ r h => by simp [spec_l01Changes.l0] at h
  | k + 1 => by
    have ih0 := spec_l01Changes.mono_l k
    · intro y0 y1 y2
      unfold spec_l01Changes.l0
      repeat' first
      | (with_reducible exact ih0 _ _ _)
      | (with_reducible exact LeO.refl _)
      | (with_reducible exact LeO.none _)
      | (with_reducible refine LeO.ite ?_ ?_)
      | (with_reducible refine LeO.bind ?_ (fun _ => ?_))
      | exact ih0 _ _ _
      | exact LeO.none _
      | refine LeO.ite ?_ ?_
      | refine LeO.bind ?_ (fun _ => ?_)
theorem spec_l01Changes.mono : ∀ a0 k, LeO (spec_l01Changes.f k a0) (spec_l01Changes.f (k + 1) a0) := by
  intro a0 k
  have ih0 := spec_l01Changes.mono_l k
  unfold spec_l01Changes.f
  repeat' first
      | (with_reducible exact ih0 _ _ _)
      | (with_reducible exact LeO.refl _)
      | (with_reducible exact LeO.none _)
      | (with_reducible refine LeO.ite ?_ ?_)
      | (with_reducible refine LeO.bind ?_ (fun _ => ?_))
      | exact ih0 _ _ _
      | exact LeO.none _
      | refine LeO.ite ?_ ?_
      | refine LeO.bind ?_ (fun _ => ?_)
end Go.Proofs.Ytpjibhedpieafaa.H
namespace Go.Proofs.Ytpjibhedpieafaa.H
open Go.RowKit Go.Proofs.YtpjibhedpieafaaW.PrintWords Go.Proofs.YtpjibhedpieafaaW.PrintLast Go.Proofs.YtpjibhedpieafaaW.PrintMore
attribute [local go_sem] max2_int min2_int max_two min_two max_three min_three max_four min_four   -- for this text's walks alone
set_option linter.unusedVariables false
set_option linter.unusedSimpArgs false
def spec_ChangesOf.f (k : Nat) (l0 : List Int) : Option (List Int × Int) := (spec_l01Ok.f k l0).bind fun t101 => (if t101 = true then ((spec_l01Changes.f k l0).bind fun t102 => (some (t102, 0))) else (some ((([] : List Int)), 1)))
theorem spec_ChangesOf.mono : ∀ a0 k, LeO (spec_ChangesOf.f k a0) (spec_ChangesOf.f (k + 1) a0) := by
  intro a0 k
  unfold spec_ChangesOf.f
  repeat' first
      | (with_reducible exact spec_l01Changes.mono _ _)
      | (with_reducible exact spec_l01Ok.mono _ _)
      | (with_reducible exact LeO.refl _)
      | (with_reducible exact LeO.none _)
      | (with_reducible refine LeO.ite ?_ ?_)
      | (with_reducible refine LeO.bind ?_ (fun _ => ?_))
      | exact spec_l01Changes.mono _ _
      | exact spec_l01Ok.mono _ _
      | exact LeO.none _
      | refine LeO.ite ?_ ?_
      | refine LeO.bind ?_ (fun _ => ?_)
end Go.Proofs.Ytpjibhedpieafaa.H
namespace Go.Proofs.Ytpjibhedpieafaa.H
open Go.RowKit Go.Proofs.YtpjibhedpieafaaW.PrintWords Go.Proofs.YtpjibhedpieafaaW.PrintLast Go.Proofs.YtpjibhedpieafaaW.PrintMore Go.Proofs.Ytpjibhedpieafaa.M
theorem in_some (a lo hi : Int) : spec_l00In.f a lo hi = some (decide (lo ≤ a ∧ a ≤ hi)) := by
  unfold spec_l00In.f; split
  · congr 1; simp; omega
  · congr 1; simp; omega
theorem lift_some (a : Int) : spec_l01Lift.f a = some (decide (0 ≤ a ∧ a ≤ 10000)) := by unfold spec_l01Lift.f; rw [in_some]; rfl
theorem steps_some (a : Int) : spec_l01Steps.f a = some (decide (8 ≤ a ∧ a ≤ 360)) := by unfold spec_l01Steps.f; rw [in_some]; rfl
theorem ok_loop {l : List Int} (h : Ok l) (m : Nat) : ∀ (k : Nat) (i : Nat), i ≤ l.length → l.length - i = m → m < k → spec_l01Ok.l0 k l i = some true := by
  induction m with
  | zero =>
    intro k i hi hm hk
    obtain ⟨k, rfl⟩ : ∃ p, k = p + 1 := ⟨k - 1, by omega⟩
    simp only [spec_l01Ok.l0]; rw [if_neg (by omega)]
  | succ m ih =>
    intro k i hi hm hk
    have hlen := h.hi
    obtain ⟨k, rfl⟩ : ∃ p, k = p + 1 := ⟨k - 1, by omega⟩
    have hl := h.lift _ (List.getElem_mem (show i < l.length by omega))
    simp only [spec_l01Ok.l0]
    rw [if_pos (by omega), if_pos (by omega), rd_get l i (by omega), wrap64_id (x := l[i]) (by omega) (by omega), lift_some]
    simp only [Option.bind_some]
    rw [if_pos (by simp; omega), wrap64_id (by omega) (by omega)]
    exact ih k (i + 1) (by omega) (by omega) (by omega)
theorem ok_some {l : List Int} (h : Ok l) (k : Nat) (hk : 400 ≤ k) : spec_l01Ok.f k l = some true := by
  have h1 := h.lo; have h2 := h.hi
  unfold spec_l01Ok.f; rw [steps_some]; simp only [Option.bind_some]
  rw [if_pos (by simp; omega)]
  exact ok_loop h l.length k 0 (by omega) (by omega) (by omega)
theorem two_some {l m : List Int} (hl : Ok l) (hm : Ok m) (e : l.length = m.length) (k : Nat) (hk : 400 ≤ k) : spec_l01Two.f k l m = some 0 := by
  obtain ⟨k, rfl⟩ : ∃ p, k = p + 1 := ⟨k - 1, by omega⟩
  unfold spec_l01Two.f; rw [ok_some hl _ hk]; simp only [Option.bind_some]; rw [if_pos trivial, ok_some hm _ hk]; simp only [Option.bind_some, spec_l01Two.j0]
  rw [if_neg (by simp), if_pos (by omega)]
theorem made_loop {l : List Int} (hn : l.length ≤ 100000) (h : ∀ x ∈ l, 0 ≤ x ∧ x ≤ 10000) (m : Nat) : ∀ (k : Nat) (i : Nat), i ≤ l.length → l.length - i = m → m < k → spec_l01Made.l0 k l (l.take i) i = some (l, 0) := by
  induction m with
  | zero =>
    intro k i hi hm hk
    obtain ⟨k, rfl⟩ : ∃ p, k = p + 1 := ⟨k - 1, by omega⟩
    simp only [spec_l01Made.l0]; rw [if_neg (by omega), List.take_of_length_le (by omega)]
  | succ m ih =>
    intro k i hi hm hk
    obtain ⟨k, rfl⟩ : ∃ p, k = p + 1 := ⟨k - 1, by omega⟩
    have hl := h _ (List.getElem_mem (show i < l.length by omega))
    simp only [spec_l01Made.l0]
    rw [if_pos (by omega), if_pos (by omega), rd_get l i (by omega), lift_some]
    simp only [Option.bind_some]
    rw [if_pos (by simp; omega), if_pos (by rw [List.length_take]; omega), i16_id (by omega) (by omega), wrap64_id (by omega) (by omega), ← List.take_succ_eq_append_getElem (by omega)]
    exact ih k (i + 1) (by omega) (by omega) (by omega)
theorem made_some {l : List Int} (hn : l.length ≤ 360) (h : ∀ x ∈ l, 0 ≤ x ∧ x ≤ 10000) (k : Nat) (hk : 400 ≤ k) : spec_l01Made.f k l = some (l, 0) := by
  have := made_loop (by omega) h l.length k 0 (by omega) (by omega) (by omega)
  simpa [spec_l01Made.f] using this
theorem add_loop {a b : List Int} (ha : Ok a) (hb : Ok b) (e : a.length = b.length) (hv : ∀ i : Nat, i < a.length → 0 ≤ addAt a b i ∧ addAt a b i ≤ 10000) (m : Nat) : ∀ (k : Nat) (i : Nat), i ≤ a.length → a.length - i = m → m + 500 < k → spec_AddCams.l0 k a b (mapN i (addAt a b)) i = some (mapN a.length (addAt a b), 0) := by
  have h1 := ha.hi
  induction m with
  | zero =>
    intro k i hi hm hk
    obtain ⟨k, rfl⟩ : ∃ p, k = p + 1 := ⟨k - 1, by omega⟩
    simp only [spec_AddCams.l0]; rw [if_neg (by omega), show i = a.length by omega, made_some (by rw [mapN_length]; exact h1) (fun x hx => by obtain ⟨j, hj, e⟩ := mem_mapN.mp hx; rw [← e]; exact hv j hj) k (by omega)]; rfl
  | succ m ih =>
    intro k i hi hm hk
    obtain ⟨k, rfl⟩ : ∃ p, k = p + 1 := ⟨k - 1, by omega⟩
    have hx := ha.lift _ (at_mem ha.pos i)
    have hy := hb.lift _ (at_mem hb.pos i)
    simp only [spec_AddCams.l0]
    rw [if_pos (by omega), if_pos (by omega), if_pos (by omega), if_pos (by rw [mapN_length]; omega), rd_get a i (by omega), rd_get b i (by omega), ← at_nat, ← at_nat, wrap64_id (x := at_ a i) (by omega) (by omega), wrap64_id (x := at_ b i) (by omega) (by omega), wrap64_id (x := at_ a i + at_ b i) (by omega) (by omega), wrap64_id (by omega) (by omega)]
    have := ih k (i + 1) (by omega) (by omega) (by omega)
    rwa [mapN_succ] at this
theorem AddCams_some {a b : List Int} (ha : Ok a) (hb : Ok b) (e : a.length = b.length) (hv : ∀ i : Nat, i < a.length → 0 ≤ addAt a b i ∧ addAt a b i ≤ 10000) : spec_AddCams.f 1000 a b = some (mapN a.length (addAt a b), 0) := by
  have h1 := ha.hi
  unfold spec_AddCams.f; rw [two_some ha hb e 1000 (by omega)]; simp only [Option.bind_some]; rw [if_pos trivial]
  have := add_loop ha hb e hv a.length 1000 0 (by omega) (by omega) (by omega)
  rwa [mapN_zero] at this
theorem near_some (a b : Int) (ha : -1099511627776 ≤ a ∧ a ≤ 1099511627776) (hb : 1 ≤ b ∧ b ≤ 1099511627776) : spec_l01Near.f a b = some (near a b) := by
  have hf := floor_tdiv (a := 2 * a + b) (b := 2 * b) (by omega)
  have hq := Int.natAbs_ediv_le_natAbs (2 * a + b) (2 * b)
  unfold spec_l01Near.f near
  rw [wrap64_id (x := 2 * b) (by omega) (by omega), wrap64_id (x := 2 * a) (by omega) (by omega), wrap64_id (x := 2 * a + b) (by omega) (by omega), if_neg (by omega)]
  by_cases hm : (2 * a + b).tmod (2 * b) < 0
  · rw [if_pos hm] at hf ⊢
    rw [wrap64_id (x := (2 * a + b).tdiv (2 * b)) (by omega) (by omega), wrap64_id (by omega) (by omega), hf]
  · rw [if_neg hm] at hf ⊢
    rw [wrap64_id (x := (2 * a + b).tdiv (2 * b)) (by omega) (by omega)]; congr 1; omega
theorem blend_val {a b : List Int} {s : Int} (hs : 0 ≤ s ∧ s ≤ 100) {x y : Int} (hx : 0 ≤ x ∧ x ≤ 10000) (hy : 0 ≤ y ∧ y ≤ 10000) : spec_l01Near.f (wrap64 ((wrap64 (x * (wrap64 (100 - s)))) + (wrap64 (y * s)))) 100 = some (near (x * (100 - s) + y * s) 100) := by
  have p1 : 0 ≤ x * (100 - s) ∧ x * (100 - s) ≤ 1000000 := ⟨Int.mul_nonneg hx.1 (by omega), by have := Int.mul_le_mul hx.2 (show 100 - s ≤ 100 by omega) (by omega) (by omega); omega⟩
  have p2 : 0 ≤ y * s ∧ y * s ≤ 1000000 := ⟨Int.mul_nonneg hy.1 (by omega), by have := Int.mul_le_mul hy.2 hs.2 (by omega) (by omega); omega⟩
  rw [wrap64_id (x := 100 - s) (by omega) (by omega), wrap64_id (x := x * (100 - s)) (by omega) (by omega), wrap64_id (x := y * s) (by omega) (by omega), wrap64_id (by omega) (by omega)]
  exact near_some _ _ (by omega) (by omega)
theorem blend_loop {a b : List Int} {s : Int} (hs : 0 ≤ s ∧ s ≤ 100) (ha : Ok a) (hb : Ok b) (e : a.length = b.length) (hv : ∀ i : Nat, i < a.length → 0 ≤ blendAt a b s i ∧ blendAt a b s i ≤ 10000) (m : Nat) : ∀ (k : Nat) (i : Nat), i ≤ a.length → a.length - i = m → m + 500 < k → spec_BlendCams.l0 k a b s (mapN i (blendAt a b s)) i = some (mapN a.length (blendAt a b s), 0) := by
  have h1 := ha.hi
  induction m with
  | zero =>
    intro k i hi hm hk
    obtain ⟨k, rfl⟩ : ∃ p, k = p + 1 := ⟨k - 1, by omega⟩
    simp only [spec_BlendCams.l0]; rw [if_neg (by omega), show i = a.length by omega, made_some (by rw [mapN_length]; exact h1) (fun x hx => by obtain ⟨j, hj, e⟩ := mem_mapN.mp hx; rw [← e]; exact hv j hj) k (by omega)]; rfl
  | succ m ih =>
    intro k i hi hm hk
    obtain ⟨k, rfl⟩ : ∃ p, k = p + 1 := ⟨k - 1, by omega⟩
    have hx := ha.lift _ (at_mem ha.pos i)
    have hy := hb.lift _ (at_mem hb.pos i)
    simp only [spec_BlendCams.l0]
    rw [if_pos (by omega), if_pos (by omega), if_pos (by omega), rd_get a i (by omega), rd_get b i (by omega), ← at_nat, ← at_nat, wrap64_id (x := at_ a i) (by omega) (by omega), wrap64_id (x := at_ b i) (by omega) (by omega), blend_val (a := a) (b := b) hs hx hy]
    simp only [Option.bind_some]
    rw [if_pos (by rw [mapN_length]; omega), wrap64_id (by omega) (by omega)]
    have := ih k (i + 1) (by omega) (by omega) (by omega)
    rwa [mapN_succ] at this
theorem BlendCams_some {a b : List Int} {s : Int} (hs : 0 ≤ s ∧ s ≤ 100) (ha : Ok a) (hb : Ok b) (e : a.length = b.length) (hv : ∀ i : Nat, i < a.length → 0 ≤ blendAt a b s i ∧ blendAt a b s i ≤ 10000) : spec_BlendCams.f 1000 a b s = some (mapN a.length (blendAt a b s), 0) := by
  have h1 := ha.hi
  unfold spec_BlendCams.f; rw [two_some ha hb e 1000 (by omega)]; simp only [Option.bind_some]; rw [if_pos trivial, in_some]
  simp only [Option.bind_some, spec_BlendCams.j0, spec_BlendCams.j1]
  rw [if_neg (by simp; omega), if_pos trivial]
  have := blend_loop hs ha hb e hv a.length 998 0 (by omega) (by omega) (by omega)
  rwa [mapN_zero] at this
theorem at_some {l : List Int} (h : Ok l) (i : Int) (hi : 0 ≤ i ∧ i ≤ 1099511627776) : spec_l01At.f l i = some (at_ l i) := by
  have h1 := h.lo; have h2 := h.hi
  have e0 : Int.tmod i (l.length : Int) = i % l.length := Int.tmod_eq_emod_of_nonneg hi.1
  have b0 : 0 ≤ i % (l.length : Int) ∧ i % (l.length : Int) < l.length := ⟨Int.emod_nonneg _ (by omega), Int.emod_lt_of_pos _ (by omega)⟩
  have e1 : Int.tmod (i % (l.length : Int) + l.length) (l.length : Int) = i % l.length := by rw [Int.tmod_eq_emod_of_nonneg (by omega), Int.add_emod_right, Int.emod_emod]
  have hx := h.lift _ (at_mem h.pos i)
  unfold spec_l01At.f
  rw [if_neg (by omega), e0, wrap64_id (x := i % (l.length : Int) + l.length) (by omega) (by omega), e1, if_pos b0.1, if_pos b0.2]
  have e2 : rd l (i % (l.length : Int)) = at_ l i := rfl
  rw [e2, wrap64_id (by omega) (by omega)]
theorem changes_loop {l : List Int} (h : Ok l) (m : Nat) : ∀ (k : Nat) (i : Nat), i ≤ l.length → l.length - i = m → m < k → spec_l01Changes.l0 k l (mapN i (changeAt l)) i = some (changes l) := by
  have h1 := h.hi
  induction m with
  | zero =>
    intro k i hi hm hk
    obtain ⟨k, rfl⟩ : ∃ p, k = p + 1 := ⟨k - 1, by omega⟩
    simp only [spec_l01Changes.l0]; rw [if_neg (by omega), show i = l.length by omega]; rfl
  | succ m ih =>
    intro k i hi hm hk
    obtain ⟨k, rfl⟩ : ∃ p, k = p + 1 := ⟨k - 1, by omega⟩
    have hx := h.lift _ (at_mem h.pos i)
    have hy := h.lift _ (at_mem h.pos (i + 1))
    simp only [spec_l01Changes.l0]
    rw [if_pos (by omega), wrap64_id (x := (i : Int) + 1) (by omega) (by omega), at_some h _ (by omega)]; simp only [Option.bind_some]
    rw [at_some h _ (by omega)]; simp only [Option.bind_some]
    rw [if_pos (by rw [mapN_length]; omega), wrap64_id (by omega) (by omega)]
    have := ih k (i + 1) (by omega) (by omega) (by omega)
    rwa [mapN_succ] at this
theorem changes_some {l : List Int} (h : Ok l) (k : Nat) (hk : 400 ≤ k) : spec_l01Changes.f k l = some (changes l) := by
  have h1 := h.hi
  have := changes_loop h l.length k 0 (by omega) (by omega) (by omega)
  rwa [mapN_zero] at this
theorem ChangesOf_some {l : List Int} (h : Ok l) : spec_ChangesOf.f 1000 l = some (changes l, 0) := by
  unfold spec_ChangesOf.f; rw [ok_some h _ (by omega)]; simp only [Option.bind_some]; rw [if_pos trivial, changes_some h _ (by omega)]; rfl
theorem siz_mx (x : Int) (h : -1000000000000 ≤ x ∧ x ≤ 1000000000000) : impl_abs.f x = some (siz x) := by
  unfold impl_abs.f mx siz; rw [wrap64_id (by omega) (by omega)]; congr 1; split <;> split <;> omega
theorem greatest_loop {l : List Int} (hn : l.length ≤ 100000) (h : ∀ x ∈ l, -1000000000000 ≤ x ∧ x ≤ 1000000000000) (m : Nat) : ∀ (k : Nat) (i : Nat) (p : Int), i ≤ l.length → l.length - i = m → m < k → ∃ q, impl_greatest.l0 k p (big (l.take i)) l l.length i = some (q, big l) := by
  induction m with
  | zero =>
    intro k i p hi hm hk
    obtain ⟨k, rfl⟩ : ∃ p, k = p + 1 := ⟨k - 1, by omega⟩
    simp only [impl_greatest.l0]; rw [if_neg (by omega), List.take_of_length_le (by omega)]; exact ⟨p, rfl⟩
  | succ m ih =>
    intro k i p hi hm hk
    obtain ⟨k, rfl⟩ : ∃ p, k = p + 1 := ⟨k - 1, by omega⟩
    have hl := h _ (List.getElem_mem (show i < l.length by omega))
    have e1 := List.take_succ_eq_append_getElem (show i < l.length by omega)
    have e2 := big_succ (l.take i) l[i]
    rw [← e1] at e2
    simp only [impl_greatest.l0]
    rw [if_pos (by omega), if_pos (by omega), if_pos (by omega), rd_get l i (by omega), siz_mx _ hl]
    simp only [Option.bind_some]
    rw [wrap64_id (x := (i : Int) + 1) (by omega) (by omega)]
    split
    · obtain ⟨q, hq⟩ := ih k (i + 1) i (by omega) (by omega) (by omega)
      rw [e2, show max (big (l.take i)) (siz l[i]) = siz l[i] by omega] at hq
      exact ⟨q, hq⟩
    · obtain ⟨q, hq⟩ := ih k (i + 1) p (by omega) (by omega) (by omega)
      rw [e2, show max (big (l.take i)) (siz l[i]) = big (l.take i) by omega] at hq
      exact ⟨q, hq⟩
theorem greatest_some {l : List Int} (hn : l.length ≤ 360) (h : ∀ x ∈ l, -1000000000000 ≤ x ∧ x ≤ 1000000000000) : ∃ q, impl_greatest.f 1000 l = some (q, big l) := by
  obtain ⟨q, hq⟩ := greatest_loop (by omega) h l.length 1000 0 0 (by omega) (by omega) (by omega)
  exact ⟨q, by simpa [impl_greatest.f, big] using hq⟩
end Go.Proofs.Ytpjibhedpieafaa.H
namespace Go.Proofs.Ytpjibhedpieafaa.M
attribute [local simp] mapN_length
/-- The kind of a change. -/
abbrev kindOf (x : Int) : Int := if x > 0 then 1 else if x < 0 then -1 else 0
abbrev kd (l : List Int) (i : Int) : Int := kindOf (changeAt l i)
/-- Runs: kind, start, length. -/
abbrev Run := Int × Int × Int
/-- How far a kind goes on, looked for from j on, at most f more. -/
def extF (k : Int → Int) (a : Int) (j : Nat) : Nat → Nat
  | 0 => j
  | f + 1 => if k (a + j) = k a then extF k a (j + 1) f else j
theorem extF_ge (k : Int → Int) (a : Int) (f j : Nat) : j ≤ extF k a j f := by
  induction f generalizing j with
  | zero => exact Nat.le_refl _
  | succ f ih => simp only [extF]; split; exact Nat.le_trans (Nat.le_succ _) (ih _); exact Nat.le_refl _
theorem extF_le (k : Int → Int) (a : Int) (f j : Nat) : extF k a j f ≤ j + f := by
  induction f generalizing j with
  | zero => exact Nat.le_refl _
  | succ f ih => simp only [extF]; split; have := ih (j + 1); omega; omega
theorem extF_same (k : Int → Int) (a : Int) (f j : Nat) (h : ∀ i < j, k (a + i) = k a) : ∀ i < extF k a j f, k (a + i) = k a := by
  induction f generalizing j with
  | zero => exact h
  | succ f ih =>
    simp only [extF]; split
    · rename_i hj; exact ih (j + 1) fun i hi => by
        by_cases e : i = j
        · rw [e]; exact hj
        · exact h i (by omega)
    · exact h
theorem extF_stop (k : Int → Int) (a : Int) (f j : Nat) (h : extF k a j f < j + f) : k (a + extF k a j f) ≠ k a := by
  induction f generalizing j with
  | zero => simp [extF] at h
  | succ f ih =>
    simp only [extF] at h ⊢; split
    · rename_i hj; rw [if_pos hj] at h; exact ih (j + 1) (by omega)
    · assumption
/-- A length of 1 at least is found. -/
abbrev ext (k : Int → Int) (a : Int) (left : Nat) : Nat := extF k a 1 (left - 1)
theorem ext_zero (k : Int → Int) (a : Int) (left : Nat) (h : 0 < left) : extF k a 0 left = ext k a left := by
  obtain ⟨f, rfl⟩ : ∃ f, left = f + 1 := ⟨left - 1, by omega⟩
  simp [extF, ext]
theorem ext_pos (k : Int → Int) (a : Int) (left : Nat) : 1 ≤ ext k a left := extF_ge k a _ 1
theorem ext_le (k : Int → Int) (a : Int) (left : Nat) (h : 0 < left) : ext k a left ≤ left := by have := extF_le k a (left - 1) 1; unfold ext; omega
theorem ext_same (k : Int → Int) (a : Int) (left : Nat) : ∀ i < ext k a left, k (a + i) = k a := extF_same k a _ 1 (fun i hi => by rw [show i = 0 by omega]; simp)
theorem ext_stop (k : Int → Int) (a : Int) (left : Nat) (h : ext k a left < left) : k (a + ext k a left) ≠ k a := extF_stop k a _ 1 (by unfold ext at h; omega)
/-- The runs from a on, over the steps that are left. -/
def runsF (k : Int → Int) (n : Nat) : Nat → Int → Nat → List Run
  | 0, _, _ => []
  | f + 1, a, left => if left = 0 then [] else (k a, a % n, (ext k a left : Int)) :: runsF k n f (a + ext k a left) (left - ext k a left)
theorem runsF_zero (k : Int → Int) (n f : Nat) (a : Int) : runsF k n f a 0 = [] := by cases f <;> simp [runsF]
theorem runsF_fuel (k : Int → Int) (n f g : Nat) (a : Int) (left : Nat) (hf : left ≤ f) (hg : left ≤ g) : runsF k n f a left = runsF k n g a left := by
  induction f generalizing g a left with
  | zero => rw [show left = 0 by omega, runsF_zero, runsF_zero]
  | succ f ih =>
    by_cases h : left = 0
    · rw [h, runsF_zero, runsF_zero]
    · obtain ⟨g, rfl⟩ : ∃ p, g = p + 1 := ⟨g - 1, by omega⟩
      simp only [runsF]
      rw [if_neg h, if_neg h]
      have := ext_pos k a left
      rw [ih g _ _ (by omega) (by omega)]
abbrev runs (k : Int → Int) (n : Nat) (a : Int) (left : Nat) : List Run := runsF k n left a left
theorem runs_step (k : Int → Int) (n : Nat) (a : Int) (left : Nat) (h : 0 < left) : runs k n a left = (k a, a % n, (ext k a left : Int)) :: runs k n (a + ext k a left) (left - ext k a left) := by
  obtain ⟨f, rfl⟩ : ∃ f, left = f + 1 := ⟨left - 1, by omega⟩
  have := ext_pos k a (f + 1)
  have := ext_le k a (f + 1) h
  unfold runs
  simp only [runsF]
  rw [if_neg (by omega)]
  rw [runsF_fuel k n f (f + 1 - ext k a (f + 1)) _ _ (by omega) (by omega)]
abbrev Per (k : Int → Int) (n : Nat) : Prop := ∀ i, k (i + n) = k i
theorem kd_per (l : List Int) : Per (kd l) l.length := fun i => by
  unfold kd changeAt; rw [show i + (l.length : Int) + 1 = (i + 1) + l.length by omega, at_add_len, at_add_len]
theorem extF_per {k : Int → Int} {n : Nat} (h : Per k n) (a : Int) (f j : Nat) : extF k (a + n) j f = extF k a j f := by
  induction f generalizing j with
  | zero => rfl
  | succ f ih => simp only [extF]; rw [show a + (n : Int) + (j : Int) = (a + j) + n by omega, h, h, ih]
theorem runsF_per {k : Int → Int} {n : Nat} (h : Per k n) (f : Nat) (a : Int) (left : Nat) : runsF k n f (a + n) left = runsF k n f a left := by
  induction f generalizing a left with
  | zero => rfl
  | succ f ih =>
    simp only [runsF]
    split
    · rfl
    · rw [h, Int.add_emod_right, show ext k (a + n) left = ext k a left from extF_per h a _ _, show a + (n : Int) + (ext k a left : Int) = (a + ext k a left) + n by omega, ih]
/-- How far back the kind of the step 0 goes. -/
def backF (k : Int → Int) (b : Nat) : Nat → Nat
  | 0 => b
  | f + 1 => if k (-(b : Int) - 1) = k 0 then backF k (b + 1) f else b
theorem backF_le (k : Int → Int) (f b : Nat) : backF k b f ≤ b + f := by
  induction f generalizing b with
  | zero => exact Nat.le_refl _
  | succ f ih => simp only [backF]; split; have := ih (b + 1); omega; omega
theorem backF_same (k : Int → Int) (f b : Nat) (h : ∀ i : Nat, i ≤ b → k (-(i : Int)) = k 0) : ∀ i : Nat, i ≤ backF k b f → k (-(i : Int)) = k 0 := by
  induction f generalizing b with
  | zero => exact h
  | succ f ih =>
    simp only [backF]; split
    · rename_i hj; exact ih (b + 1) fun i hi => by
        by_cases e : i = b + 1
        · rw [e, show (-(((b + 1 : Nat)) : Int)) = -(b : Int) - 1 by omega]; exact hj
        · exact h i (by omega)
    · exact h
theorem backF_stop (k : Int → Int) (f b : Nat) (h : backF k b f < b + f) : k (-(backF k b f : Int) - 1) ≠ k 0 := by
  induction f generalizing b with
  | zero => simp [backF] at h
  | succ f ih =>
    simp only [backF] at h ⊢; split
    · rename_i hj; rw [if_pos hj] at h; exact ih (b + 1) (by omega)
    · assumption
theorem backF_split (k : Int → Int) (f b : Nat) : backF k b (f + 1) = if backF k b f = b + f then (if k (-((b + f : Nat) : Int) - 1) = k 0 then b + f + 1 else b + f) else backF k b f := by
  induction f generalizing b with
  | zero => simp [backF]
  | succ f ih =>
    rw [show backF k b (f + 1 + 1) = if k (-(b : Int) - 1) = k 0 then backF k (b + 1) (f + 1) else b from rfl, ih, show backF k b (f + 1) = if k (-(b : Int) - 1) = k 0 then backF k (b + 1) f else b from rfl]
    by_cases h : k (-(b : Int) - 1) = k 0
    · rw [if_pos h, if_pos h, show b + 1 + f = b + (f + 1) by omega]
    · rw [if_neg h, if_neg h, if_neg (by omega)]
/-- The runs of a cam. -/
def runsL (k : Int → Int) (n : Nat) : List Run := if backF k 0 n = n then [(k 0, 0, (n : Int))] else runs k n (-(backF k 0 n : Int)) n
theorem back_all {k : Int → Int} {n : Nat} (hp : Per k n) (h0 : 0 < n) (h : backF k 0 n = n) (i : Int) : k i = k 0 := by
  have hs := backF_same k n 0 (fun i hi => by rw [show i = 0 by omega]; rfl)
  have hmul : ∀ (m : Nat) (j : Int), k (j + m * n) = k j := by
    intro m; induction m with
    | zero => intro j; simp
    | succ m ih => intro j; rw [show j + ((m + 1 : Nat) : Int) * (n : Int) = (j + m * n) + n by rw [Int.natCast_add, Int.add_mul]; omega, hp, ih]
  have e1 := Int.mul_ediv_add_emod i n
  have e2 := Int.emod_nonneg i (show (n : Int) ≠ 0 by omega)
  have e3 := Int.emod_lt_of_pos i (show 0 < (n : Int) by omega)
  have key : k i = k (i % n - n) := by
    have hm : ∀ j q : Int, k (j + n * q) = k j := by
      intro j q
      rcases Int.le_total 0 q with hq | hq
      · have := hmul q.toNat j
        rwa [Int.toNat_of_nonneg hq, Int.mul_comm] at this
      · have := hmul (-q).toNat (j + n * q)
        rw [Int.toNat_of_nonneg (by omega), Int.neg_mul, Int.mul_comm q, show j + (n : Int) * q + -((n : Int) * q) = j by omega] at this
        exact this.symm
    rw [← hm (i % n - n) (i / n + 1), Int.mul_add, Int.mul_one]
    congr 1; omega
  rw [key]
  have := hs (n - i % n).toNat (by rw [h]; omega)
  rwa [show -(((n : Int) - i % n).toNat : Int) = i % n - n by omega] at this
/-- What the reference finds is the same: it looks one step less far back, and starts at that place. -/
theorem runs_spec {k : Int → Int} {n : Nat} (hp : Per k n) (h2 : 2 ≤ n) (b : Nat) (hb : b = backF k 0 (n - 1)) (a : Int) (ha : a = if b = 0 then 0 else (n : Int) - b) :
    (runs k n a n).length = 1 ∧ runsL k n = [(k 0, 0, (n : Int))] ∧ runs k n a n = [(k 0, a % n, (n : Int))] ∨ (runs k n a n).length ≠ 1 ∧ runsL k n = runs k n a n := by
  have hs := backF_split k (n - 1) 0
  rw [← hb, show n - 1 + 1 = n by omega, Nat.zero_add] at hs
  have hle := backF_le k (n - 1) 0
  rw [← hb] at hle
  by_cases h1 : b = n - 1
  · rw [if_pos h1, if_pos (by rw [show -((n - 1 : Nat) : Int) - 1 = -(n : Int) by omega]; have := hp (-(n : Int)); rw [← this]; congr 1; omega)] at hs
    rw [show n - 1 + 1 = n by omega] at hs
    have hall := back_all hp (by omega) hs
    have hext : ext k a n = n := by
      have h3 := ext_le k a n (by omega)
      by_cases h4 : ext k a n < n
      · exact absurd (by rw [hall, hall a]) (ext_stop k a n h4)
      · omega
    have e : runs k n a n = [(k 0, a % n, (n : Int))] := by
      rw [runs_step k n a n (by omega), hext, Nat.sub_self, hall a, show runs k n (a + n) 0 = [] from rfl]
    refine .inl ⟨by rw [e]; rfl, ?_, e⟩
    unfold runsL; rw [if_pos hs]
  · rw [if_neg h1] at hs
    have hne : backF k 0 n ≠ n := by omega
    have hstop : k (-(b : Int) - 1) ≠ k 0 := by have := backF_stop k (n - 1) 0 (by omega); rwa [← hb] at this
    have hsame : k (-(b : Int)) = k 0 := by have := backF_same k (n - 1) 0 (fun i hi => by rw [show i = 0 by omega]; rfl) b (by omega); exact this
    have e : runs k n a n = runs k n (-(b : Int)) n := by
      rw [ha]; by_cases h0 : b = 0
      · rw [if_pos h0, h0]; rfl
      · rw [if_neg h0, show (n : Int) - b = -(b : Int) + n by omega]; exact runsF_per hp _ _ _
    refine .inr ⟨?_, ?_⟩
    · rw [e, runs_step k n _ n (by omega)]
      have h3 : ext k (-(b : Int)) n < n := by
        have h3 := ext_le k (-(b : Int)) n (by omega)
        by_cases h4 : ext k (-(b : Int)) n = n
        · have := ext_same k (-(b : Int)) n (n - 1) (by omega)
          rw [show -(b : Int) + ((n - 1 : Nat) : Int) = (-(b : Int) - 1) + n by omega, hp, hsame] at this
          exact absurd this hstop
        · omega
      rw [runs_step k n _ (n - ext k (-(b : Int)) n) (by omega)]
      simp
    · unfold runsL; rw [if_neg hne, hs, e]
end Go.Proofs.Ytpjibhedpieafaa.M
namespace Go.Proofs.Ytpjibhedpieafaa.M
attribute [local simp] mapN_length
/-- Places s at which runs begin, from a on; rs are the runs. -/
structure Chain (k : Int → Int) (n : Nat) (a : Int) (left : Nat) (rs : List Run) (s : Nat → Int) : Prop where
  begin_ : s 0 = a
  end_ : s rs.length = a + left
  run : ∀ i (h : i < rs.length), rs[i] = (k (s i), s i % n, s (i + 1) - s i)
  len : ∀ i, i < rs.length → 1 ≤ s (i + 1) - s i ∧ s (i + 1) - s i ≤ left
  same : ∀ i, i < rs.length → ∀ j : Int, 0 ≤ j → j < s (i + 1) - s i → k (s i + j) = k (s i)
  turn : ∀ i, i + 1 < rs.length → k (s (i + 1)) ≠ k (s i)
theorem runs_chain (k : Int → Int) (n : Nat) (left : Nat) : ∀ a : Int, ∃ s, Chain k n a left (runs k n a left) s := by
  induction left using Nat.strongRecOn with
  | _ left ih =>
    intro a
    by_cases h0 : left = 0
    · subst h0
      exact ⟨fun _ => a, rfl, by simp, fun i h => absurd h (by simp [runs, runsF]), fun i h => absurd h (by simp [runs, runsF]), fun i h => absurd h (by simp [runs, runsF]), fun i h => absurd h (by simp [runs, runsF])⟩
    · have h1 := ext_pos k a left
      have h2 := ext_le k a left (by omega)
      obtain ⟨s, hs⟩ := ih (left - ext k a left) (by omega) (a + ext k a left)
      have e := runs_step k n a left (by omega)
      generalize hrs : runs k n (a + ext k a left) (left - ext k a left) = rs at *
      rw [e]
      refine ⟨fun i => if i = 0 then a else s (i - 1), rfl, ?_, ?_, ?_, ?_, ?_⟩
      · simp only [List.length_cons]; rw [if_neg (by omega), Nat.add_sub_cancel, hs.end_]; omega
      · intro i hi
        cases i with
        | zero => simp [hs.begin_]; omega
        | succ i => simp only [List.getElem_cons_succ]; rw [hs.run i (by simpa using hi)]; simp
      · intro i hi
        cases i with
        | zero => simp [hs.begin_]; omega
        | succ i => have := hs.len i (by simpa using hi); simp; omega
      · intro i hi j hj0 hj1
        cases i with
        | zero =>
          simp [hs.begin_] at hj1 ⊢
          have := ext_same k a left j.toNat (by omega)
          rwa [Int.toNat_of_nonneg hj0] at this
        | succ i => simp at hj1 ⊢; exact hs.same i (by simpa using hi) j hj0 hj1
      · intro i hi
        cases i with
        | zero =>
          simp [hs.begin_]
          refine ext_stop k a left ?_
          by_cases h3 : ext k a left = left
          · exfalso
            have : rs = [] := by rw [← hrs, h3, Nat.sub_self]; simp [runs, runsF]
            rw [this] at hi; simp at hi
          · omega
        | succ i => simp; exact hs.turn i (by simpa using hi)
theorem per_emod {k : Int → Int} {n : Nat} (hp : Per k n) (h : 0 < n) (i : Int) : k (i % n) = k i := by
  have hmul : ∀ (m : Nat) (j : Int), k (j + m * n) = k j := by
    intro m; induction m with
    | zero => intro j; simp
    | succ m ih => intro j; rw [show j + ((m + 1 : Nat) : Int) * (n : Int) = (j + m * n) + n by rw [Int.natCast_add, Int.add_mul]; omega, hp, ih]
  have e1 := Int.mul_ediv_add_emod i n
  rcases Int.le_total 0 (i / n) with hq | hq
  · have := hmul (i / n).toNat (i % n)
    rw [Int.toNat_of_nonneg hq, Int.mul_comm] at this
    rw [← this]; congr 1; omega
  · have := hmul (-(i / n)).toNat i
    rw [Int.toNat_of_nonneg (by omega), Int.neg_mul, Int.mul_comm] at this
    rw [← this]; congr 1; omega
/-- What the law asks of all runs. -/
structure Told (k : Int → Int) (n : Nat) (rs : List Run) (s : Nat → Int) : Prop where
  some_ : 1 ≤ rs.length
  most : rs.length ≤ n
  all : s rs.length = s 0 + n
  run : ∀ i (h : i < rs.length), rs[i] = (k (s i), s i % n, s (i + 1) - s i)
  len : ∀ i, i < rs.length → 1 ≤ s (i + 1) - s i ∧ s (i + 1) - s i ≤ n
  same : ∀ i, i < rs.length → ∀ j : Int, 0 ≤ j → j < s (i + 1) - s i → k ((s i % n + j) % n) = k (s i)
  next : ∀ i, i < rs.length → 1 < rs.length → ∃ h : (i + 1) % rs.length < rs.length, (rs[(i + 1) % rs.length]).1 ≠ k (s i) ∧ (rs[(i + 1) % rs.length]).2.1 = (s i % n + (s (i + 1) - s i)) % n
theorem Chain.most {k : Int → Int} {n : Nat} {a : Int} {left : Nat} {rs : List Run} {s : Nat → Int} (h : Chain k n a left rs s) : rs.length ≤ left := by
  have : ∀ i, i ≤ rs.length → (i : Int) ≤ s i - s 0 := by
    intro i; induction i with
    | zero => intro _; simp
    | succ i ih => intro hi; have := ih (by omega); have := h.len i (by omega); omega
  have := this _ (Nat.le_refl _)
  have := h.end_; have := h.begin_
  omega
theorem runsL_told {k : Int → Int} {n : Nat} (hp : Per k n) (h2 : 2 ≤ n) : ∃ s, Told k n (runsL k n) s := by
  unfold runsL
  by_cases hall : backF k 0 n = n
  · rw [if_pos hall]
    have hk := back_all hp (by omega) hall
    refine ⟨fun i => if i = 0 then 0 else n, by simp, by simp; omega, by simp, ?_, ?_, ?_, ?_⟩
    · intro i hi; have : i = 0 := by simpa using hi
      subst this; simp
    · intro i hi; have : i = 0 := by simpa using hi
      subst this; simp; omega
    · intro i hi j _ _; rw [hk, hk (if i = 0 then _ else _)]
    · intro i hi h1; simp at h1
  · rw [if_neg hall]
    generalize hb : backF k 0 n = b at *
    have hle : b ≤ n := by have := backF_le k n 0; rw [hb] at this; omega
    have hstop : k (-(b : Int) - 1) ≠ k 0 := by have := backF_stop k n 0 (by omega); rwa [hb] at this
    have hsame : k (-(b : Int)) = k 0 := by have := backF_same k n 0 (fun i hi => by rw [show i = 0 by omega]; rfl) b (by omega); exact this
    obtain ⟨s, hs⟩ := runs_chain k n n (-(b : Int))
    have hne : 1 ≤ (runs k n (-(b : Int)) n).length := by rw [runs_step k n _ n (by omega)]; simp
    refine ⟨s, hne, hs.most, by rw [hs.end_, hs.begin_], hs.run, hs.len, ?_, ?_⟩
    · intro i hi j h0 h1
      rw [per_emod hp (by omega), ← hs.same i hi j h0 h1, ← per_emod hp (by omega) (s i + j), ← per_emod hp (by omega) (s i % n + j), Int.emod_add_emod]
    · intro i hi h1
      by_cases hl : i + 1 < (runs k n (-(b : Int)) n).length
      · have em : (i + 1) % (runs k n (-(b : Int)) n).length = i + 1 := Nat.mod_eq_of_lt hl
        refine ⟨by rw [em]; exact hl, ?_⟩
        simp only [em]
        rw [hs.run (i + 1) hl]
        refine ⟨hs.turn i hl, ?_⟩
        simp only
        rw [Int.emod_add_emod]; congr 1; omega
      · have em : (i + 1) % (runs k n (-(b : Int)) n).length = 0 := by rw [show i + 1 = (runs k n (-(b : Int)) n).length by omega, Nat.mod_self]
        refine ⟨by rw [em]; omega, ?_⟩
        simp only [em]
        have e0 := hs.end_
        rw [show (runs k n (-(b : Int)) n).length = i + 1 by omega] at e0
        rw [hs.run 0 (by omega), hs.begin_]
        refine ⟨?_, ?_⟩
        · simp only
          have h3 := hs.len i hi
          have h4 := hs.same i hi (s (i + 1) - s i - 1) (by omega) (by omega)
          rw [e0, show s i + (-(b : Int) + n - s i - 1) = (-(b : Int) - 1) + n by omega, hp] at h4
          rw [hsame, ← h4]; exact fun e => hstop e.symm
        · simp only
          rw [Int.emod_add_emod, e0, show s i + (-(b : Int) + n - s i) = -(b : Int) + n by omega, Int.add_emod_right]
end Go.Proofs.Ytpjibhedpieafaa.M
namespace Go.Proofs.Ytpjibhedpieafaa.H
open Go.RowKit Go.Proofs.YtpjibhedpieafaaW.PrintWords Go.Proofs.YtpjibhedpieafaaW.PrintLast Go.Proofs.YtpjibhedpieafaaW.PrintMore
attribute [local go_sem] max2_int min2_int max_two min_two max_three min_three max_four min_four   -- for this text's walks alone
set_option linter.unusedVariables false
set_option linter.unusedSimpArgs false
def spec_l01Kind.f (a0 : Int) : Option (Int) := if a0 > 0 then (some 1) else (if a0 < 0 then (some (-1)) else (some 0))
end Go.Proofs.Ytpjibhedpieafaa.H
namespace Go.Proofs.Ytpjibhedpieafaa.H
open Go.RowKit Go.Proofs.YtpjibhedpieafaaW.PrintWords Go.Proofs.YtpjibhedpieafaaW.PrintLast Go.Proofs.YtpjibhedpieafaaW.PrintMore
attribute [local go_sem] max2_int min2_int max_two min_two max_three min_three max_four min_four   -- for this text's walks alone
set_option linter.unusedVariables false
set_option linter.unusedSimpArgs false
mutual
def spec_l01Runs.j1 : Nat → List Int → Int → Int → Option ((List (S76)))
  | 0, _, _, _ => none
  | k + 1, x3, x4, x5 => spec_l01Runs.l1 k x3 x4 (([] : List (S76))) x5 x4
def spec_l01Runs.l1 : Nat → List Int → Int → List (S76) → Int → Int → Option ((List (S76)))
  | 0, _, _, _, _, _ => none
  | k + 1, x3, x4, x7, x8, x9 => if x9 > 0 then (spec_l01Runs.l2 k x3 x4 x7 x8 x9 1) else (if (x7.length : Int) = 1 then (if 0 < (x7.length : Int) then (some (x7.set (0 : Int).toNat (⟨(rd_T76 x7 0).f0, 0, (rd_T76 x7 0).f2⟩ : S76))) else (none)) else (some x7))
def spec_l01Runs.l2 : Nat → List Int → Int → List (S76) → Int → Int → Int → Option ((List (S76)))
  | 0, _, _, _, _, _, _ => none
  | k + 1, x3, x4, x7, x8, x9, x10 => if x10 < x9 then (if x4 = 0 then (none) else (if 0 ≤ (Int.tmod (wrap64 (x8 + x10)) x4) then (if (Int.tmod (wrap64 (x8 + x10)) x4) < (x3.length : Int) then ((spec_l01Kind.f (rd x3 (Int.tmod (wrap64 (x8 + x10)) x4))).bind fun t113 => (if 0 ≤ (Int.tmod x8 x4) then (if (Int.tmod x8 x4) < (x3.length : Int) then ((spec_l01Kind.f (rd x3 (Int.tmod x8 x4))).bind fun t115 => (if t113 = t115 then (spec_l01Runs.l2 k x3 x4 x7 x8 x9 (wrap64 (x10 + 1))) else ((spec_l01Kind.f (rd x3 (Int.tmod x8 x4))).bind fun t117 => (if x7.length < 23456248059221 then (spec_l01Runs.l1 k x3 x4 (x7 ++ [(⟨t117, IntKind.i16.wrap (Int.tmod x8 x4), IntKind.i16.wrap (x10)⟩ : S76)]) (wrap64 (x8 + x10)) (wrap64 (x9 - x10))) else (none))))) else (none)) else (none))) else (none)) else (none))) else (if x4 = 0 then (none) else (if 0 ≤ (Int.tmod x8 x4) then (if (Int.tmod x8 x4) < (x3.length : Int) then ((spec_l01Kind.f (rd x3 (Int.tmod x8 x4))).bind fun t122 => (if x7.length < 23456248059221 then (spec_l01Runs.l1 k x3 x4 (x7 ++ [(⟨t122, IntKind.i16.wrap (Int.tmod x8 x4), IntKind.i16.wrap (x10)⟩ : S76)]) (wrap64 (x8 + x10)) (wrap64 (x9 - x10))) else (none))) else (none)) else (none)))
def spec_l01Runs.l0 : Nat → List Int → Int → Int → Int → Option ((List (S76)))
  | 0, _, _, _, _ => none
  | k + 1, x3, x4, x5, x6 => if x6 < (wrap64 (x4 - 1)) then (if x4 = 0 then (none) else (if 0 ≤ (Int.tmod (wrap64 ((wrap64 (x4 - 1)) - x6)) x4) then (if (Int.tmod (wrap64 ((wrap64 (x4 - 1)) - x6)) x4) < (x3.length : Int) then ((spec_l01Kind.f (rd x3 (Int.tmod (wrap64 ((wrap64 (x4 - 1)) - x6)) x4))).bind fun t105 => (if 0 < (x3.length : Int) then ((spec_l01Kind.f (rd x3 0)).bind fun t107 => (if t105 = t107 then (spec_l01Runs.l0 k x3 x4 (wrap64 ((wrap64 (x4 - 1)) - x6)) (wrap64 (x6 + 1))) else (spec_l01Runs.j1 k x3 x4 x5))) else (none))) else (none)) else (none))) else (spec_l01Runs.j1 k x3 x4 x5)
end
def spec_l01Runs.f (k : Nat) (l0 : List Int) : Option ((List (S76))) := (spec_l01Changes.f k l0).bind fun t101 => (spec_l01Runs.l0 k t101 (t101.length : Int) 0 0)
theorem spec_l01Runs.mono_l : ∀ k, (∀ y0 y1 y2, LeO (spec_l01Runs.j1 k y0 y1 y2) (spec_l01Runs.j1 (k + 1) y0 y1 y2)) ∧ (∀ y0 y1 y2 y3 y4, LeO (spec_l01Runs.l1 k y0 y1 y2 y3 y4) (spec_l01Runs.l1 (k + 1) y0 y1 y2 y3 y4)) ∧ (∀ y0 y1 y2 y3 y4 y5, LeO (spec_l01Runs.l2 k y0 y1 y2 y3 y4 y5) (spec_l01Runs.l2 (k + 1) y0 y1 y2 y3 y4 y5)) ∧ (∀ y0 y1 y2 y3, LeO (spec_l01Runs.l0 k y0 y1 y2 y3) (spec_l01Runs.l0 (k + 1) y0 y1 y2 y3))
  | 0 => ⟨fun _ _ _ r h => by simp [spec_l01Runs.j1] at h, fun _ _ _ _ _ r h => by simp [spec_l01Runs.l1] at h, fun _ _ _ _ _ _ r h => by simp [spec_l01Runs.l2] at h, fun _ _ _ _ r h => by simp [spec_l01Runs.l0] at h⟩
  | k + 1 => by
    obtain ⟨ih0, ih1, ih2, ih3⟩ := spec_l01Runs.mono_l k
    refine ⟨?_, ?_, ?_, ?_⟩
    · intro y0 y1 y2
      unfold spec_l01Runs.j1
      repeat' first
      | (with_reducible exact ih0 _ _ _)
      | (with_reducible exact ih1 _ _ _ _ _)
      | (with_reducible exact ih2 _ _ _ _ _ _)
      | (with_reducible exact ih3 _ _ _ _)
      | (with_reducible exact spec_l01Changes.mono _ _)
      | (with_reducible exact LeO.refl _)
      | (with_reducible exact LeO.none _)
      | (with_reducible refine LeO.ite ?_ ?_)
      | (with_reducible refine LeO.bind ?_ (fun _ => ?_))
      | exact ih0 _ _ _
      | exact ih1 _ _ _ _ _
      | exact ih2 _ _ _ _ _ _
      | exact ih3 _ _ _ _
      | exact spec_l01Changes.mono _ _
      | exact LeO.none _
      | refine LeO.ite ?_ ?_
      | refine LeO.bind ?_ (fun _ => ?_)
    · intro y0 y1 y2 y3 y4
      unfold spec_l01Runs.l1
      repeat' first
      | (with_reducible exact ih0 _ _ _)
      | (with_reducible exact ih1 _ _ _ _ _)
      | (with_reducible exact ih2 _ _ _ _ _ _)
      | (with_reducible exact ih3 _ _ _ _)
      | (with_reducible exact spec_l01Changes.mono _ _)
      | (with_reducible exact LeO.refl _)
      | (with_reducible exact LeO.none _)
      | (with_reducible refine LeO.ite ?_ ?_)
      | (with_reducible refine LeO.bind ?_ (fun _ => ?_))
      | exact ih0 _ _ _
      | exact ih1 _ _ _ _ _
      | exact ih2 _ _ _ _ _ _
      | exact ih3 _ _ _ _
      | exact spec_l01Changes.mono _ _
      | exact LeO.none _
      | refine LeO.ite ?_ ?_
      | refine LeO.bind ?_ (fun _ => ?_)
    · intro y0 y1 y2 y3 y4 y5
      unfold spec_l01Runs.l2
      repeat' first
      | (with_reducible exact ih0 _ _ _)
      | (with_reducible exact ih1 _ _ _ _ _)
      | (with_reducible exact ih2 _ _ _ _ _ _)
      | (with_reducible exact ih3 _ _ _ _)
      | (with_reducible exact spec_l01Changes.mono _ _)
      | (with_reducible exact LeO.refl _)
      | (with_reducible exact LeO.none _)
      | (with_reducible refine LeO.ite ?_ ?_)
      | (with_reducible refine LeO.bind ?_ (fun _ => ?_))
      | exact ih0 _ _ _
      | exact ih1 _ _ _ _ _
      | exact ih2 _ _ _ _ _ _
      | exact ih3 _ _ _ _
      | exact spec_l01Changes.mono _ _
      | exact LeO.none _
      | refine LeO.ite ?_ ?_
      | refine LeO.bind ?_ (fun _ => ?_)
    · intro y0 y1 y2 y3
      unfold spec_l01Runs.l0
      repeat' first
      | (with_reducible exact ih0 _ _ _)
      | (with_reducible exact ih1 _ _ _ _ _)
      | (with_reducible exact ih2 _ _ _ _ _ _)
      | (with_reducible exact ih3 _ _ _ _)
      | (with_reducible exact spec_l01Changes.mono _ _)
      | (with_reducible exact LeO.refl _)
      | (with_reducible exact LeO.none _)
      | (with_reducible refine LeO.ite ?_ ?_)
      | (with_reducible refine LeO.bind ?_ (fun _ => ?_))
      | exact ih0 _ _ _
      | exact ih1 _ _ _ _ _
      | exact ih2 _ _ _ _ _ _
      | exact ih3 _ _ _ _
      | exact spec_l01Changes.mono _ _
      | exact LeO.none _
      | refine LeO.ite ?_ ?_
      | refine LeO.bind ?_ (fun _ => ?_)
theorem spec_l01Runs.mono : ∀ a0 k, LeO (spec_l01Runs.f k a0) (spec_l01Runs.f (k + 1) a0) := by
  intro a0 k
  obtain ⟨ih0, ih1, ih2, ih3⟩ := spec_l01Runs.mono_l k
  unfold spec_l01Runs.f
  repeat' first
      | (with_reducible exact ih0 _ _ _)
      | (with_reducible exact ih1 _ _ _ _ _)
      | (with_reducible exact ih2 _ _ _ _ _ _)
      | (with_reducible exact ih3 _ _ _ _)
      | (with_reducible exact spec_l01Changes.mono _ _)
      | (with_reducible exact LeO.refl _)
      | (with_reducible exact LeO.none _)
      | (with_reducible refine LeO.ite ?_ ?_)
      | (with_reducible refine LeO.bind ?_ (fun _ => ?_))
      | exact ih0 _ _ _
      | exact ih1 _ _ _ _ _
      | exact ih2 _ _ _ _ _ _
      | exact ih3 _ _ _ _
      | exact spec_l01Changes.mono _ _
      | exact LeO.none _
      | refine LeO.ite ?_ ?_
      | refine LeO.bind ?_ (fun _ => ?_)
def spec_l01Runs.T5 : Bool × List (List Nat × List Nat) := (true, [([], []), ([], []), ([1], [1]), ([0, 2], [0, 2]), ([3], [3]), ([4], [4]), ([4], [4]), ([6, 4], [4, 6]), ([4], [4]), ([7, 8, 4], [4, 7, 8]), ([4], [4]), ([9, 10, 4], [4, 9, 10]), ([5, 11, 4], [4, 5, 11]), ([12, 4], [4, 12]), ([13, 4, 4], [4, 13]), ([4], [4]), ([15, 4], [4, 15]), ([16, 4], [4, 16]), ([17, 14, 4], [4, 17]), ([14, 18, 4], [4, 14, 18]), ([4, 19], [4, 19])])
def spec_l01Runs.B5 : List Nat := [0, 0, 2, 7, 15, 31, 31, 95, 31, 479, 31, 2015, 4095, 8191, 16383, 31, 32799, 98335, 262143, 524287, 1048575]
theorem spec_l01Runs.tab5 : rtab .any (opsOf Try.f168 5) = spec_l01Runs.T5 := by kernel_rfl
theorem spec_l01Runs.bits5 : waitsOk spec_l01Runs.T5.2 spec_l01Runs.B5 = true := by kernel_rfl
def spec_l01Runs.T13 : Bool × List (List Nat × List Nat) := (true, [([], []), ([], []), ([0, 1], [0, 1]), ([2], [2]), ([3], [3]), ([3], [3]), ([3], [3]), ([5, 6, 3], [3, 5, 6]), ([3], [3]), ([7, 8, 3], [3, 7, 8]), ([4, 9, 3], [3, 4, 9]), ([10, 3], [3, 10]), ([11, 3, 3], [3, 11]), ([3], [3]), ([3], [3]), ([3], [3]), ([14, 15, 3], [3, 14, 15]), ([13, 16, 3], [3, 13, 16]), ([17, 3], [3, 17]), ([18, 12, 3], [3, 18]), ([12, 19, 3], [3, 12, 19]), ([3, 20], [3, 20])])
def spec_l01Runs.B13 : List Nat := [0, 0, 3, 7, 15, 15, 15, 111, 15, 495, 1023, 2047, 4095, 15, 15, 15, 49167, 122895, 253967, 524287, 1048575, 2097151]
theorem spec_l01Runs.tab13 : rtab .any (opsOf Try.f168 13) = spec_l01Runs.T13 := by kernel_rfl
theorem spec_l01Runs.bits13 : waitsOk spec_l01Runs.T13.2 spec_l01Runs.B13 = true := by kernel_rfl
def spec_l01Runs.T15 : Bool × List (List Nat × List Nat) := (true, [([], []), ([], []), ([], []), ([], []), ([2, 3], [2, 3]), ([1, 4], [1, 4]), ([5], [5]), ([6], [6]), ([], []), ([], []), ([8, 9], [8, 9]), ([10], [10]), ([], []), ([12], [12]), ([7, 11, 13], [7, 11, 13]), ([14], [14]), ([0, 15, 7], [0, 15]), ([16, 16, 0, 1, 2, 3, 4, 5, 6, 7, 8, 9, 10, 11, 12, 13, 14, 15, 16], [0, 16])])
def spec_l01Runs.B15 : List Nat := [0, 0, 0, 0, 12, 30, 62, 126, 0, 0, 768, 1792, 0, 4096, 16382, 32766, 65535, 131071]
theorem spec_l01Runs.tab15 : rtab .any (opsOf Try.f168 15) = spec_l01Runs.T15 := by kernel_rfl
theorem spec_l01Runs.bits15 : waitsOk spec_l01Runs.T15.2 spec_l01Runs.B15 = true := by kernel_rfl
end Go.Proofs.Ytpjibhedpieafaa.H
namespace Go.Proofs.Ytpjibhedpieafaa.H
open Go.RowKit Go.Proofs.YtpjibhedpieafaaW.PrintWords Go.Proofs.YtpjibhedpieafaaW.PrintLast Go.Proofs.YtpjibhedpieafaaW.PrintMore
attribute [local go_sem] max2_int min2_int max_two min_two max_three min_three max_four min_four   -- for this text's walks alone
set_option linter.unusedVariables false
set_option linter.unusedSimpArgs false
def spec_RunsOf.f (k : Nat) (l0 : List Int) : Option ((List (S76)) × Int) := (spec_l01Ok.f k l0).bind fun t101 => (if t101 = true then ((spec_l01Runs.f k l0).bind fun t102 => (some (t102, 0))) else (some ((([] : List (S76))), 1)))
theorem spec_RunsOf.mono : ∀ a0 k, LeO (spec_RunsOf.f k a0) (spec_RunsOf.f (k + 1) a0) := by
  intro a0 k
  unfold spec_RunsOf.f
  repeat' first
      | (with_reducible exact spec_l01Ok.mono _ _)
      | (with_reducible exact spec_l01Runs.mono _ _)
      | (with_reducible exact LeO.refl _)
      | (with_reducible exact LeO.none _)
      | (with_reducible refine LeO.ite ?_ ?_)
      | (with_reducible refine LeO.bind ?_ (fun _ => ?_))
      | exact spec_l01Ok.mono _ _
      | exact spec_l01Runs.mono _ _
      | exact LeO.none _
      | refine LeO.ite ?_ ?_
      | refine LeO.bind ?_ (fun _ => ?_)
end Go.Proofs.Ytpjibhedpieafaa.H
namespace Go.Proofs.Ytpjibhedpieafaa.H
open Go.RowKit Go.Proofs.YtpjibhedpieafaaW.PrintWords Go.Proofs.YtpjibhedpieafaaW.PrintLast Go.Proofs.YtpjibhedpieafaaW.PrintMore
attribute [local go_sem] max2_int min2_int max_two min_two max_three min_three max_four min_four   -- for this text's walks alone
set_option linter.unusedVariables false
set_option linter.unusedSimpArgs false
def spec_SameRuns.l0 : Nat → List (S76) → List (S76) → Int → Option (Bool)
  | 0, _, _, _ => none
  | k + 1, x0, x1, x5 => if x5 < (x0.length : Int) then (if 0 ≤ x5 then (if x5 < (x1.length : Int) then (if (!(((rd_T76 x0 x5).f0) == ((rd_T76 x1 x5).f0)) || (!(((rd_T76 x0 x5).f1) == ((rd_T76 x1 x5).f1)) || (!(((rd_T76 x0 x5).f2) == ((rd_T76 x1 x5).f2))))) = true then (some false) else (spec_SameRuns.l0 k x0 x1 (wrap64 (x5 + 1)))) else (none)) else (none)) else (some true)
def spec_SameRuns.f (k : Nat) (l0 : List (S76)) (l1 : List (S76)) : Option (Bool) := if (l0.length : Int) = (l1.length : Int) then (spec_SameRuns.l0 k l0 l1 0) else (some false)
theorem spec_SameRuns.mono_l : ∀ k, (∀ y0 y1 y2, LeO (spec_SameRuns.l0 k y0 y1 y2) (spec_SameRuns.l0 (k + 1) y0 y1 y2))
  | 0 => fun _ _ _ r h => by simp [spec_SameRuns.l0] at h
  | k + 1 => by
    have ih0 := spec_SameRuns.mono_l k
    · intro y0 y1 y2
      unfold spec_SameRuns.l0
      repeat' first
      | (with_reducible exact ih0 _ _ _)
      | (with_reducible exact LeO.refl _)
      | (with_reducible exact LeO.none _)
      | (with_reducible refine LeO.ite ?_ ?_)
      | (with_reducible refine LeO.bind ?_ (fun _ => ?_))
      | exact ih0 _ _ _
      | exact LeO.none _
      | refine LeO.ite ?_ ?_
      | refine LeO.bind ?_ (fun _ => ?_)
theorem spec_SameRuns.mono : ∀ a0 a1 k, LeO (spec_SameRuns.f k a0 a1) (spec_SameRuns.f (k + 1) a0 a1) := by
  intro a0 a1 k
  have ih0 := spec_SameRuns.mono_l k
  unfold spec_SameRuns.f
  repeat' first
      | (with_reducible exact ih0 _ _ _)
      | (with_reducible exact LeO.refl _)
      | (with_reducible exact LeO.none _)
      | (with_reducible refine LeO.ite ?_ ?_)
      | (with_reducible refine LeO.bind ?_ (fun _ => ?_))
      | exact ih0 _ _ _
      | exact LeO.none _
      | refine LeO.ite ?_ ?_
      | refine LeO.bind ?_ (fun _ => ?_)
end Go.Proofs.Ytpjibhedpieafaa.H
