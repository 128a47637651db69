/- What the law FnSlopes stands on, part 1 of 7: kinds, plain forms of functions, their walks, and plain laws. -/
import Derived.Test.YtpjibhedpieafaaProg
import Derived.Below
import Derived.Deep.Draws
import Derived.Deep.AppendLies
import Derived.Maps.AppendAt
import Derived.OwnWalk
import Derived.Laws.BytesArg
import Derived.Laws.MakeOwn
import Derived.Laws.OwnMore
import Derived.Deep.OwnRows
import Derived.Tactics
import Derived.Lib.ConvBytes
import Derived.Laws.Slices
import Derived.WalkKit
import Derived.KernelRfl
import Derived.RowKit3
import Derived.Deep.LoopGhost
import Derived.Deep.QuietTactic
import Derived.BigQuiet
import Derived.WideLaws
import Derived.Deep.DeepCutAuto
import Derived.Deep.CutBlock
import Derived.Deep.RegionHeld3
import Derived.Laws.Rows
import Derived.Lib.AppendStr
import Derived.ArgAppend
import Derived.Laws.IdiomCopy
import Derived.OrdersHeld
import Derived.Laws.BitsLemmas
import Derived.RowKit
import Derived.WalkSpells
import Derived.Test.YtpjibhedpieafaaMFnSlopesWWords
import Derived.Test.YtpjibhedpieafaaMFnSlopesWLast
import Derived.Test.YtpjibhedpieafaaMFnSlopesWTab
import Derived.Test.YtpjibhedpieafaaMFnSlopesWApart
import Derived.Test.YtpjibhedpieafaaMFnSlopesWFoot
import Derived.Test.YtpjibhedpieafaaMFnSlopesWKept
import Derived.Test.YtpjibhedpieafaaMFnSlopesWShare
import Derived.Test.YtpjibhedpieafaaMFnSlopesWN
import Derived.Test.YtpjibhedpieafaaMFnSlopesWEqStruct
import Derived.Test.YtpjibhedpieafaaMFnSlopesWRepsOne
import Derived.Test.YtpjibhedpieafaaMFnSlopesWInv
import Derived.Test.YtpjibhedpieafaaMFnSlopesWGuard
import Derived.Test.YtpjibhedpieafaaMFnSlopesWMore
import Derived.Test.YtpjibhedpieafaaMFnSlopesWSized
set_option linter.unusedVariables false
set_option linter.unusedSimpArgs false
namespace Go.Proofs.Ytpjibhedpieafaa.H
open Go.RowKit Go.Proofs.YtpjibhedpieafaaW.PrintWords Go.Proofs.YtpjibhedpieafaaW.PrintLast Go.Proofs.YtpjibhedpieafaaW.PrintMore
/-- A function value, called. -/
def CallsV (P : Program) (fv : Value) (args : Array Value) (w : World) (R : Ending → World → Prop) : Prop :=
  ∃ f fn first cap, fv = .func (.func f) first cap ∧ P.funcs[f]? = some fn ∧ (fn.name == "runtime.NumGoroutine") = false ∧ fn.body.isSome = true ∧ Calls P f (first ++ args ++ cap) w R
theorem CallsV.mono {P : Program} {fv : Value} {args : Array Value} {w : World} {R R' : Ending → World → Prop} (h : CallsV P fv args w R) (hr : ∀ e w', R e w' → R' e w') : CallsV P fv args w R' := by
  obtain ⟨f, fn, first, cap, e, h1, h2, h3, h4⟩ := h
  exact ⟨f, fn, first, cap, e, h1, h2, h3, h4.mono hr⟩
/-- A call of a function that has no first and no captured arguments, as a function value's. -/
theorem CallsV.of {P : Program} {f : FuncId} {fn : Func} {first cap args all : Array Value} {w : World} {R : Ending → World → Prop} (hf : P.funcs[f]? = some fn) (hn : (fn.name == "runtime.NumGoroutine") = false) (hb : fn.body.isSome = true) (ha : first ++ args ++ cap = all) (h : Calls P f all w R) : CallsV P (.func (.func f) first cap) args w R :=
  ⟨f, fn, first, cap, rfl, hf, hn, hb, ha ▸ h⟩
theorem goesV_ {P : Program} {ops : Array Oper} {Q : Exit → Act → World → Prop} {rest : List Oper} {oi : Oper} {a : Act} {w : World} (N : Option Tmp) (hd : oi.dst = N) (hg : oi.guard = none) {fo : Operand} {cas : Array Operand} {ts : Array TypeId} (args : Array Value)
    (hop : oi.op = .call { callee := .value fo, args := cas, argTypes := ts }) (hargs : cas.map a.eval = args)
    (h : CallsV P (a.eval fo) args w fun e w' => ∃ v, e = .returned v ∧ wpList P ops Q rest (a.put N v) w') : wpList P ops Q (oi :: rest) a w := by
  refine wpList_plain hg fun K hK => ?_
  obtain ⟨f, fn, first, cap, e, hf, hname, hb, h⟩ := h
  have he := enters_ hf hname hb (first ++ args ++ cap) w
  have hrun : (execOp a.eval oi).run P w = .ok (.enter f (first ++ args ++ cap)) w := by
    unfold execOp
    simp only [hop, resolve, e, Deferred.ofValue, hargs]
    simp only [pure_bind]
    rw [Array.append_assoc] at he
    simp [invoke, he]
  unfold Oper.wp
  rw [hrun, Oper.upon_enter]
  refine h.mono fun e w'' hh => ?_
  obtain ⟨v, rfl, hk⟩ := hh
  subst hd
  exact hK _ _ hk
theorem gate_calleeV {P : Program} {ops : Array Oper} {Q : Exit → Act → World → Prop} {rest : List Oper} {o : Oper} {a : Act} {W : World} {t : Tmp} {cas : Array Operand} {ts : Array TypeId} (_ho : o.op = .call { callee := .value (.tmp t), args := cas, argTypes := ts }) (h : wpList P ops Q (o :: rest) a W) : wpList P ops Q (o :: rest) a W := h
theorem ret_int {k : IntKind} {a b : Int} (h : a = b) : Ending.returned (.int k a) = .returned (.int k b) := by rw [h]
theorem ret_bool {a b : Bool} (h : a = b) : Ending.returned (.bool a) = .returned (.bool b) := by rw [h]
theorem rd_get (l : List Int) (i : Nat) (h : i < l.length) : rd l i = l[i] := by simp [rd, List.getD, h]
theorem wrap64_id {x : Int} (h1 : -9223372036854775808 ≤ x) (h2 : x ≤ 9223372036854775807) : wrap64 x = x := by unfold wrap64; omega
theorem i16_id {x : Int} (h1 : -32768 ≤ x) (h2 : x ≤ 32767) : IntKind.i16.wrap x = x := by
  unfold IntKind.wrap
  simp only [IntKind.bits, IntKind.signed, Bool.true_and, decide_eq_true_eq, show (2 : Int) ^ 16 = 65536 from rfl, show (2 : Int) ^ (16 - 1) = 32768 from rfl]
  split <;> omega
/-- A world, as a type. -/
structure Wt (W : World) : Type where
/-- W stands some plain steps behind W0. -/
structure Pl (W W0 : World) : Type where
  below : Below W0.heap.size W0 W
instance (priority := 10) peel0 (W : World) : HAdd (Wt W) Unit (Pl W W) := ⟨fun _ _ => ⟨Below.refl _ _⟩⟩
instance peel1 (W W0 : World) (o : Obj) [i : HAdd (Wt W) Unit (Pl W W0)] : HAdd (Wt (W.alloc o)) Unit (Pl (W.alloc o) W0) := ⟨fun _ _ => ⟨below_alloc (i.hAdd ⟨⟩ ()).below o⟩⟩
instance peel2 (W W0 : World) (n : Nat) [i : HAdd (Wt W) Unit (Pl W W0)] : HAdd (Wt (W.drewN n)) Unit (Pl (W.drewN n) W0) := ⟨fun _ _ => ⟨pw_below_drewN (i.hAdd ⟨⟩ ()).below n⟩⟩
instance peel3 (W W0 : World) [i : HAdd (Wt W) Unit (Pl W W0)] : HAdd (Wt W.drew) Unit (Pl W.drew W0) := ⟨fun _ _ => ⟨below_drew1 (i.hAdd ⟨⟩ ()).below⟩⟩
theorem blkP {W W0 : World} [i : HAdd (Wt W) Unit (Pl W W0)] {g : Nat} {o : Obj} (h : W0.heap[g]? = some o) : W.heap[g]? = some o := blk_below h (i.hAdd ⟨⟩ ()).below
theorem belowP {w W W0 : World} [i : HAdd (Wt W) Unit (Pl W W0)] (h : Below w.heap.size w W0) : Below w.heap.size w W := below_step h (i.hAdd ⟨⟩ ()).below
theorem RP {W W0 : World} [i : HAdd (Wt W) Unit (Pl W W0)] {α : Type} {d : Kd α} {e base : Nat} {ok : Nat → Prop} {v : Value} {xs : List α} (h : d.R e W0 base ok v xs) : d.R e W base ok v xs := Kd.R_below h (i.hAdd ⟨⟩ ()).below
theorem CP {W W0 : World} [i : HAdd (Wt W) Unit (Pl W W0)] {α : Type} {d : Kd α} {A : Option Addr} {n : Nat} {xs : List α} (h : d.C W0 A n xs) : d.C W A n xs := Kd.C_below h (i.hAdd ⟨⟩ ()).below
end Go.Proofs.Ytpjibhedpieafaa.H
namespace Go.Proofs.Ytpjibhedpieafaa.H
open Go.RowKit Go.Proofs.YtpjibhedpieafaaW.PrintWords Go.Proofs.YtpjibhedpieafaaW.PrintLast Go.Proofs.YtpjibhedpieafaaW.PrintMore
attribute [local go_sem] max2_int min2_int max_two min_two max_three min_three max_four min_four   -- for this text's walks alone
set_option linter.unusedVariables false
set_option linter.unusedSimpArgs false
def errW : Option Int → Value
  | none => .nilIface
  | some c => .iface 0 (.int .i64 c)
theorem errW_none : errW none = .nilIface := rfl
theorem errW_some (c : Int) : errW (some c) = .iface 0 (.int .i64 c) := rfl
theorem info2 : (Try.prog.info? 2).map (fun i => (i.zero, i.size, i.bytes)) = some (some (.int .i64 0), 1, 8) := by kernel_rfl
theorem info51 : (Try.prog.info? 51).map (fun i => (i.zero, i.size, i.bytes)) = some (some (.int .i16 0), 1, 2) := by kernel_rfl
theorem info225 : (Try.prog.info? 225).map (fun i => (i.zero, i.size, i.bytes)) = some (some (.agg #[(.int .i64 0), (.int .i64 0)]), 2, 16) := by kernel_rfl
theorem info238 : (Try.prog.info? 238).map (fun i => (i.zero, i.size, i.bytes)) = some (some (.agg #[(.int .i64 0), (.int .i64 0), (.bool false)]), 3, 24) := by kernel_rfl
-- the values' own types
structure S7 where
  f0 : Int
  f1 : Int
  f2 : Bool
  f3 : Int
def k7 : Kd S7 := Kd.iso (Kd.pair (Kd.int .i64) (Kd.pair (Kd.int .i64) (Kd.pair Kd.bool (Kd.int .u8)))) (fun x : S7 => (x.f0, x.f1, x.f2, x.f3))
structure S225 where
  f0 : Int
  f1 : Int
def z225 : S225 := ⟨(0 : Int), (0 : Int)⟩
def k225 : Kd S225 := Kd.iso (Kd.pair (Kd.int .i64) (Kd.int .i64)) (fun x : S225 => (x.f0, x.f1))
theorem k225_open {w : World} {x : S225} {cs : List Value} (h : k225.K w x cs) : cs = [.int .i64 x.f0, .int .i64 x.f1] := by
  obtain ⟨_, _, rfl, rfl, rfl⟩ := h
  exact rfl
theorem k225_mkM (w : World) (base : Nat) (ok : Nat → Prop) (x : S225)  : k225.M w base ok x [.int .i64 x.f0, .int .i64 x.f1] := ⟨[.int .i64 x.f0], [.int .i64 x.f1], rfl, rfl, rfl⟩
def rd_T225 (xs : List S225) (i : Int) : S225 := xs.getD i.toNat z225
theorem at_T225 {w : World} {A : Option Addr} {n : Nat} {xs : List S225} (h : Kd.C k225 w A n xs) (i : Int) (h0 : 0 ≤ i) (h1 : i < n) : ∃ ad , A = some ad ∧ w.cell? (ad.add (i.toNat * 2)) = some (.int .i64 (rd_T225 xs i).f0) ∧ w.cell? ⟨(ad.add (i.toNat * 2)).block, (ad.add (i.toNat * 2)).off + 1, none⟩ = some (.int .i64 (rd_T225 xs i).f1) := by
  obtain ⟨ad, c, e, _, hK, hc0⟩ := Kd.C_get h z225 i h0 h1
  have hc : ∀ j u, c[j]? = some u → w.cell? (ad.add (i.toNat * 2 + j)) = some u := hc0
  obtain rfl := k225_open hK
  exact ⟨ad, e, hc 0 _ rfl, by rw [← add_field _ _ 1 (by omega)]; exact hc 1 _ rfl⟩
structure S238 where
  f0 : Int
  f1 : Int
  f2 : Bool
def z238 : S238 := ⟨(0 : Int), (0 : Int), false⟩
def k238 : Kd S238 := Kd.iso (Kd.pair (Kd.int .i64) (Kd.pair (Kd.int .i64) Kd.bool)) (fun x : S238 => (x.f0, x.f1, x.f2))
theorem k238_open {w : World} {x : S238} {cs : List Value} (h : k238.K w x cs) : cs = [.int .i64 x.f0, .int .i64 x.f1, .bool x.f2] := by
  obtain ⟨_, _, rfl, rfl, ⟨_, _, rfl, rfl, rfl⟩⟩ := h
  exact rfl
theorem k238_mkM (w : World) (base : Nat) (ok : Nat → Prop) (x : S238)  : k238.M w base ok x [.int .i64 x.f0, .int .i64 x.f1, .bool x.f2] := ⟨[.int .i64 x.f0], [.int .i64 x.f1, .bool x.f2], rfl, rfl, ⟨[.int .i64 x.f1], [.bool x.f2], rfl, rfl, rfl⟩⟩
def rd_T238 (xs : List S238) (i : Int) : S238 := xs.getD i.toNat z238
theorem at_T238 {w : World} {A : Option Addr} {n : Nat} {xs : List S238} (h : Kd.C k238 w A n xs) (i : Int) (h0 : 0 ≤ i) (h1 : i < n) : ∃ ad , A = some ad ∧ w.cell? (ad.add (i.toNat * 3)) = some (.int .i64 (rd_T238 xs i).f0) ∧ w.cell? ⟨(ad.add (i.toNat * 3)).block, (ad.add (i.toNat * 3)).off + 1, none⟩ = some (.int .i64 (rd_T238 xs i).f1) ∧ w.cell? ⟨(ad.add (i.toNat * 3)).block, (ad.add (i.toNat * 3)).off + 2, none⟩ = some (.bool (rd_T238 xs i).f2) := by
  obtain ⟨ad, c, e, _, hK, hc0⟩ := Kd.C_get h z238 i h0 h1
  have hc : ∀ j u, c[j]? = some u → w.cell? (ad.add (i.toNat * 3 + j)) = some u := hc0
  obtain rfl := k238_open hK
  exact ⟨ad, e, hc 0 _ rfl, by rw [← add_field _ _ 1 (by omega)]; exact hc 1 _ rfl, by rw [← add_field _ _ 2 (by omega)]; exact hc 2 _ rfl⟩
theorem eqA93 (d : Nat) (w : World) (x0 y0 : Int) (x1 y1 : Int) :
    (Op.equalIn (d + 2) 93 (.agg #[.int .i64 x0, .int .i64 x1]) (.agg #[.int .i64 y0, .int .i64 y1])).run Try.prog w = .ok (x0 == y0 && (x1 == y1)) w := by
  refine eqA_of Try.underlying93 (by kernel_rfl) ?_
  refine eqf_cons (by rfl) (by go_simp; rfl) (by go_simp; rfl) (by go_simp) ?_
  exact eqf_last (by rfl) (by go_simp; rfl) (by go_simp; rfl) (by go_simp)
def impl_abs.f (a0 : Int) : Option (Int) := some (mx a0 (wrap64 (-a0)))
def impl_compareSlopes.f (a0_0 : Int) (a0_1 : Int) (a1_0 : Int) (a1_1 : Int) : Option (Int) := (impl_abs.f a0_0).bind fun t103 => ((impl_abs.f a1_0).bind fun t104 => (if (wrap64 (t103 * a1_1)) < (wrap64 (t104 * a0_1)) then (some (-1)) else (if (wrap64 (t103 * a1_1)) > (wrap64 (t104 * a0_1)) then (some 1) else (some 0))))
def impl_compareSlopes.T1 : Bool × List (List Nat × List Nat) := (true, [([], []), ([0], [0]), ([1], [1]), ([], []), ([3], [3]), ([2, 4], [2, 4]), ([], []), ([6], [6]), ([7, 2], [7]), ([], []), ([9], [9]), ([8, 10], [8, 10]), ([5, 8, 0, 1, 2, 3, 4, 5], [5]), ([11, 12, 0, 1, 2, 3, 4, 5, 6, 7, 8, 9, 10, 11, 12], [11])])
def impl_compareSlopes.B1 : List Nat := [0, 1, 3, 0, 8, 31, 0, 64, 199, 0, 512, 1991, 511, 8191]
theorem impl_compareSlopes.tab1 : rtab .any (opsOf Try.f183 1) = impl_compareSlopes.T1 := by kernel_rfl
theorem impl_compareSlopes.bits1 : waitsOk impl_compareSlopes.T1.2 impl_compareSlopes.B1 = true := by kernel_rfl
def impl_inRange.f (a0 : Int) (a1 : Int) (a2 : Int) : Option (Bool) := if a1 ≤ a0 then (some (decide (a0 ≤ a2))) else (some false)
def impl_isSlope.f (a0_0 : Int) (a0_1 : Int) : Option (Bool) := (impl_inRange.f a0_1 1 1000000000).bind fun t102 => (if t102 = true then ((impl_inRange.f a0_0 (-1000000000) 1000000000).bind fun t103 => (some t103)) else (some false))
def impl_CompareSlopes.f (a0_0 : Int) (a0_1 : Int) (a1_0 : Int) (a1_1 : Int) : Option (Int × Int) := (impl_isSlope.f a0_0 a0_1).bind fun t103 => (if t103 = true then ((impl_isSlope.f a1_0 a1_1).bind fun t104 => (if t104 = true then ((impl_compareSlopes.f a0_0 a0_1 a1_0 a1_1).bind fun t105 => (some (t105, 0))) else (some (0, 1)))) else (some (0, 1)))
end Go.Proofs.Ytpjibhedpieafaa.H
namespace Go.Proofs.Ytpjibhedpieafaa.M
/-- The lift at a step that may be any number. -/
def at_ (l : List Int) (i : Int) : Int := l.getD (i % (l.length : Int)).toNat 0
abbrev I16 (l : List Int) : Prop := ∀ x ∈ l, -32768 ≤ x ∧ x ≤ 32767
def isLiftB (x : Int) : Bool := decide (0 ≤ x) && decide (x ≤ 10000)
def isStepsB (n : Int) : Bool := decide (8 ≤ n) && decide (n ≤ 360)
def validB (l : List Int) : Bool := isStepsB l.length && !(l.any fun x => !isLiftB x)
/-- A valid cam. -/
structure Ok (l : List Int) : Prop where
  lo : 8 ≤ l.length
  hi : l.length ≤ 360
  lift : ∀ x ∈ l, 0 ≤ x ∧ x ≤ 10000
theorem validB_iff (l : List Int) : validB l = true ↔ Ok l := by
  unfold validB isStepsB isLiftB
  simp only [Bool.and_eq_true, decide_eq_true_eq, Bool.not_eq_true', List.any_eq_false, Bool.not_eq_true, Bool.not_eq_false', Bool.and_eq_true, decide_eq_true_eq]
  constructor
  · rintro ⟨⟨h1, h2⟩, h3⟩; exact ⟨by omega, by omega, fun x hx => by simpa using h3 x hx⟩
  · rintro ⟨h1, h2, h3⟩; exact ⟨⟨by omega, by omega⟩, fun x hx => by simpa using h3 x hx⟩
theorem Ok.i16 {l : List Int} (h : Ok l) : I16 l := fun x hx => by have := h.lift x hx; omega
theorem Ok.pos {l : List Int} (h : Ok l) : 0 < l.length := by have := h.lo; omega
theorem at_mem {l : List Int} (h : 0 < l.length) (i : Int) : at_ l i ∈ l := by
  unfold at_
  have h1 : 0 ≤ i % (l.length : Int) := Int.emod_nonneg _ (by omega)
  have h2 : i % (l.length : Int) < l.length := Int.emod_lt_of_pos _ (by omega)
  rw [List.getD_eq_getElem?_getD, List.getElem?_eq_getElem (by omega)]
  exact List.getElem_mem _
theorem at_nat {l : List Int} {i : Nat} (h : i < l.length) : at_ l i = l[i] := by
  unfold at_
  have : (i : Int) % (l.length : Int) = i := Int.emod_eq_of_lt (by omega) (by omega)
  rw [this]; simp [h]
theorem at_mod (l : List Int) (i : Int) : at_ l (i % l.length) = at_ l i := by unfold at_; rw [Int.emod_emod]
/-- What a function tells of the first n numbers. -/
def mapN (n : Nat) (g : Int → Int) : List Int := (List.range n).map fun i => g (i : Nat)
theorem mapN_succ (n : Nat) (g : Int → Int) : mapN (n + 1) g = mapN n g ++ [g n] := by simp [mapN, List.range_succ]
theorem mapN_length (n : Nat) (g : Int → Int) : (mapN n g).length = n := by simp [mapN]
attribute [local simp] mapN_length
theorem mapN_get (n : Nat) (g : Int → Int) (i : Nat) (h : i < (mapN n g).length) : (mapN n g)[i] = g i := by simp [mapN]
theorem mem_mapN {n : Nat} {g : Int → Int} {x : Int} : x ∈ mapN n g ↔ ∃ i : Nat, i < n ∧ g i = x := by simp [mapN]
theorem mapN_congr {n : Nat} {g h : Int → Int} (e : ∀ i : Nat, i < n → g i = h i) : mapN n g = mapN n h := by
  unfold mapN; exact List.map_congr_left fun i hi => e i (List.mem_range.mp hi)
theorem mapN_at (l : List Int) : mapN l.length (at_ l) = l := by
  apply List.ext_getElem (by simp)
  intro i h1 h2
  rw [mapN_get]; exact at_nat h2
theorem eq_of_at {a b : List Int} (h : a.length = b.length) (e : ∀ i : Nat, i < a.length → at_ a i = at_ b i) : a = b := by
  rw [← mapN_at a, ← mapN_at b, h]; exact mapN_congr fun i hi => e i (by omega)
/-- Go's quotient rounded down. -/
theorem floor_tdiv {a b : Int} (hb : 0 < b) : a.tdiv b - (if a.tmod b < 0 then 1 else 0) = a / b := by
  rw [Int.tdiv_eq_ediv, Int.tmod_eq_emod]
  have h1 := Int.emod_nonneg a (show b ≠ 0 by omega)
  have h2 := Int.emod_lt_of_pos a hb
  have hn : (b.natAbs : Int) = b := by omega
  by_cases h : 0 ≤ a ∨ b ∣ a
  · simp only [if_pos h]; split <;> omega
  · simp only [if_neg h, Int.sign_eq_one_of_pos hb]; split <;> omega
abbrev changeAt (l : List Int) (i : Int) : Int := at_ l (i + 1) - at_ l i
theorem foldl_max_ge (xs : List Int) (m : Int) : m ≤ xs.foldl max m ∧ ∀ x ∈ xs, x ≤ xs.foldl max m := by
  induction xs generalizing m with
  | nil => simp
  | cons y ys ih => 
    have h := ih (max m y)
    simp only [List.foldl_cons]
    refine ⟨by omega, fun x hx => ?_⟩
    rcases List.mem_cons.mp hx with rfl | hx
    · omega
    · exact h.2 x hx
theorem foldl_max_mem (xs : List Int) (m : Int) : xs.foldl max m = m ∨ xs.foldl max m ∈ xs := by
  induction xs generalizing m with
  | nil => simp
  | cons y ys ih =>
    simp only [List.foldl_cons, List.mem_cons]
    rcases ih (max m y) with h | h
    · rw [h]; by_cases c : y ≤ m
      · left; omega
      · right; left; omega
    · right; right; exact h
/-- The greatest of 1 and the opposites of some numbers. -/
def negMost (xs : List Int) : Int := xs.foldl (fun m x => max m (-x)) 1
theorem foldl_neg (xs : List Int) (m : Int) : xs.foldl (fun m x => max m (-x)) m = (xs.map fun x => -x).foldl max m := by rw [List.foldl_map]
theorem negMost_ge (xs : List Int) : 1 ≤ negMost xs ∧ ∀ x ∈ xs, -x ≤ negMost xs := by
  unfold negMost; rw [foldl_neg]
  have h := foldl_max_ge (xs.map fun x => -x) 1
  exact ⟨h.1, fun x hx => h.2 _ (List.mem_map_of_mem hx)⟩
theorem negMost_is (xs : List Int) : negMost xs = 1 ∨ ∃ x ∈ xs, negMost xs = -x := by
  unfold negMost; rw [foldl_neg]
  rcases foldl_max_mem (xs.map fun x => -x) 1 with h | h
  · exact .inl h
  · obtain ⟨x, hx, e⟩ := List.mem_map.mp h; exact .inr ⟨x, hx, e.symm⟩
end Go.Proofs.Ytpjibhedpieafaa.M
namespace Go.Proofs.Ytpjibhedpieafaa.H
open Go.RowKit Go.Proofs.YtpjibhedpieafaaW.PrintWords Go.Proofs.YtpjibhedpieafaaW.PrintLast Go.Proofs.YtpjibhedpieafaaW.PrintMore Go.Proofs.Ytpjibhedpieafaa.M
attribute [local go_sem] max2_int min2_int max_two min_two max_three min_three max_four min_four
/-- A slice that reads as a valid cam. -/
structure CamR (w : World) (A : Option Addr) (c : Nat) (l : List Int) : Prop where
  rd : Kd.C (Kd.int .i16) w A l.length l
  cap : l.length ≤ c
  ok : Ok l
theorem CamR.mv {w W : World} {A : Option Addr} {c : Nat} {l : List Int} (h : CamR w A c l) (hb : Below w.heap.size w W) : CamR W A c l := ⟨Kd.C_below h.rd hb, h.cap, h.ok⟩
theorem CamR.drewN {w : World} {A : Option Addr} {c : Nat} {l : List Int} (h : CamR w A c l) (n : Nat) : CamR (w.drewN n) A c l := ⟨Kd.C_drewN h.rd n, h.cap, h.ok⟩
theorem CamR.alloc {w : World} {A : Option Addr} {c : Nat} {l : List Int} (h : CamR w A c l) (o : Obj) : CamR (w.alloc o) A c l := h.mv (below_alloc (Below.refl _ _) o)
set_option maxHeartbeats 1000000 in
set_option maxRecDepth 100000 in
theorem impl_ValidCam1_c (x : Int) (w : World) (hx : -32768 ≤ x ∧ x ≤ 32767) : Calls Try.prog 217 #[.int .i16 x] w fun e w' => e = .returned (.bool (!isLiftB x)) ∧ Drawn0 w w' := by
  go_enter Try.func217, Try.ntmps217
  go_wp2
  all_goals go_ret
  all_goals exact ⟨ret_bool (by simp [isLiftB]; omega), (by first | exact Drawn0.refl _ | exact ⟨⟨_, rfl⟩⟩ | exact ⟨⟨_, World.drewN_drewN _ _ _⟩⟩ | (refine ⟨⟨_, ?_⟩⟩; simp only [World.drewN_drewN]; rfl))⟩
/-- The first place at which a function says yes, or -1. -/
def idxOf {α : Type} (g : α → Bool) (l : List α) : Int := match l.findIdx? g with | some i => (i : Int) | none => -1
theorem idxOf_none {α : Type} {g : α → Bool} {l : List α} (h : ∀ x ∈ l, g x = false) : idxOf g l = -1 := by
  unfold idxOf; rw [List.findIdx?_eq_none_iff.mpr (by simpa using h)]
theorem idxOf_some {α : Type} {g : α → Bool} {l : List α} {i : Nat} (hi : i < l.length) (h : ∀ x ∈ l.take i, g x = false) (hg : g l[i] = true) : idxOf g l = i := by
  unfold idxOf
  have : l.findIdx? g = some i := by
    rw [List.findIdx?_eq_some_iff_getElem]
    refine ⟨hi, hg, fun j hj => ?_⟩
    have := h l[j] (by rw [List.mem_take_iff_getElem]; exact ⟨j, by omega, rfl⟩)
    simp [this]
  rw [this]
theorem idxOf_any {α : Type} (g : α → Bool) (l : List α) : decide (0 ≤ idxOf g l) = l.any g := by
  unfold idxOf
  cases h : l.findIdx? g with
  | none => rw [List.findIdx?_eq_none_iff] at h; simp; simpa using h
  | some i => 
    have := List.findIdx?_isSome (xs := l) (p := g)
    rw [h] at this; simpa using this
/-- slices.IndexFunc: the first place at which a function says yes, or -1. -/
theorem indexFunc_i16_c (fv : Value) (A : Option Addr) (c : Nat) (l : List Int) (g : Int → Bool) (w : World) (hr : Kd.C (Kd.int .i16) w A l.length l) (hn : l.length ≤ 140737488351232)
    (hg : ∀ (x : Int) (W : World), x ∈ l → Drawn0 w W → CallsV Try.prog fv #[.int .i16 x] W fun e W' => e = .returned (.bool (g x)) ∧ Drawn0 W W') :
    Calls Try.prog 252 #[.slice A l.length c, fv] w fun e w' => e = .returned (.int .i64 (idxOf g l)) ∧ Drawn0 w w' := by
  have HR := Aside0.mk hr
  have HG := Aside0.mk hg
  clear hr hg
  go_enter Try.func252, Try.ntmps252
  go_wp2
  go_loopg [8] l.length (fun d v8 w' => ∃ i : Nat, v8 = .int .i64 i ∧ Aside0 (i ≤ l.length) ∧ Aside0 (d = l.length - i) ∧ Aside0 (∀ x ∈ l.take i, g x = false) ∧ Aside0 (Drawn0 w w'))
  case atStart => exact ⟨0, rfl, ⟨by omega⟩, ⟨by omega⟩, ⟨by simp⟩, ⟨Drawn0.refl _⟩⟩
  case round =>
    obtain ⟨i, rfl, h1, h2, h3, h4⟩ := hrel
    obtain ⟨n, rfl⟩ := h4.out.out
    by_cases hi : i < l.length
    · have hb : decide (i < l.length) = true := decide_eq_true hi
      obtain ⟨ad, e, hx⟩ := Kd.at_int HR.out (i : Int) (by omega) (by omega)
      cases e
      have E := Aside0.mk (rd_get l i hi)
      have HI := Aside0.mk hi
      simp only [Int.toNat_natCast] at hx
      go_wp2_with ((with_reducible refine gate_calleeV (t := 11) rfl ?_); refine goesV_ (some 16) rfl rfl #[.int .i16 (rd l i)] rfl (by simp only [List.map_toArray, List.map_cons, List.map_nil]; rfl) ?_; refine (HG.out (rd l i) _ (by rw [E.out]; exact List.getElem_mem _) ⟨⟨_, rfl⟩⟩).mono ?_; rintro e w' ⟨rfl, ⟨nd, rfl⟩⟩; refine ⟨_, rfl, ?_⟩)
      · have hg : g (rd l i) = true := by assumption
        go_ret
        exact ⟨ret_int (idxOf_some HI.out h3.out (by rw [← E.out]; exact hg)).symm, (by first | exact Drawn0.refl _ | exact ⟨⟨_, rfl⟩⟩ | exact ⟨⟨_, World.drewN_drewN _ _ _⟩⟩ | (refine ⟨⟨_, ?_⟩⟩; simp only [World.drewN_drewN]; rfl))⟩
      · have hg : g (rd l i) = false := by assumption
        go_roundg (l.length - (i + 1))
        case measure => have := h2.out; have := HI.out; omega
        case rel => exact ⟨i + 1, by simp, ⟨by have := HI.out; omega⟩, ⟨rfl⟩, ⟨by intro x hx; rw [List.take_succ_eq_append_getElem HI.out] at hx; rcases List.mem_append.mp hx with h | h; exact h3.out x h; rw [List.mem_singleton.mp h, ← E.out]; exact hg⟩, (by first | exact Drawn0.refl _ | exact ⟨⟨_, rfl⟩⟩ | exact ⟨⟨_, World.drewN_drewN _ _ _⟩⟩ | (refine ⟨⟨_, ?_⟩⟩; simp only [World.drewN_drewN]; rfl))⟩
    · have hge : l.length ≤ i := by omega
      go_wp2
      go_ret
      refine ⟨ret_int (idxOf_none ?_).symm, h4.out⟩
      intro x hx
      exact h3.out x (by rwa [List.take_of_length_le hge])
theorem containsFunc_i16_c (fv : Value) (A : Option Addr) (c : Nat) (l : List Int) (g : Int → Bool) (w : World) (hr : Kd.C (Kd.int .i16) w A l.length l) (hn : l.length ≤ 140737488351232)
    (hg : ∀ (x : Int) (W : World), x ∈ l → Drawn0 w W → CallsV Try.prog fv #[.int .i16 x] W fun e W' => e = .returned (.bool (g x)) ∧ Drawn0 W W') :
    Calls Try.prog 216 #[.slice A l.length c, fv] w fun e w' => e = .returned (.bool (l.any g)) ∧ Drawn0 w w' := by
  have HR := Aside0.mk hr
  have HG := Aside0.mk hg
  have HA := Aside0.mk (idxOf_any g l)
  clear hr hg
  go_enter Try.func216, Try.ntmps216
  go_wp2_with (go_at_call 252; (with_reducible refine (indexFunc_i16_c fv _ _ l g _ HR.out hn HG.out).mono ?_); rintro e_ w_ ⟨rfl, ⟨nd, rfl⟩⟩)
  go_ret
  exact ⟨ret_bool (by rw [← HA.out]), (by first | exact Drawn0.refl _ | exact ⟨⟨_, rfl⟩⟩ | exact ⟨⟨_, World.drewN_drewN _ _ _⟩⟩ | (refine ⟨⟨_, ?_⟩⟩; simp only [World.drewN_drewN]; rfl))⟩
set_option maxHeartbeats 1000000 in
set_option maxRecDepth 100000 in
theorem impl_ValidCam_c (A : Option Addr) (c : Nat) (l : List Int) (w : World) (hr : Kd.C (Kd.int .i16) w A l.length l) (h16 : I16 l) (hn : l.length ≤ 140737488351232) :
    Calls Try.prog 118 #[.slice A l.length c] w fun e w' => e = .returned (.bool (validB l)) ∧ Drawn0 w w' := by
  have HR := Aside0.mk hr
  have H16 := Aside0.mk h16
  clear hr h16
  go_enter Try.func118, Try.ntmps118
  go_wp2_with (first | (go_at_call 216; (with_reducible refine (containsFunc_i16_c _ _ _ l (fun x => !isLiftB x) _ (by repeat (first | exact HR.out | (with_reducible refine Kd.C_drewN ?_ _) | (with_reducible refine Kd.C_drew ?_) | (with_reducible refine Kd.C_alloc ?_ _))) hn (fun x W hx hd => CallsV.of Try.func217 rfl rfl rfl (impl_ValidCam1_c x W (H16.out x hx)))).mono ?_); rintro e_ w_ ⟨rfl, ⟨nd, rfl⟩⟩) | go_in)
  all_goals go_ret
  all_goals exact ⟨ret_bool (by unfold validB isStepsB; first | (rw [show decide (8 ≤ (l.length : Int)) = true from decide_eq_true (by omega), show decide ((l.length : Int) ≤ 360) = true from decide_eq_true (by omega)]; rfl) | (simp; omega)), (by first | exact Drawn0.refl _ | exact ⟨⟨_, rfl⟩⟩ | exact ⟨⟨_, World.drewN_drewN _ _ _⟩⟩ | (refine ⟨⟨_, ?_⟩⟩; simp only [World.drewN_drewN]; rfl))⟩
theorem info_i16 : (Try.prog.info? 51).map (fun i => (i.zero, i.size, i.bytes)) = some (some (.int .i16 0), 1, 2) := by kernel_rfl
end Go.Proofs.Ytpjibhedpieafaa.H
namespace Go.Proofs.Ytpjibhedpieafaa.H
open Go.RowKit Go.Proofs.YtpjibhedpieafaaW.PrintWords Go.Proofs.YtpjibhedpieafaaW.PrintLast Go.Proofs.YtpjibhedpieafaaW.PrintMore Go.Proofs.Ytpjibhedpieafaa.M
def i16B (l : List Int) : Bool := l.all fun x => decide (-32768 ≤ x) && decide (x ≤ 32767)
theorem i16B_iff {l : List Int} : i16B l = true ↔ I16 l := by unfold i16B I16; simp [List.all_eq_true]
theorem ok_i16B {l : List Int} (h : Ok l) : i16B l = true := i16B_iff.mpr h.i16
def impl_ValidCam.f (l0 : List Int) : Option Bool := if i16B l0 = true ∧ l0.length ≤ 140737488351232 then some (validB l0) else none
theorem impl_ValidCam.calls (A0 : Option Addr) (c0 : Nat) (l0 : List Int) (r : Bool) (w : World) (hr0 : Kd.C (Kd.int .i16) w A0 l0.length l0) (hc0 : l0.length ≤ c0) (h : impl_ValidCam.f l0 = some r) :
    Calls Try.prog 118 #[.slice A0 l0.length c0] w fun e w' => e = .returned (.bool r) ∧ Drawn0 w w' := by
  unfold impl_ValidCam.f at h
  split at h
  · rename_i hc
    obtain rfl := Option.some.inj h
    exact impl_ValidCam_c A0 c0 l0 w hr0 (i16B_iff.mp hc.1) hc.2
  · cases h
theorem ValidCam_some {l : List Int} (h : Ok l) : impl_ValidCam.f l = some true := by
  unfold impl_ValidCam.f
  rw [if_pos ⟨ok_i16B h, by have := h.hi; omega⟩, (validB_iff l).mpr h]
end Go.Proofs.Ytpjibhedpieafaa.H
namespace Go.Proofs.Ytpjibhedpieafaa.H
open Go.RowKit Go.Proofs.YtpjibhedpieafaaW.PrintWords Go.Proofs.YtpjibhedpieafaaW.PrintLast Go.Proofs.YtpjibhedpieafaaW.PrintMore
attribute [local go_sem] max2_int min2_int max_two min_two max_three min_three max_four min_four   -- for this text's walks alone
set_option linter.unusedVariables false
set_option linter.unusedSimpArgs false
def impl_Cam_steps.f (l0 : List Int) : Option (Int) := some (l0.length : Int)
def impl_floorDiv.f (a0 : Int) (a1 : Int) : Option (Int) := if a1 = 0 then (none) else (if (Int.tmod a0 a1) < 0 then (some (wrap64 ((wrap64 (Int.tdiv a0 a1)) - 1))) else (some (wrap64 (Int.tdiv a0 a1))))
def impl_mod.f (a0 : Int) (a1 : Int) : Option (Int) := (impl_floorDiv.f a0 a1).bind fun t101 => (some (wrap64 (a0 - (wrap64 (a1 * t101)))))
def impl_Cam_at.f (l0 : List Int) (a1 : Int) : Option (Int) := (impl_Cam_steps.f l0).bind fun t101 => ((impl_mod.f a1 t101).bind fun t102 => (if 0 ≤ t102 then (if t102 < (l0.length : Int) then (some (wrap64 (rd l0 t102))) else (none)) else (none)))
def impl_Cam_change.f (l0 : List Int) (a1 : Int) : Option (Int) := (impl_Cam_at.f l0 (wrap64 (a1 + 1))).bind fun t101 => ((impl_Cam_at.f l0 a1).bind fun t102 => (some (wrap64 (t101 - t102))))
end Go.Proofs.Ytpjibhedpieafaa.H
namespace Go.Proofs.Ytpjibhedpieafaa.H
open Go.RowKit Go.Proofs.YtpjibhedpieafaaW.PrintWords Go.Proofs.YtpjibhedpieafaaW.PrintLast Go.Proofs.YtpjibhedpieafaaW.PrintMore
attribute [local go_sem] max2_int min2_int max_two min_two max_three min_three max_four min_four   -- for this text's walks alone
set_option linter.unusedVariables false
set_option linter.unusedSimpArgs false
mutual
def impl_LeastBase.j0 : Nat → List Int → Bool → Int → Int → Option (Int × Int)
  | 0, _, _, _, _ => none
  | k + 1, x0, x9, x102000, x102001 => if x9 = true then (some (0, 1)) else (if x102000 ≤ 0 then (some (0, 2)) else ((impl_Cam_steps.f x0).bind fun t104 => (impl_LeastBase.l0 k x0 1 t104 0 x102000 x102001)))
def impl_LeastBase.l0 : Nat → List Int → Int → Int → Int → Int → Int → Option (Int × Int)
  | 0, _, _, _, _, _, _ => none
  | k + 1, x0, x6, x23, x24, x102000, x102001 => if x24 < x23 then ((impl_Cam_change.f x0 x24).bind fun t105 => ((impl_abs.f t105).bind fun t106 => ((impl_Cam_steps.f x0).bind fun t107 => ((impl_floorDiv.f (wrap64 ((wrap64 ((wrap64 ((wrap64 (-t106)) * t107)) * 7)) * x102001)) (wrap64 (44 * x102000))).bind fun t108 => ((impl_Cam_at.f x0 x24).bind fun t109 => (impl_LeastBase.l0 k x0 (mx x6 (wrap64 ((wrap64 (-t108)) - t109))) x23 (wrap64 (x24 + 1)) x102000 x102001)))))) else (if x6 > 20000 then (some (0, 6)) else (some (x6, 0)))
end
def impl_LeastBase.f (k : Nat) (l0 : List Int) (a1_0 : Int) (a1_1 : Int) : Option (Int × Int) := (impl_ValidCam.f l0).bind fun t102 => (if t102 = true then ((impl_isSlope.f a1_0 a1_1).bind fun t103 => (impl_LeastBase.j0 k l0 (!t103) a1_0 a1_1)) else (impl_LeastBase.j0 k l0 true a1_0 a1_1))
theorem impl_LeastBase.mono_l : ∀ k, (∀ y0 y1 y2 y3, LeO (impl_LeastBase.j0 k y0 y1 y2 y3) (impl_LeastBase.j0 (k + 1) y0 y1 y2 y3)) ∧ (∀ y0 y1 y2 y3 y4 y5, LeO (impl_LeastBase.l0 k y0 y1 y2 y3 y4 y5) (impl_LeastBase.l0 (k + 1) y0 y1 y2 y3 y4 y5))
  | 0 => ⟨fun _ _ _ _ r h => by simp [impl_LeastBase.j0] at h, fun _ _ _ _ _ _ r h => by simp [impl_LeastBase.l0] at h⟩
  | k + 1 => by
    obtain ⟨ih0, ih1⟩ := impl_LeastBase.mono_l k
    refine ⟨?_, ?_⟩
    · intro y0 y1 y2 y3
      unfold impl_LeastBase.j0
      repeat' first
      | (with_reducible exact ih0 _ _ _ _)
      | (with_reducible exact ih1 _ _ _ _ _ _)
      | (with_reducible exact LeO.refl _)
      | (with_reducible exact LeO.none _)
      | (with_reducible refine LeO.ite ?_ ?_)
      | (with_reducible refine LeO.bind ?_ (fun _ => ?_))
      | exact ih0 _ _ _ _
      | exact ih1 _ _ _ _ _ _
      | exact LeO.none _
      | refine LeO.ite ?_ ?_
      | refine LeO.bind ?_ (fun _ => ?_)
    · intro y0 y1 y2 y3 y4 y5
      unfold impl_LeastBase.l0
      repeat' first
      | (with_reducible exact ih0 _ _ _ _)
      | (with_reducible exact ih1 _ _ _ _ _ _)
      | (with_reducible exact LeO.refl _)
      | (with_reducible exact LeO.none _)
      | (with_reducible refine LeO.ite ?_ ?_)
      | (with_reducible refine LeO.bind ?_ (fun _ => ?_))
      | exact ih0 _ _ _ _
      | exact ih1 _ _ _ _ _ _
      | exact LeO.none _
      | refine LeO.ite ?_ ?_
      | refine LeO.bind ?_ (fun _ => ?_)
theorem impl_LeastBase.mono : ∀ a0 a1 a2 k, LeO (impl_LeastBase.f k a0 a1 a2) (impl_LeastBase.f (k + 1) a0 a1 a2) := by
  intro a0 a1 a2 k
  obtain ⟨ih0, ih1⟩ := impl_LeastBase.mono_l k
  unfold impl_LeastBase.f
  repeat' first
      | (with_reducible exact ih0 _ _ _ _)
      | (with_reducible exact ih1 _ _ _ _ _ _)
      | (with_reducible exact LeO.refl _)
      | (with_reducible exact LeO.none _)
      | (with_reducible refine LeO.ite ?_ ?_)
      | (with_reducible refine LeO.bind ?_ (fun _ => ?_))
      | exact ih0 _ _ _ _
      | exact ih1 _ _ _ _ _ _
      | exact LeO.none _
      | refine LeO.ite ?_ ?_
      | refine LeO.bind ?_ (fun _ => ?_)
def impl_LeastBase.T9 : Bool × List (List Nat × List Nat) := (true, [([], []), ([], []), ([0, 1], [0, 1]), ([2, 2], [2]), ([3], [3]), ([], []), ([5, 3], [5]), ([4, 6], [4, 6]), ([7], [7]), ([], []), ([9], [9]), ([8, 10], [8, 10]), ([], []), ([12], [12]), ([13], [13]), ([11, 14, 6], [11, 14]), ([15], [15]), ([16, 15, 0, 1, 2, 3, 4, 5, 6, 7, 8, 9, 10, 11, 12, 13, 14, 15, 16], [16])])
def impl_LeastBase.B9 : List Nat := [0, 0, 3, 7, 15, 0, 47, 127, 255, 0, 512, 2047, 0, 4096, 12288, 32767, 65535, 131071]
theorem impl_LeastBase.tab9 : rtab .any (opsOf Try.f78 9) = impl_LeastBase.T9 := by kernel_rfl
theorem impl_LeastBase.bits9 : waitsOk impl_LeastBase.T9.2 impl_LeastBase.B9 = true := by kernel_rfl
end Go.Proofs.Ytpjibhedpieafaa.H
namespace Go.Proofs.Ytpjibhedpieafaa.H
open Go.RowKit Go.Proofs.YtpjibhedpieafaaW.PrintWords Go.Proofs.YtpjibhedpieafaaW.PrintLast Go.Proofs.YtpjibhedpieafaaW.PrintMore
attribute [local go_sem] max2_int min2_int max_two min_two max_three min_three max_four min_four   -- for this text's walks alone
set_option linter.unusedVariables false
set_option linter.unusedSimpArgs false
def impl_common.l0 : Nat → Int → Int → Option (Int)
  | 0, _, _ => none
  | k + 1, x0, x1 => if x1 = 0 then (some x0) else (impl_common.l0 k x1 (Int.tmod x0 x1))
def impl_common.f (k : Nat) (a0 : Int) (a1 : Int) : Option (Int) := impl_common.l0 k a0 a1
theorem impl_common.mono_l : ∀ k, (∀ y0 y1, LeO (impl_common.l0 k y0 y1) (impl_common.l0 (k + 1) y0 y1))
  | 0 => fun _ _ r h => by simp [impl_common.l0] at h
  | k + 1 => by
    have ih0 := impl_common.mono_l k
    · intro y0 y1
      unfold impl_common.l0
      repeat' first
      | (with_reducible exact ih0 _ _)
      | (with_reducible exact LeO.refl _)
      | (with_reducible exact LeO.none _)
      | (with_reducible refine LeO.ite ?_ ?_)
      | (with_reducible refine LeO.bind ?_ (fun _ => ?_))
      | exact ih0 _ _
      | exact LeO.none _
      | refine LeO.ite ?_ ?_
      | refine LeO.bind ?_ (fun _ => ?_)
theorem impl_common.mono : ∀ a0 a1 k, LeO (impl_common.f k a0 a1) (impl_common.f (k + 1) a0 a1) := by
  intro a0 a1 k
  have ih0 := impl_common.mono_l k
  unfold impl_common.f
  repeat' first
      | (with_reducible exact ih0 _ _)
      | (with_reducible exact LeO.refl _)
      | (with_reducible exact LeO.none _)
      | (with_reducible refine LeO.ite ?_ ?_)
      | (with_reducible refine LeO.bind ?_ (fun _ => ?_))
      | exact ih0 _ _
      | exact LeO.none _
      | refine LeO.ite ?_ ?_
      | refine LeO.bind ?_ (fun _ => ?_)
def impl_Cam_slope.f (k : Nat) (l0 : List Int) (a1_0 : Int) (a1_1 : Int) (a2 : Int) : Option (Int × Int) := (impl_Cam_change.f l0 a2).bind fun t103 => ((impl_Cam_steps.f l0).bind fun t104 => ((impl_Cam_at.f l0 a2).bind fun t105 => ((impl_abs.f (wrap64 ((wrap64 (t103 * t104)) * 7))).bind fun t106 => ((impl_common.f k t106 (wrap64 (44 * (wrap64 (a1_0 + t105))))).bind fun t107 => (if t107 = 0 then (none) else (some (wrap64 (Int.tdiv (wrap64 ((wrap64 (t103 * t104)) * 7)) t107), wrap64 (Int.tdiv (wrap64 (44 * (wrap64 (a1_0 + t105)))) t107))))))))
theorem impl_Cam_slope.mono : ∀ a0 a1 a2 a3 k, LeO (impl_Cam_slope.f k a0 a1 a2 a3) (impl_Cam_slope.f (k + 1) a0 a1 a2 a3) := by
  intro a0 a1 a2 a3 k
  unfold impl_Cam_slope.f
  repeat' first
      | (with_reducible exact impl_common.mono _ _ _)
      | (with_reducible exact LeO.refl _)
      | (with_reducible exact LeO.none _)
      | (with_reducible refine LeO.ite ?_ ?_)
      | (with_reducible refine LeO.bind ?_ (fun _ => ?_))
      | exact impl_common.mono _ _ _
      | exact LeO.none _
      | refine LeO.ite ?_ ?_
      | refine LeO.bind ?_ (fun _ => ?_)
def impl_Cam_slope.T1 : Bool × List (List Nat × List Nat) := (true, [([], []), ([], []), ([0, 1], [0, 1]), ([], []), ([3, 2], [3]), ([2, 4], [2, 4]), ([5], [5]), ([], []), ([7], [7]), ([], []), ([], []), ([9, 10, 4], [9, 10]), ([8, 11], [8, 11]), ([12], [12]), ([6, 11, 0, 1, 2, 3, 4, 5, 6], [6]), ([13, 14, 0, 1, 2, 3, 4, 5, 6, 7, 8, 9, 10, 11, 12, 13, 14], [13])])
def impl_Cam_slope.B1 : List Nat := [0, 0, 3, 0, 15, 31, 63, 0, 128, 0, 0, 1567, 3999, 8095, 3711, 32767]
theorem impl_Cam_slope.tab1 : rtab .any (opsOf Try.f182 1) = impl_Cam_slope.T1 := by kernel_rfl
theorem impl_Cam_slope.bits1 : waitsOk impl_Cam_slope.T1.2 impl_Cam_slope.B1 = true := by kernel_rfl
def impl_Cam_slope.T3 : Bool × List (List Nat × List Nat) := (true, [([], []), ([], []), ([0, 1], [0, 1]), ([], []), ([], []), ([3, 4], [3, 4]), ([2, 5], [2, 5]), ([6, 0, 1, 2, 3, 4, 5, 6], [6])])
def impl_Cam_slope.B3 : List Nat := [0, 0, 3, 0, 0, 24, 63, 127]
theorem impl_Cam_slope.tab3 : rtab .any (opsOf Try.f182 3) = impl_Cam_slope.T3 := by kernel_rfl
theorem impl_Cam_slope.bits3 : waitsOk impl_Cam_slope.T3.2 impl_Cam_slope.B3 = true := by kernel_rfl
def impl_isSpring.f (a0 : Int) : Option (Bool) := (impl_inRange.f a0 1 10000).bind fun t101 => (some t101)
def impl_ValidFollower.f (a0_0 : Int) (a0_1 : Int) : Option (Bool) := (impl_inRange.f a0_0 1 20000).bind fun t102 => (if t102 = true then ((impl_isSpring.f a0_1).bind fun t103 => (some t103)) else (some false))
def impl_camCode.f (l0 : List Int) (a1_0 : Int) (a1_1 : Int) : Option (Int) := (impl_ValidCam.f l0).bind fun t102 => (if t102 = true then ((impl_ValidFollower.f a1_0 a1_1).bind fun t103 => (if t103 = true then (some 0) else (some 1))) else (some 1))
def impl_SteepestSlope.l0 : Nat → List Int → Int → Int → Int → Int → Int → Int → Int → Option (Int × Int × Int × Int)
  | 0, _, _, _, _, _, _, _, _ => none
  | k + 1, x0, x7, x20, x21, x102000, x102001, x107000, x107001 => if x21 < x20 then ((impl_Cam_slope.f k x0 x102000 x102001 x21).bind fun bt108 => ((impl_compareSlopes.f bt108.1 bt108.2 x107000 x107001).bind fun t111 => (if t111 > 0 then (impl_SteepestSlope.l0 k x0 x21 x20 (wrap64 (x21 + 1)) x102000 x102001 bt108.1 bt108.2) else (impl_SteepestSlope.l0 k x0 x7 x20 (wrap64 (x21 + 1)) x102000 x102001 x107000 x107001)))) else (some (x7, x107000, x107001, 0))
def impl_SteepestSlope.f (k : Nat) (l0 : List Int) (a1_0 : Int) (a1_1 : Int) : Option (Int × Int × Int × Int) := (impl_camCode.f l0 a1_0 a1_1).bind fun t103 => (if t103 = 0 then ((impl_Cam_slope.f k l0 a1_0 a1_1 0).bind fun bt104 => ((impl_Cam_steps.f l0).bind fun t107 => (impl_SteepestSlope.l0 k l0 0 t107 0 a1_0 a1_1 bt104.1 bt104.2))) else (some (0, 0, 0, 1)))
theorem impl_SteepestSlope.mono_l : ∀ k, (∀ y0 y1 y2 y3 y4 y5 y6 y7, LeO (impl_SteepestSlope.l0 k y0 y1 y2 y3 y4 y5 y6 y7) (impl_SteepestSlope.l0 (k + 1) y0 y1 y2 y3 y4 y5 y6 y7))
  | 0 => fun _ _ _ _ _ _ _ _ r h => by simp [impl_SteepestSlope.l0] at h
  | k + 1 => by
    have ih0 := impl_SteepestSlope.mono_l k
    · intro y0 y1 y2 y3 y4 y5 y6 y7
      unfold impl_SteepestSlope.l0
      repeat' first
      | (with_reducible exact ih0 _ _ _ _ _ _ _ _)
      | (with_reducible exact impl_Cam_slope.mono _ _ _ _ _)
      | (with_reducible exact LeO.refl _)
      | (with_reducible exact LeO.none _)
      | (with_reducible refine LeO.ite ?_ ?_)
      | (with_reducible refine LeO.bind ?_ (fun _ => ?_))
      | exact ih0 _ _ _ _ _ _ _ _
      | exact impl_Cam_slope.mono _ _ _ _ _
      | exact LeO.none _
      | refine LeO.ite ?_ ?_
      | refine LeO.bind ?_ (fun _ => ?_)
theorem impl_SteepestSlope.mono : ∀ a0 a1 a2 k, LeO (impl_SteepestSlope.f k a0 a1 a2) (impl_SteepestSlope.f (k + 1) a0 a1 a2) := by
  intro a0 a1 a2 k
  have ih0 := impl_SteepestSlope.mono_l k
  unfold impl_SteepestSlope.f
  repeat' first
      | (with_reducible exact ih0 _ _ _ _ _ _ _ _)
      | (with_reducible exact impl_Cam_slope.mono _ _ _ _ _)
      | (with_reducible exact LeO.refl _)
      | (with_reducible exact LeO.none _)
      | (with_reducible refine LeO.ite ?_ ?_)
      | (with_reducible refine LeO.bind ?_ (fun _ => ?_))
      | exact ih0 _ _ _ _ _ _ _ _
      | exact impl_Cam_slope.mono _ _ _ _ _
      | exact LeO.none _
      | refine LeO.ite ?_ ?_
      | refine LeO.bind ?_ (fun _ => ?_)
def impl_Cam_int16_142.l0 : Nat → List Int → List Int → Int → Int → Option (Bool)
  | 0, _, _, _, _ => none
  | k + 1, x0, x1, x12, x13 => if x13 < x12 then (if 0 ≤ x13 then (if x13 < (x0.length : Int) then (if x13 < (x1.length : Int) then (if (rd x0 x13) = (rd x1 x13) then (impl_Cam_int16_142.l0 k x0 x1 x12 (wrap64 (x13 + 1))) else (some false)) else (none)) else (none)) else (none)) else (some true)
def impl_Cam_int16_142.f (k : Nat) (l0 : List Int) (l1 : List Int) : Option (Bool) := if (l0.length : Int) = (l1.length : Int) then (impl_Cam_int16_142.l0 k l0 l1 (l0.length : Int) 0) else (some false)
theorem impl_Cam_int16_142.mono_l : ∀ k, (∀ y0 y1 y2 y3, LeO (impl_Cam_int16_142.l0 k y0 y1 y2 y3) (impl_Cam_int16_142.l0 (k + 1) y0 y1 y2 y3))
  | 0 => fun _ _ _ _ r h => by simp [impl_Cam_int16_142.l0] at h
  | k + 1 => by
    have ih0 := impl_Cam_int16_142.mono_l k
    · intro y0 y1 y2 y3
      unfold impl_Cam_int16_142.l0
      repeat' first
      | (with_reducible exact ih0 _ _ _ _)
      | (with_reducible exact LeO.refl _)
      | (with_reducible exact LeO.none _)
      | (with_reducible refine LeO.ite ?_ ?_)
      | (with_reducible refine LeO.bind ?_ (fun _ => ?_))
      | exact ih0 _ _ _ _
      | exact LeO.none _
      | refine LeO.ite ?_ ?_
      | refine LeO.bind ?_ (fun _ => ?_)
theorem impl_Cam_int16_142.mono : ∀ a0 a1 k, LeO (impl_Cam_int16_142.f k a0 a1) (impl_Cam_int16_142.f (k + 1) a0 a1) := by
  intro a0 a1 k
  have ih0 := impl_Cam_int16_142.mono_l k
  unfold impl_Cam_int16_142.f
  repeat' first
      | (with_reducible exact ih0 _ _ _ _)
      | (with_reducible exact LeO.refl _)
      | (with_reducible exact LeO.none _)
      | (with_reducible refine LeO.ite ?_ ?_)
      | (with_reducible refine LeO.bind ?_ (fun _ => ?_))
      | exact ih0 _ _ _ _
      | exact LeO.none _
      | refine LeO.ite ?_ ?_
      | refine LeO.bind ?_ (fun _ => ?_)
end Go.Proofs.Ytpjibhedpieafaa.H
namespace Go.Proofs.Ytpjibhedpieafaa.H
open Go.RowKit Go.Proofs.YtpjibhedpieafaaW.PrintWords Go.Proofs.YtpjibhedpieafaaW.PrintLast Go.Proofs.YtpjibhedpieafaaW.PrintMore Go.Proofs.Ytpjibhedpieafaa.M
theorem C_none_nil {α : Type} {d : Kd α} {w : World} {l : List α} (h : Kd.C d w none l.length l) : l = [] := by
  rcases Nat.eq_zero_or_pos l.length with h0 | h0
  · exact List.eq_nil_of_length_eq_zero h0
  · obtain ⟨ad, e, _⟩ := h.2.2 h0
    cases e
def impl_Cam_int16_180.f (l0 : List Int) : Option (List Int) := if l0.length < 70368744177664 then some l0 else none
set_option maxHeartbeats 1000000 in
set_option maxRecDepth 100000 in
theorem impl_Cam_int16_180.calls (A0 : Option Addr) (c0 : Nat) (l0 : List Int) (r : List Int) (w : World) (hr0 : Kd.C (Kd.int .i16) w A0 l0.length l0) (hc0 : l0.length ≤ c0) (h : impl_Cam_int16_180.f l0 = some r) :
    Calls Try.prog 180 #[.slice A0 l0.length c0] w fun e w' => ∃ v0_ : Value, e = .returned (v0_) ∧ Kd.R (Kd.int .i16) 51 w' w.heap.size (fun _ => True) v0_ r ∧ Below w.heap.size w w' := by
  unfold impl_Cam_int16_180.f at h
  split at h
  case isFalse => cases h
  case isTrue hlen =>
  obtain rfl := Option.some.inj h
  clear h
  have hnil := fun (W : World) (n c : Nat) => Lib.run_eql_slice_nil (P := Try.prog) W 29 51 A0 n c 0 0 Try.underlying29
  cases A0 with
  | none =>
    have e0 := C_none_nil hr0
    subst e0
    clear hr0
    go_enter Try.func180, Try.ntmps180
    go_wp2
    go_ret
    exact ⟨_, rfl, Kd.R_nil _ _ _ _ _, Below.refl _ _⟩
  | some ad =>
    have HR0 := Aside0.mk hr0
    have HL := Aside0.mk hlen
    have HB := Aside0.mk (Below.refl w.heap.size w)
    clear hr0 hlen
    go_enter Try.func180, Try.ntmps180
    go_wp2_with (first | (((with_reducible refine gate_dst (N := 5) rfl ?_); refine Kd.R_lit (Kd.int .i16) _ 51 ?hg (N := 5) ?hd (xs := ([] : List _)) (inner := []) (ok := fun _ => True) (okp := fun _ => True) ?hr ?hp (fun _ hk => hk) trivial (Below.refl _ _) (Nat.le_refl _) (by simp) ?_; (case hd => rfl); (case hg => rfl); (case hr => first | (go_simp; done) | (go_simp; rfl)); (case hp => exact (Reps.none _ _)); intro v1 w1 ho1 hb1 hg_ hnew_; clear hg_ hnew_); have HO1 := Aside0.mk ho1; have HB1 := Aside0.mk (below_step HB.out hb1); clear ho1 hb1) | ((with_reducible refine gate_builtin (b := .append) (xs := #[.tmp 5, .tmp 6]) rfl ?_); at_builtin; refine Kd.R_append_rows (Kd.int .i16) (w0 := w) w.heap.size rfl (.tmp 5) (.tmp 6) 29 51 (.int .i16 0) 2 rfl Try.underlying29 info_i16 rfl (by decide) (by omega) v1 [] l0 _ _ _ (fun _ => True) (fun _ => False) rfl rfl ?aO ?aR (fun _ _ h => h) (fun _ h => h.elim) ?aF ?aB ?aS ?aL ?_; (case aR => repeat (first | exact (Kd.C_below HR0.out HB1.out) | (with_reducible refine Kd.C_alloc ?_ _) | (with_reducible refine Kd.C_drewN ?_ _) | (with_reducible refine Kd.C_drew ?_))); (case aB => exact (by repeat (first | (with_reducible first | exact HB1.out | apply below_alloc | apply pw_below_drewN | apply below_drew1) | exact HB1.out))); (case aF => exact (fun _ _ => trivial)); (case aO => exact (by (with_reducible repeat (first | apply Kd.R_alloc | apply Kd.R_drewN | apply Kd.R_drew)); exact HO1.out)); (case aS => exact (below_size (by repeat (first | (with_reducible first | exact HB1.out | apply below_alloc | apply pw_below_drewN | apply below_drew1) | exact HB1.out)))); (case aL => have := HL.out; simp; omega); intro v2 w2 ho hb hg hat) | go_in)
    go_ret
    exact ⟨_, rfl, ho, hb⟩
end Go.Proofs.Ytpjibhedpieafaa.H
namespace Go.Proofs.Ytpjibhedpieafaa.H
open Go.RowKit Go.Proofs.YtpjibhedpieafaaW.PrintWords Go.Proofs.YtpjibhedpieafaaW.PrintLast Go.Proofs.YtpjibhedpieafaaW.PrintMore
attribute [local go_sem] max2_int min2_int max_two min_two max_three min_three max_four min_four   -- for this text's walks alone
set_option linter.unusedVariables false
set_option linter.unusedSimpArgs false
def impl_Track_next.f (a0_0 : Int) (a0_1 : Int) (a0_2 : Bool) (a1 : Int) (a2 : Int) : Option (Int × Int × Bool) := if (wrap64 (a0_0 + (wrap64 (a0_1 - a2)))) > a1 then (some (wrap64 (a0_0 + (wrap64 (a0_1 - a2))), wrap64 (a0_1 - a2), false)) else (some (a1, wrap64 (a1 - a0_0), true))
def impl_Cam_follow.l0 : Nat → List Int → Int → Int → List (S238) → Int → Int → Int → Bool → Option ((List (S238)))
  | 0, _, _, _, _, _, _, _, _ => none
  | k + 1, x0, x1, x2, x8, x9, x104000, x104001, x104002 => if x9 ≤ x2 then ((impl_Cam_at.f x0 x9).bind fun t107 => ((impl_Track_next.f x104000 x104001 x104002 t107 x1).bind fun bt108 => (if x8.length < 5864062014805 then (impl_Cam_follow.l0 k x0 x1 x2 (x8 ++ [(⟨bt108.1, bt108.2.1, bt108.2.2⟩ : S238)]) (wrap64 (x9 + 1)) bt108.1 bt108.2.1 bt108.2.2) else (none)))) else (some x8)
def impl_Cam_follow.f (k : Nat) (l0 : List Int) (a1 : Int) (a2 : Int) : Option ((List (S238))) := (impl_Cam_at.f l0 0).bind fun t101 => ((impl_Cam_change.f l0 (-1)).bind fun t102 => (impl_Cam_follow.l0 k l0 a1 a2 (([(⟨t101, t102, true⟩ : S238)] : List (S238))) 1 t101 t102 true))
theorem impl_Cam_follow.mono_l : ∀ k, (∀ y0 y1 y2 y3 y4 y5 y6 y7, LeO (impl_Cam_follow.l0 k y0 y1 y2 y3 y4 y5 y6 y7) (impl_Cam_follow.l0 (k + 1) y0 y1 y2 y3 y4 y5 y6 y7))
  | 0 => fun _ _ _ _ _ _ _ _ r h => by simp [impl_Cam_follow.l0] at h
  | k + 1 => by
    have ih0 := impl_Cam_follow.mono_l k
    · intro y0 y1 y2 y3 y4 y5 y6 y7
      unfold impl_Cam_follow.l0
      repeat' first
      | (with_reducible exact ih0 _ _ _ _ _ _ _ _)
      | (with_reducible exact LeO.refl _)
      | (with_reducible exact LeO.none _)
      | (with_reducible refine LeO.ite ?_ ?_)
      | (with_reducible refine LeO.bind ?_ (fun _ => ?_))
      | exact ih0 _ _ _ _ _ _ _ _
      | exact LeO.none _
      | refine LeO.ite ?_ ?_
      | refine LeO.bind ?_ (fun _ => ?_)
theorem impl_Cam_follow.mono : ∀ a0 a1 a2 k, LeO (impl_Cam_follow.f k a0 a1 a2) (impl_Cam_follow.f (k + 1) a0 a1 a2) := by
  intro a0 a1 a2 k
  have ih0 := impl_Cam_follow.mono_l k
  unfold impl_Cam_follow.f
  repeat' first
      | (with_reducible exact ih0 _ _ _ _ _ _ _ _)
      | (with_reducible exact LeO.refl _)
      | (with_reducible exact LeO.none _)
      | (with_reducible refine LeO.ite ?_ ?_)
      | (with_reducible refine LeO.bind ?_ (fun _ => ?_))
      | exact ih0 _ _ _ _ _ _ _ _
      | exact LeO.none _
      | refine LeO.ite ?_ ?_
      | refine LeO.bind ?_ (fun _ => ?_)
def impl_landings.l0 : Nat → List (S238) → Int → List (S225) → Int → Option ((List (S225)))
  | 0, _, _, _, _ => none
  | k + 1, x0, x1, x5, x6 => if x6 < (x0.length : Int) then (if 0 ≤ x6 then (if 0 ≤ (wrap64 (x6 - 1)) then (if (wrap64 (x6 - 1)) < (x0.length : Int) then (if (rd_T238 x0 x6).f2 = true then (if ((rd_T238 x0 (wrap64 (x6 - 1))).f2 = true) then (impl_landings.l0 k x0 x1 x5 (wrap64 (x6 + 1))) else (if x5.length < 8796093022208 then (impl_landings.l0 k x0 x1 (x5 ++ [(⟨x6, wrap64 (((rd_T238 x0 x6).f1) - (wrap64 (((rd_T238 x0 (wrap64 (x6 - 1))).f1) - x1)))⟩ : S225)]) (wrap64 (x6 + 1))) else (none))) else (impl_landings.l0 k x0 x1 x5 (wrap64 (x6 + 1)))) else (none)) else (none)) else (none)) else (some x5)
def impl_landings.f (k : Nat) (l0 : List (S238)) (a1 : Int) : Option ((List (S225))) := impl_landings.l0 k l0 a1 (([] : List (S225))) 1
theorem impl_landings.mono_l : ∀ k, (∀ y0 y1 y2 y3, LeO (impl_landings.l0 k y0 y1 y2 y3) (impl_landings.l0 (k + 1) y0 y1 y2 y3))
  | 0 => fun _ _ _ _ r h => by simp [impl_landings.l0] at h
  | k + 1 => by
    have ih0 := impl_landings.mono_l k
    · intro y0 y1 y2 y3
      unfold impl_landings.l0
      repeat' first
      | (with_reducible exact ih0 _ _ _ _)
      | (with_reducible exact LeO.refl _)
      | (with_reducible exact LeO.none _)
      | (with_reducible refine LeO.ite ?_ ?_)
      | (with_reducible refine LeO.bind ?_ (fun _ => ?_))
      | exact ih0 _ _ _ _
      | exact LeO.none _
      | refine LeO.ite ?_ ?_
      | refine LeO.bind ?_ (fun _ => ?_)
theorem impl_landings.mono : ∀ a0 a1 k, LeO (impl_landings.f k a0 a1) (impl_landings.f (k + 1) a0 a1) := by
  intro a0 a1 k
  have ih0 := impl_landings.mono_l k
  unfold impl_landings.f
  repeat' first
      | (with_reducible exact ih0 _ _ _ _)
      | (with_reducible exact LeO.refl _)
      | (with_reducible exact LeO.none _)
      | (with_reducible refine LeO.ite ?_ ?_)
      | (with_reducible refine LeO.bind ?_ (fun _ => ?_))
      | exact ih0 _ _ _ _
      | exact LeO.none _
      | refine LeO.ite ?_ ?_
      | refine LeO.bind ?_ (fun _ => ?_)
def impl_landings.T5 : Bool × List (List Nat × List Nat) := (true, [([], []), ([], []), ([0, 1], [0, 1]), ([2], [2]), ([], []), ([], []), ([5], [5]), ([4, 6], [4, 6]), ([7], [7]), ([], []), ([], []), ([9, 3, 0, 1, 2, 3, 9, 10], [3, 9]), ([10, 8, 11, 0, 1, 2, 3, 4, 5, 6, 7, 8, 9, 10, 11], [8, 10])])
def impl_landings.B5 : List Nat := [0, 0, 3, 7, 0, 0, 32, 112, 240, 0, 0, 1551, 4095]
theorem impl_landings.tab5 : rtab .any (opsOf Try.f243 5) = impl_landings.T5 := by kernel_rfl
theorem impl_landings.bits5 : waitsOk impl_landings.T5.2 impl_landings.B5 = true := by kernel_rfl
def impl_Cam_worn.l0 : Nat → Int → Int → List Int → List (S225) → Int → Int → Option (List Int)
  | 0, _, _, _, _, _, _ => none
  | k + 1, x2, x7, x8, x22, x23, x24 => if x24 < x23 then (if 0 ≤ x24 then (if x24 < (x22.length : Int) then (if ((rd_T225 x22 x24).f0) > x7 then (if x7 = 0 then (none) else (if 0 ≤ (Int.tmod ((rd_T225 x22 x24).f0) x7) then (if (Int.tmod ((rd_T225 x22 x24).f0) x7) < (x8.length : Int) then (if x2 = 0 then (none) else (impl_Cam_worn.l0 k x2 x7 (x8.set ((Int.tmod ((rd_T225 x22 x24).f0) x7) : Int).toNat (IntKind.i16.wrap (mx 0 (wrap64 ((wrap64 (rd x8 (Int.tmod ((rd_T225 x22 x24).f0) x7))) - (wrap64 (Int.tdiv ((rd_T225 x22 x24).f1) x2))))))) x22 x23 (wrap64 (x24 + 1)))) else (none)) else (none))) else (impl_Cam_worn.l0 k x2 x7 x8 x22 x23 (wrap64 (x24 + 1)))) else (none)) else (none)) else (some x8)
def impl_Cam_worn.f (k : Nat) (l0 : List Int) (a1 : Int) (a2 : Int) : Option (List Int) := (impl_Cam_steps.f l0).bind fun t101 => ((impl_Cam_int16_180.f l0).bind fun t102 => ((impl_Cam_follow.f k l0 a1 (wrap64 (2 * t101))).bind fun t105 => ((impl_landings.f k t105 a1).bind fun t108 => (impl_Cam_worn.l0 k a2 t101 t102 t108 (t108.length : Int) 0))))
theorem impl_Cam_worn.mono_l : ∀ k, (∀ y0 y1 y2 y3 y4 y5, LeO (impl_Cam_worn.l0 k y0 y1 y2 y3 y4 y5) (impl_Cam_worn.l0 (k + 1) y0 y1 y2 y3 y4 y5))
  | 0 => fun _ _ _ _ _ _ r h => by simp [impl_Cam_worn.l0] at h
  | k + 1 => by
    have ih0 := impl_Cam_worn.mono_l k
    · intro y0 y1 y2 y3 y4 y5
      unfold impl_Cam_worn.l0
      repeat' first
      | (with_reducible exact ih0 _ _ _ _ _ _)
      | (with_reducible exact impl_Cam_follow.mono _ _ _ _)
      | (with_reducible exact impl_landings.mono _ _ _)
      | (with_reducible exact LeO.refl _)
      | (with_reducible exact LeO.none _)
      | (with_reducible refine LeO.ite ?_ ?_)
      | (with_reducible refine LeO.bind ?_ (fun _ => ?_))
      | exact ih0 _ _ _ _ _ _
      | exact impl_Cam_follow.mono _ _ _ _
      | exact impl_landings.mono _ _ _
      | exact LeO.none _
      | refine LeO.ite ?_ ?_
      | refine LeO.bind ?_ (fun _ => ?_)
theorem impl_Cam_worn.mono : ∀ a0 a1 a2 k, LeO (impl_Cam_worn.f k a0 a1 a2) (impl_Cam_worn.f (k + 1) a0 a1 a2) := by
  intro a0 a1 a2 k
  have ih0 := impl_Cam_worn.mono_l k
  unfold impl_Cam_worn.f
  repeat' first
      | (with_reducible exact ih0 _ _ _ _ _ _)
      | (with_reducible exact impl_Cam_follow.mono _ _ _ _)
      | (with_reducible exact impl_landings.mono _ _ _)
      | (with_reducible exact LeO.refl _)
      | (with_reducible exact LeO.none _)
      | (with_reducible refine LeO.ite ?_ ?_)
      | (with_reducible refine LeO.bind ?_ (fun _ => ?_))
      | exact ih0 _ _ _ _ _ _
      | exact impl_Cam_follow.mono _ _ _ _
      | exact impl_landings.mono _ _ _
      | exact LeO.none _
      | refine LeO.ite ?_ ?_
      | refine LeO.bind ?_ (fun _ => ?_)
def impl_Cam_worn.T7 : Bool × List (List Nat × List Nat) := (true, [([], []), ([], []), ([], []), ([], []), ([2, 3], [2, 3]), ([4], [4]), ([5], [5]), ([], []), ([7], [7]), ([], []), ([8, 9], [8, 9]), ([6, 10], [6, 10]), ([11], [11]), ([12], [12]), ([0, 1, 0, 1, 2, 3, 4, 5, 6, 7, 8, 9, 10, 11, 12, 13], [0, 1]), ([14, 13, 0, 1, 2, 3, 4, 5, 6, 7, 8, 9, 10, 11, 12, 13], [13, 14])])
def impl_Cam_worn.B7 : List Nat := [0, 0, 0, 0, 12, 28, 60, 0, 128, 0, 896, 2044, 4092, 8188, 16383, 32767]
theorem impl_Cam_worn.tab7 : rtab .any (opsOf Try.f193 7) = impl_Cam_worn.T7 := by kernel_rfl
theorem impl_Cam_worn.bits7 : waitsOk impl_Cam_worn.T7.2 impl_Cam_worn.B7 = true := by kernel_rfl
def impl_wearCode.f (l0 : List Int) (a1_0 : Int) (a1_1 : Int) (a2 : Int) (a3 : Int) : Option (Int) := (impl_camCode.f l0 a1_0 a1_1).bind fun t102 => (if t102 = 0 then ((impl_inRange.f a2 0 100).bind fun t103 => (if t103 = true then ((impl_inRange.f a3 1 10000).bind fun t104 => (if t104 = true then (some 0) else (some 2))) else (some 2))) else (some 1))
def impl_TurnsToWear.f (k : Nat) (l0 : List Int) (a1_0 : Int) (a1_1 : Int) (a2 : Int) (a3 : Int) : Option (Int × Int) := (impl_wearCode.f l0 a1_0 a1_1 a3 a2).bind fun t102 => (if t102 = 0 then (if a3 > 0 then ((impl_Cam_worn.f k l0 a1_1 a2).bind fun t103 => ((impl_Cam_int16_142.f k t103 l0).bind fun t106 => (if t106 = true then (some (0, 6)) else (some (1, 0))))) else (some (0, 6))) else (some (0, t102)))
theorem impl_TurnsToWear.mono : ∀ a0 a1 a2 a3 a4 k, LeO (impl_TurnsToWear.f k a0 a1 a2 a3 a4) (impl_TurnsToWear.f (k + 1) a0 a1 a2 a3 a4) := by
  intro a0 a1 a2 a3 a4 k
  unfold impl_TurnsToWear.f
  repeat' first
      | (with_reducible exact impl_Cam_int16_142.mono _ _ _)
      | (with_reducible exact impl_Cam_worn.mono _ _ _ _)
      | (with_reducible exact LeO.refl _)
      | (with_reducible exact LeO.none _)
      | (with_reducible refine LeO.ite ?_ ?_)
      | (with_reducible refine LeO.bind ?_ (fun _ => ?_))
      | exact impl_Cam_int16_142.mono _ _ _
      | exact impl_Cam_worn.mono _ _ _ _
      | exact LeO.none _
      | refine LeO.ite ?_ ?_
      | refine LeO.bind ?_ (fun _ => ?_)
def impl_WearCam.l0 : Nat → Int → List Int → Int → Int → Int → Int → Option (List Int × Int)
  | 0, _, _, _, _, _, _ => none
  | k + 1, x3, x11, x22, x23, x102000, x102001 => if x23 < x22 then ((impl_Cam_worn.f k x11 x102001 x3).bind fun t106 => (impl_WearCam.l0 k x3 t106 x22 (wrap64 (x23 + 1)) x102000 x102001)) else (some (x11, 0))
def impl_WearCam.f (k : Nat) (l0 : List Int) (a1_0 : Int) (a1_1 : Int) (a2 : Int) (a3 : Int) : Option (List Int × Int) := (impl_wearCode.f l0 a1_0 a1_1 a2 a3).bind fun t102 => (if t102 = 0 then ((impl_Cam_int16_180.f l0).bind fun t103 => (impl_WearCam.l0 k a3 t103 a2 0 a1_0 a1_1)) else (some (([] : List Int), t102)))
theorem impl_WearCam.mono_l : ∀ k, (∀ y0 y1 y2 y3 y4 y5, LeO (impl_WearCam.l0 k y0 y1 y2 y3 y4 y5) (impl_WearCam.l0 (k + 1) y0 y1 y2 y3 y4 y5))
  | 0 => fun _ _ _ _ _ _ r h => by simp [impl_WearCam.l0] at h
  | k + 1 => by
    have ih0 := impl_WearCam.mono_l k
    · intro y0 y1 y2 y3 y4 y5
      unfold impl_WearCam.l0
      repeat' first
      | (with_reducible exact ih0 _ _ _ _ _ _)
      | (with_reducible exact impl_Cam_worn.mono _ _ _ _)
      | (with_reducible exact LeO.refl _)
      | (with_reducible exact LeO.none _)
      | (with_reducible refine LeO.ite ?_ ?_)
      | (with_reducible refine LeO.bind ?_ (fun _ => ?_))
      | exact ih0 _ _ _ _ _ _
      | exact impl_Cam_worn.mono _ _ _ _
      | exact LeO.none _
      | refine LeO.ite ?_ ?_
      | refine LeO.bind ?_ (fun _ => ?_)
theorem impl_WearCam.mono : ∀ a0 a1 a2 a3 a4 k, LeO (impl_WearCam.f k a0 a1 a2 a3 a4) (impl_WearCam.f (k + 1) a0 a1 a2 a3 a4) := by
  intro a0 a1 a2 a3 a4 k
  have ih0 := impl_WearCam.mono_l k
  unfold impl_WearCam.f
  repeat' first
      | (with_reducible exact ih0 _ _ _ _ _ _)
      | (with_reducible exact impl_Cam_worn.mono _ _ _ _)
      | (with_reducible exact LeO.refl _)
      | (with_reducible exact LeO.none _)
      | (with_reducible refine LeO.ite ?_ ?_)
      | (with_reducible refine LeO.bind ?_ (fun _ => ?_))
      | exact ih0 _ _ _ _ _ _
      | exact impl_Cam_worn.mono _ _ _ _
      | exact LeO.none _
      | refine LeO.ite ?_ ?_
      | refine LeO.bind ?_ (fun _ => ?_)
def impl_isPlace.f (a0 : Int) (a1 : Int) : Option (Bool) := (impl_inRange.f a0 0 (wrap64 (a1 - 1))).bind fun t101 => (some t101)
def impl_SlopeAt.f (k : Nat) (l0 : List Int) (a1_0 : Int) (a1_1 : Int) (a2 : Int) : Option (Int × Int × Int) := (impl_camCode.f l0 a1_0 a1_1).bind fun t103 => (if t103 = 0 then ((impl_isPlace.f a2 (l0.length : Int)).bind fun t104 => (if t104 = true then ((impl_Cam_slope.f k l0 a1_0 a1_1 a2).bind fun bt105 => (some (bt105.1, bt105.2, 0))) else (some (0, 0, 2)))) else (some (0, 0, 1)))
theorem impl_SlopeAt.mono : ∀ a0 a1 a2 a3 k, LeO (impl_SlopeAt.f k a0 a1 a2 a3) (impl_SlopeAt.f (k + 1) a0 a1 a2 a3) := by
  intro a0 a1 a2 a3 k
  unfold impl_SlopeAt.f
  repeat' first
      | (with_reducible exact impl_Cam_slope.mono _ _ _ _ _)
      | (with_reducible exact LeO.refl _)
      | (with_reducible exact LeO.none _)
      | (with_reducible refine LeO.ite ?_ ?_)
      | (with_reducible refine LeO.bind ?_ (fun _ => ?_))
      | exact impl_Cam_slope.mono _ _ _ _ _
      | exact LeO.none _
      | refine LeO.ite ?_ ?_
      | refine LeO.bind ?_ (fun _ => ?_)
def laws_f6big.f (l0 : List Int) : Option (Bool) := some (decide ((l0.length : Int) > 4096))
def spec_l00In.f (a0 : Int) (a1 : Int) (a2 : Int) : Option (Bool) := if a0 ≥ a1 then (some (decide (a0 ≤ a2))) else (some false)
def spec_l01Lift.f (a0 : Int) : Option (Bool) := (spec_l00In.f a0 0 10000).bind fun t101 => (some t101)
def spec_l01Steps.f (a0 : Int) : Option (Bool) := (spec_l00In.f a0 8 360).bind fun t101 => (some t101)
def spec_l01Ok.l0 : Nat → List Int → Int → Option (Bool)
  | 0, _, _ => none
  | k + 1, x0, x3 => if x3 < (x0.length : Int) then (if 0 ≤ x3 then ((spec_l01Lift.f (wrap64 (rd x0 x3))).bind fun t103 => (if t103 = true then (spec_l01Ok.l0 k x0 (wrap64 (x3 + 1))) else (some false))) else (none)) else (some true)
def spec_l01Ok.f (k : Nat) (l0 : List Int) : Option (Bool) := (spec_l01Steps.f (l0.length : Int)).bind fun t101 => (if t101 = true then (spec_l01Ok.l0 k l0 0) else (some false))
theorem spec_l01Ok.mono_l : ∀ k, (∀ y0 y1, LeO (spec_l01Ok.l0 k y0 y1) (spec_l01Ok.l0 (k + 1) y0 y1))
  | 0 => fun _ _ r h => by simp [spec_l01Ok.l0] at h
  | k + 1 => by
    have ih0 := spec_l01Ok.mono_l k
    · intro y0 y1
      unfold spec_l01Ok.l0
      repeat' first
      | (with_reducible exact ih0 _ _)
      | (with_reducible exact LeO.refl _)
      | (with_reducible exact LeO.none _)
      | (with_reducible refine LeO.ite ?_ ?_)
      | (with_reducible refine LeO.bind ?_ (fun _ => ?_))
      | exact ih0 _ _
      | exact LeO.none _
      | refine LeO.ite ?_ ?_
      | refine LeO.bind ?_ (fun _ => ?_)
theorem spec_l01Ok.mono : ∀ a0 k, LeO (spec_l01Ok.f k a0) (spec_l01Ok.f (k + 1) a0) := by
  intro a0 k
  have ih0 := spec_l01Ok.mono_l k
  unfold spec_l01Ok.f
  repeat' first
      | (with_reducible exact ih0 _ _)
      | (with_reducible exact LeO.refl _)
      | (with_reducible exact LeO.none _)
      | (with_reducible refine LeO.ite ?_ ?_)
      | (with_reducible refine LeO.bind ?_ (fun _ => ?_))
      | exact ih0 _ _
      | exact LeO.none _
      | refine LeO.ite ?_ ?_
      | refine LeO.bind ?_ (fun _ => ?_)
def spec_l01Size.f (a0 : Int) : Option (Int) := if a0 < 0 then (some (wrap64 (-a0))) else (some a0)
def spec_l03Cmp.f (a0_0 : Int) (a0_1 : Int) (a1_0 : Int) (a1_1 : Int) : Option (Int) := (spec_l01Size.f a0_0).bind fun t103 => ((spec_l01Size.f a1_0).bind fun t104 => (if (wrap64 (t103 * a1_1)) < (wrap64 (t104 * a0_1)) then (some (-1)) else (if (wrap64 (t103 * a1_1)) > (wrap64 (t104 * a0_1)) then (some 1) else (some 0))))
def spec_l01At.f (l0 : List Int) (a1 : Int) : Option (Int) := if (l0.length : Int) = 0 then (none) else (if 0 ≤ (Int.tmod (wrap64 ((Int.tmod a1 (l0.length : Int)) + (l0.length : Int))) (l0.length : Int)) then (if (Int.tmod (wrap64 ((Int.tmod a1 (l0.length : Int)) + (l0.length : Int))) (l0.length : Int)) < (l0.length : Int) then (some (wrap64 (rd l0 (Int.tmod (wrap64 ((Int.tmod a1 (l0.length : Int)) + (l0.length : Int))) (l0.length : Int))))) else (none)) else (none))
def spec_l03Gcd.l0 : Nat → Int → Int → Option (Int)
  | 0, _, _ => none
  | k + 1, x0, x1 => if x1 = 0 then (some x0) else (spec_l03Gcd.l0 k x1 (Int.tmod x0 x1))
def spec_l03Gcd.f (k : Nat) (a0 : Int) (a1 : Int) : Option (Int) := spec_l03Gcd.l0 k a0 a1
theorem spec_l03Gcd.mono_l : ∀ k, (∀ y0 y1, LeO (spec_l03Gcd.l0 k y0 y1) (spec_l03Gcd.l0 (k + 1) y0 y1))
  | 0 => fun _ _ r h => by simp [spec_l03Gcd.l0] at h
  | k + 1 => by
    have ih0 := spec_l03Gcd.mono_l k
    · intro y0 y1
      unfold spec_l03Gcd.l0
      repeat' first
      | (with_reducible exact ih0 _ _)
      | (with_reducible exact LeO.refl _)
      | (with_reducible exact LeO.none _)
      | (with_reducible refine LeO.ite ?_ ?_)
      | (with_reducible refine LeO.bind ?_ (fun _ => ?_))
      | exact ih0 _ _
      | exact LeO.none _
      | refine LeO.ite ?_ ?_
      | refine LeO.bind ?_ (fun _ => ?_)
theorem spec_l03Gcd.mono : ∀ a0 a1 k, LeO (spec_l03Gcd.f k a0 a1) (spec_l03Gcd.f (k + 1) a0 a1) := by
  intro a0 a1 k
  have ih0 := spec_l03Gcd.mono_l k
  unfold spec_l03Gcd.f
  repeat' first
      | (with_reducible exact ih0 _ _)
      | (with_reducible exact LeO.refl _)
      | (with_reducible exact LeO.none _)
      | (with_reducible refine LeO.ite ?_ ?_)
      | (with_reducible refine LeO.bind ?_ (fun _ => ?_))
      | exact ih0 _ _
      | exact LeO.none _
      | refine LeO.ite ?_ ?_
      | refine LeO.bind ?_ (fun _ => ?_)
def spec_l03Slope.f (k : Nat) (l0 : List Int) (a1 : Int) (a2 : Int) : Option (Int × Int) := (spec_l01At.f l0 (wrap64 (a2 + 1))).bind fun t102 => ((spec_l01At.f l0 a2).bind fun t103 => ((spec_l01At.f l0 a2).bind fun t104 => ((spec_l01Size.f (wrap64 ((wrap64 ((wrap64 (t102 - t103)) * (l0.length : Int))) * 7))).bind fun t105 => ((spec_l03Gcd.f k t105 (wrap64 (44 * (wrap64 (a1 + t104))))).bind fun t106 => (if t106 = 0 then (none) else (some (wrap64 (Int.tdiv (wrap64 ((wrap64 ((wrap64 (t102 - t103)) * (l0.length : Int))) * 7)) t106), wrap64 (Int.tdiv (wrap64 (44 * (wrap64 (a1 + t104)))) t106))))))))
theorem spec_l03Slope.mono : ∀ a0 a1 a2 k, LeO (spec_l03Slope.f k a0 a1 a2) (spec_l03Slope.f (k + 1) a0 a1 a2) := by
  intro a0 a1 a2 k
  unfold spec_l03Slope.f
  repeat' first
      | (with_reducible exact spec_l03Gcd.mono _ _ _)
      | (with_reducible exact LeO.refl _)
      | (with_reducible exact LeO.none _)
      | (with_reducible refine LeO.ite ?_ ?_)
      | (with_reducible refine LeO.bind ?_ (fun _ => ?_))
      | exact spec_l03Gcd.mono _ _ _
      | exact LeO.none _
      | refine LeO.ite ?_ ?_
      | refine LeO.bind ?_ (fun _ => ?_)
def spec_l03Slope.T4 : Bool × List (List Nat × List Nat) := (true, [([], []), ([], []), ([0, 1], [0, 1]), ([], []), ([], []), ([3, 4], [3, 4]), ([2, 5], [2, 5]), ([6, 0, 1, 2, 3, 4, 5, 6], [6])])
def spec_l03Slope.B4 : List Nat := [0, 0, 3, 0, 0, 24, 63, 127]
theorem spec_l03Slope.tab4 : rtab .any (opsOf Try.f241 4) = spec_l03Slope.T4 := by kernel_rfl
theorem spec_l03Slope.bits4 : waitsOk spec_l03Slope.T4.2 spec_l03Slope.B4 = true := by kernel_rfl
def spec_l03Steepest.l0 : Nat → List Int → Int → Int → Int → Int → Int → Option (Int × Int × Int)
  | 0, _, _, _, _, _, _ => none
  | k + 1, x0, x1, x6, x8, x105000, x105001 => if x8 < (x0.length : Int) then ((spec_l03Slope.f k x0 x1 x8).bind fun bt105 => ((spec_l03Cmp.f bt105.1 bt105.2 x105000 x105001).bind fun t108 => (if t108 > 0 then (spec_l03Steepest.l0 k x0 x1 x8 (wrap64 (x8 + 1)) bt105.1 bt105.2) else (spec_l03Steepest.l0 k x0 x1 x6 (wrap64 (x8 + 1)) x105000 x105001)))) else (some (x6, x105000, x105001))
def spec_l03Steepest.f (k : Nat) (l0 : List Int) (a1 : Int) : Option (Int × Int × Int) := (spec_l03Slope.f k l0 a1 0).bind fun bt102 => (spec_l03Steepest.l0 k l0 a1 0 1 bt102.1 bt102.2)
theorem spec_l03Steepest.mono_l : ∀ k, (∀ y0 y1 y2 y3 y4 y5, LeO (spec_l03Steepest.l0 k y0 y1 y2 y3 y4 y5) (spec_l03Steepest.l0 (k + 1) y0 y1 y2 y3 y4 y5))
  | 0 => fun _ _ _ _ _ _ r h => by simp [spec_l03Steepest.l0] at h
  | k + 1 => by
    have ih0 := spec_l03Steepest.mono_l k
    · intro y0 y1 y2 y3 y4 y5
      unfold spec_l03Steepest.l0
      repeat' first
      | (with_reducible exact ih0 _ _ _ _ _ _)
      | (with_reducible exact spec_l03Slope.mono _ _ _ _)
      | (with_reducible exact LeO.refl _)
      | (with_reducible exact LeO.none _)
      | (with_reducible refine LeO.ite ?_ ?_)
      | (with_reducible refine LeO.bind ?_ (fun _ => ?_))
      | exact ih0 _ _ _ _ _ _
      | exact spec_l03Slope.mono _ _ _ _
      | exact LeO.none _
      | refine LeO.ite ?_ ?_
      | refine LeO.bind ?_ (fun _ => ?_)
theorem spec_l03Steepest.mono : ∀ a0 a1 k, LeO (spec_l03Steepest.f k a0 a1) (spec_l03Steepest.f (k + 1) a0 a1) := by
  intro a0 a1 k
  have ih0 := spec_l03Steepest.mono_l k
  unfold spec_l03Steepest.f
  repeat' first
      | (with_reducible exact ih0 _ _ _ _ _ _)
      | (with_reducible exact spec_l03Slope.mono _ _ _ _)
      | (with_reducible exact LeO.refl _)
      | (with_reducible exact LeO.none _)
      | (with_reducible refine LeO.ite ?_ ?_)
      | (with_reducible refine LeO.bind ?_ (fun _ => ?_))
      | exact ih0 _ _ _ _ _ _
      | exact spec_l03Slope.mono _ _ _ _
      | exact LeO.none _
      | refine LeO.ite ?_ ?_
      | refine LeO.bind ?_ (fun _ => ?_)
def spec_l03Told.f (a0_0 : Int) (a0_1 : Int) : Option (Bool) := (spec_l00In.f a0_1 1 1000000000).bind fun t102 => (if t102 = true then ((spec_l00In.f a0_0 (-1000000000) 1000000000).bind fun t103 => (some t103)) else (some false))
end Go.Proofs.Ytpjibhedpieafaa.H
namespace Go.Proofs.Ytpjibhedpieafaa.H
open Go.RowKit Go.Proofs.YtpjibhedpieafaaW.PrintWords Go.Proofs.YtpjibhedpieafaaW.PrintLast Go.Proofs.YtpjibhedpieafaaW.PrintMore
attribute [local go_sem] max2_int min2_int max_two min_two max_three min_three max_four min_four   -- for this text's walks alone
set_option linter.unusedVariables false
set_option linter.unusedSimpArgs false
mutual
def spec_LeastBase.j0 : Nat → List Int → Bool → Int → Int → Option (Int × Int)
  | 0, _, _, _, _ => none
  | k + 1, x0, x18, x102000, x102001 => if x18 = true then (some (0, 1)) else (if x102000 ≤ 0 then (some (0, 2)) else (spec_LeastBase.l0 k x0 1 20001 x102000 x102001))
def spec_LeastBase.l0 : Nat → List Int → Int → Int → Int → Int → Option (Int × Int)
  | 0, _, _, _, _, _ => none
  | k + 1, x0, x6, x7, x102000, x102001 => if x6 < x7 then ((spec_l03Steepest.f k x0 (wrap64 (Int.tdiv (wrap64 (x6 + x7)) 2))).bind fun bt104 => ((spec_l03Cmp.f bt104.2.1 bt104.2.2 x102000 x102001).bind fun t108 => (if t108 ≤ 0 then (spec_LeastBase.l0 k x0 x6 (wrap64 (Int.tdiv (wrap64 (x6 + x7)) 2)) x102000 x102001) else (spec_LeastBase.l0 k x0 (wrap64 ((wrap64 (Int.tdiv (wrap64 (x6 + x7)) 2)) + 1)) x7 x102000 x102001)))) else (if x6 > 20000 then (some (0, 6)) else (some (x6, 0)))
end
def spec_LeastBase.f (k : Nat) (l0 : List Int) (a1_0 : Int) (a1_1 : Int) : Option (Int × Int) := (spec_l01Ok.f k l0).bind fun t102 => (if t102 = true then ((spec_l03Told.f a1_0 a1_1).bind fun t103 => (spec_LeastBase.j0 k l0 (!t103) a1_0 a1_1)) else (spec_LeastBase.j0 k l0 true a1_0 a1_1))
theorem spec_LeastBase.mono_l : ∀ k, (∀ y0 y1 y2 y3, LeO (spec_LeastBase.j0 k y0 y1 y2 y3) (spec_LeastBase.j0 (k + 1) y0 y1 y2 y3)) ∧ (∀ y0 y1 y2 y3 y4, LeO (spec_LeastBase.l0 k y0 y1 y2 y3 y4) (spec_LeastBase.l0 (k + 1) y0 y1 y2 y3 y4))
  | 0 => ⟨fun _ _ _ _ r h => by simp [spec_LeastBase.j0] at h, fun _ _ _ _ _ r h => by simp [spec_LeastBase.l0] at h⟩
  | k + 1 => by
    obtain ⟨ih0, ih1⟩ := spec_LeastBase.mono_l k
    refine ⟨?_, ?_⟩
    · intro y0 y1 y2 y3
      unfold spec_LeastBase.j0
      repeat' first
      | (with_reducible exact ih0 _ _ _ _)
      | (with_reducible exact ih1 _ _ _ _ _)
      | (with_reducible exact spec_l01Ok.mono _ _)
      | (with_reducible exact spec_l03Steepest.mono _ _ _)
      | (with_reducible exact LeO.refl _)
      | (with_reducible exact LeO.none _)
      | (with_reducible refine LeO.ite ?_ ?_)
      | (with_reducible refine LeO.bind ?_ (fun _ => ?_))
      | exact ih0 _ _ _ _
      | exact ih1 _ _ _ _ _
      | exact spec_l01Ok.mono _ _
      | exact spec_l03Steepest.mono _ _ _
      | exact LeO.none _
      | refine LeO.ite ?_ ?_
      | refine LeO.bind ?_ (fun _ => ?_)
    · intro y0 y1 y2 y3 y4
      unfold spec_LeastBase.l0
      repeat' first
      | (with_reducible exact ih0 _ _ _ _)
      | (with_reducible exact ih1 _ _ _ _ _)
      | (with_reducible exact spec_l01Ok.mono _ _)
      | (with_reducible exact spec_l03Steepest.mono _ _ _)
      | (with_reducible exact LeO.refl _)
      | (with_reducible exact LeO.none _)
      | (with_reducible refine LeO.ite ?_ ?_)
      | (with_reducible refine LeO.bind ?_ (fun _ => ?_))
      | exact ih0 _ _ _ _
      | exact ih1 _ _ _ _ _
      | exact spec_l01Ok.mono _ _
      | exact spec_l03Steepest.mono _ _ _
      | exact LeO.none _
      | refine LeO.ite ?_ ?_
      | refine LeO.bind ?_ (fun _ => ?_)
theorem spec_LeastBase.mono : ∀ a0 a1 a2 k, LeO (spec_LeastBase.f k a0 a1 a2) (spec_LeastBase.f (k + 1) a0 a1 a2) := by
  intro a0 a1 a2 k
  obtain ⟨ih0, ih1⟩ := spec_LeastBase.mono_l k
  unfold spec_LeastBase.f
  repeat' first
      | (with_reducible exact ih0 _ _ _ _)
      | (with_reducible exact ih1 _ _ _ _ _)
      | (with_reducible exact spec_l01Ok.mono _ _)
      | (with_reducible exact spec_l03Steepest.mono _ _ _)
      | (with_reducible exact LeO.refl _)
      | (with_reducible exact LeO.none _)
      | (with_reducible refine LeO.ite ?_ ?_)
      | (with_reducible refine LeO.bind ?_ (fun _ => ?_))
      | exact ih0 _ _ _ _
      | exact ih1 _ _ _ _ _
      | exact spec_l01Ok.mono _ _
      | exact spec_l03Steepest.mono _ _ _
      | exact LeO.none _
      | refine LeO.ite ?_ ?_
      | refine LeO.bind ?_ (fun _ => ?_)
end Go.Proofs.Ytpjibhedpieafaa.H
namespace Go.Proofs.Ytpjibhedpieafaa.H
open Go.RowKit Go.Proofs.YtpjibhedpieafaaW.PrintWords Go.Proofs.YtpjibhedpieafaaW.PrintLast Go.Proofs.YtpjibhedpieafaaW.PrintMore
attribute [local go_sem] max2_int min2_int max_two min_two max_three min_three max_four min_four   -- for this text's walks alone
set_option linter.unusedVariables false
set_option linter.unusedSimpArgs false
def spec_l00Max.f (a0 : Int) (a1 : Int) : Option (Int) := if a0 > a1 then (some a0) else (some a1)
def spec_l01Bends.l0 : Nat → List Int → List Int → Int → Option (List Int)
  | 0, _, _, _ => none
  | k + 1, x0, x3, x4 => if x4 < (x0.length : Int) then ((spec_l01At.f x0 (wrap64 (x4 + 1))).bind fun t104 => ((spec_l01At.f x0 x4).bind fun t105 => ((spec_l01At.f x0 (wrap64 (x4 - 1))).bind fun t106 => (if x3.length < 17592186044416 then (spec_l01Bends.l0 k x0 (x3 ++ [wrap64 ((wrap64 (t104 - (wrap64 (2 * t105)))) + t106)]) (wrap64 (x4 + 1))) else (none))))) else (some x3)
def spec_l01Bends.f (k : Nat) (l0 : List Int) : Option (List Int) := spec_l01Bends.l0 k l0 (([] : List Int)) 0
theorem spec_l01Bends.mono_l : ∀ k, (∀ y0 y1 y2, LeO (spec_l01Bends.l0 k y0 y1 y2) (spec_l01Bends.l0 (k + 1) y0 y1 y2))
  | 0 => fun _ _ _ r h => by simp [spec_l01Bends.l0] at h
  | k + 1 => by
    have ih0 := spec_l01Bends.mono_l k
    · intro y0 y1 y2
      unfold spec_l01Bends.l0
      repeat' first
      | (with_reducible exact ih0 _ _ _)
      | (with_reducible exact LeO.refl _)
      | (with_reducible exact LeO.none _)
      | (with_reducible refine LeO.ite ?_ ?_)
      | (with_reducible refine LeO.bind ?_ (fun _ => ?_))
      | exact ih0 _ _ _
      | exact LeO.none _
      | refine LeO.ite ?_ ?_
      | refine LeO.bind ?_ (fun _ => ?_)
theorem spec_l01Bends.mono : ∀ a0 k, LeO (spec_l01Bends.f k a0) (spec_l01Bends.f (k + 1) a0) := by
  intro a0 k
  have ih0 := spec_l01Bends.mono_l k
  unfold spec_l01Bends.f
  repeat' first
      | (with_reducible exact ih0 _ _ _)
      | (with_reducible exact LeO.refl _)
      | (with_reducible exact LeO.none _)
      | (with_reducible refine LeO.ite ?_ ?_)
      | (with_reducible refine LeO.bind ?_ (fun _ => ?_))
      | exact ih0 _ _ _
      | exact LeO.none _
      | refine LeO.ite ?_ ?_
      | refine LeO.bind ?_ (fun _ => ?_)
def spec_LeastSpring.l0 : Nat → List Int → Int → Int → Option (Int × Int)
  | 0, _, _, _ => none
  | k + 1, x4, x5, x6 => if x6 < (x4.length : Int) then (if 0 ≤ x6 then ((spec_l00Max.f x5 (wrap64 (-(rd x4 x6)))).bind fun t106 => (spec_LeastSpring.l0 k x4 t106 (wrap64 (x6 + 1)))) else (none)) else (some (x5, 0))
def spec_LeastSpring.f (k : Nat) (l0 : List Int) : Option (Int × Int) := (spec_l01Ok.f k l0).bind fun t101 => (if t101 = true then ((spec_l01Bends.f k l0).bind fun t102 => (spec_LeastSpring.l0 k t102 1 0)) else (some (0, 1)))
theorem spec_LeastSpring.mono_l : ∀ k, (∀ y0 y1 y2, LeO (spec_LeastSpring.l0 k y0 y1 y2) (spec_LeastSpring.l0 (k + 1) y0 y1 y2))
  | 0 => fun _ _ _ r h => by simp [spec_LeastSpring.l0] at h
  | k + 1 => by
    have ih0 := spec_LeastSpring.mono_l k
    · intro y0 y1 y2
      unfold spec_LeastSpring.l0
      repeat' first
      | (with_reducible exact ih0 _ _ _)
      | (with_reducible exact spec_l01Bends.mono _ _)
      | (with_reducible exact spec_l01Ok.mono _ _)
      | (with_reducible exact LeO.refl _)
      | (with_reducible exact LeO.none _)
      | (with_reducible refine LeO.ite ?_ ?_)
      | (with_reducible refine LeO.bind ?_ (fun _ => ?_))
      | exact ih0 _ _ _
      | exact spec_l01Bends.mono _ _
      | exact spec_l01Ok.mono _ _
      | exact LeO.none _
      | refine LeO.ite ?_ ?_
      | refine LeO.bind ?_ (fun _ => ?_)
theorem spec_LeastSpring.mono : ∀ a0 k, LeO (spec_LeastSpring.f k a0) (spec_LeastSpring.f (k + 1) a0) := by
  intro a0 k
  have ih0 := spec_LeastSpring.mono_l k
  unfold spec_LeastSpring.f
  repeat' first
      | (with_reducible exact ih0 _ _ _)
      | (with_reducible exact spec_l01Bends.mono _ _)
      | (with_reducible exact spec_l01Ok.mono _ _)
      | (with_reducible exact LeO.refl _)
      | (with_reducible exact LeO.none _)
      | (with_reducible refine LeO.ite ?_ ?_)
      | (with_reducible refine LeO.bind ?_ (fun _ => ?_))
      | exact ih0 _ _ _
      | exact spec_l01Bends.mono _ _
      | exact spec_l01Ok.mono _ _
      | exact LeO.none _
      | refine LeO.ite ?_ ?_
      | refine LeO.bind ?_ (fun _ => ?_)
def spec_l00From.f (l0 : List Int) : Option (List Int × Int × Int) := some (l0, 0, 0)
def spec_l00Min.f (a0 : Int) (a1 : Int) : Option (Int) := if a0 < a1 then (some a0) else (some a1)
/-- A state of type 206 at block g of W; what its slices lead to came in by w0. -/
def IsS206 (w0 W : World) (g : Nat) (f0 : List Int) (f1 : Int) (f2 : Int) : Prop := ∃ A0 c0, W.heap[g]? = some (.cells #[.slice A0 f0.length c0, .int .i64 f1, .int .u64 f2] 206 (0, 0)) ∧ w0.heap.size ≤ g ∧ Kd.C (Kd.int .u8) w0 A0 f0.length f0
theorem IsS206.grown {w0 W : World} {g : Nat} {f0 : List Int} {f1 : Int} {f2 : Int} {W1 : World} {row : Option Nat} (h : IsS206 w0 W g f0 f1 f2) (hw : W.grownBy W1 row) (hne : some g ≠ row) : IsS206 w0 W1 g f0 f1 f2 := by
  obtain ⟨A0, c0, hb, hg, hr0⟩ := h
  exact ⟨A0, c0, blk_grown hb hw hne, hg, hr0⟩
theorem IsS206.kept {w0 W : World} {g : Nat} {f0 : List Int} {f1 : Int} {f2 : Int} {W1 : World} {S : Nat → Prop} (h : IsS206 w0 W g f0 f1 f2) (hk : Kept W W1 S) (hne : ¬ S g) : IsS206 w0 W1 g f0 f1 f2 := by
  obtain ⟨A0, c0, hb, hg, hr0⟩ := h
  exact ⟨A0, c0, blk_kept hb hk hne, hg, hr0⟩
theorem IsS206.below {w0 W : World} {g : Nat} {f0 : List Int} {f1 : Int} {f2 : Int} {W1 : World} (h : IsS206 w0 W g f0 f1 f2) (hw : Below W.heap.size W W1) : IsS206 w0 W1 g f0 f1 f2 := h.grown (grown_of_below hw none) (by simp)
theorem IsS206.alloc {w0 W : World} {g : Nat} {f0 : List Int} {f1 : Int} {f2 : Int} (h : IsS206 w0 W g f0 f1 f2) (o : Obj) : IsS206 w0 (W.alloc o) g f0 f1 f2 := h.below (below_alloc (Below.refl _ _) o)
theorem IsS206.drewN {w0 W : World} {g : Nat} {f0 : List Int} {f1 : Int} {f2 : Int} (h : IsS206 w0 W g f0 f1 f2) (m : Nat) : IsS206 w0 (W.drewN m) g f0 f1 f2 := h
theorem IsS206.drew {w0 W : World} {g : Nat} {f0 : List Int} {f1 : Int} {f2 : Int} (h : IsS206 w0 W g f0 f1 f2) : IsS206 w0 W.drew g f0 f1 f2 := h
theorem IsS206.at_ {w0 W : World} {g : Nat} {f0 : List Int} {f1 : Int} {f2 : Int} {w' : World} {m : Nat} (hq : W.drewN m = w') (h : IsS206 w0 W g f0 f1 f2) : IsS206 w0 w' g f0 f1 f2 := by subst hq; exact IsS206.drewN h m
theorem IsS206.apart {w0 W : World} {g : Nat} {f0 : List Int} {f1 : Int} {f2 : Int} {α : Type} {d : Kd α} {e : Nat} {base : Nat} {ok : Nat → Prop} {v : Value} {xs : List α} (h : IsS206 w0 W g f0 f1 f2) (ho : d.R e W base ok v xs) (ht : ∀ q, q ∈ e :: d.E → q ≠ 206) : d.R e W base (fun k => ok k ∧ k ≠ g) v xs := by
  obtain ⟨A0, c0, hb, hg, hr0⟩ := h
  exact Kd.R_types ho hb ht
theorem IsS206.own_ne {w0 W : World} {g : Nat} {f0 : List Int} {f1 : Int} {f2 : Int} {α : Type} {d : Kd α} {e : Nat} {base : Nat} {ok : Nat → Prop} {v : Value} {xs : List α} (h : IsS206 w0 W g f0 f1 f2) (ho : d.R e W base ok v xs) (ht : e ≠ 206) : some g ≠ v.ownBlock := by
  obtain ⟨A0, c0, hb, hg, hr0⟩ := h
  exact Kd.R_ne ho hb ht
theorem IsS206.ge {w0 W : World} {g : Nat} {f0 : List Int} {f1 : Int} {f2 : Int} (h : IsS206 w0 W g f0 f1 f2) : w0.heap.size ≤ g := by
  obtain ⟨A0, c0, hb, hg, hr0⟩ := h
  exact hg
theorem IsS206.ne_blk {w0 W : World} {g : Nat} {f0 : List Int} {f1 : Int} {f2 : Int} {a : Nat} {cs : Array Value} {t : TypeId} {fr : Nat × Nat} (h : IsS206 w0 W g f0 f1 f2) (hb2 : W.heap[a]? = some (.cells cs t fr)) (ht : t ≠ 206) : g ≠ a := by
  obtain ⟨A0, c0, hb, hg, hr0⟩ := h
  rintro rfl
  rw [hb] at hb2
  injection hb2 with hb2
  injection hb2 with _ ht2
  exact ht ht2.symm
theorem IsS206.far {w0 W : World} {g : Nat} {f0 : List Int} {f1 : Int} {f2 : Int} {p : Addr} (h : IsS206 w0 W g f0 f1 f2) (hne : g ≠ p.block) (u : Value) : IsS206 w0 (W.setCell p u) g f0 f1 f2 := by
  obtain ⟨A0, c0, hb, hg, hr0⟩ := h
  exact ⟨A0, c0, blk_far hb hne u, hg, hr0⟩
theorem cellS206_0 {W : World} {g : Nat} {A0 : Option Addr} {c0 : Nat} {f0 : List Int} {f1 : Int} {f2 : Int} (h : W.heap[g]? = some (.cells #[.slice A0 f0.length c0, .int .i64 f1, .int .u64 f2] 206 (0, 0))) : W.cell? ⟨g, 0, none⟩ = some (.slice A0 f0.length c0) := (blk_cell h 0).trans rfl
theorem cellS206_1 {W : World} {g : Nat} {A0 : Option Addr} {c0 : Nat} {f0 : List Int} {f1 : Int} {f2 : Int} (h : W.heap[g]? = some (.cells #[.slice A0 f0.length c0, .int .i64 f1, .int .u64 f2] 206 (0, 0))) : W.cell? ⟨g, 1, none⟩ = some (.int .i64 f1) := (blk_cell h 1).trans rfl
theorem IsS206.set_1 {w0 W : World} {g : Nat} {f0 : List Int} {f1 : Int} {f2 : Int} (h : IsS206 w0 W g f0 f1 f2) (x : Int) : IsS206 w0 (W.setCell ⟨g, 1, none⟩ (.int .i64 x)) g f0 x f2 := by
  obtain ⟨A0, c0, hb, hg, hr0⟩ := h
  exact ⟨A0, c0, by simpa using blk_set hb 1 (.int .i64 x), hg, hr0⟩
theorem cellS206_2 {W : World} {g : Nat} {A0 : Option Addr} {c0 : Nat} {f0 : List Int} {f1 : Int} {f2 : Int} (h : W.heap[g]? = some (.cells #[.slice A0 f0.length c0, .int .i64 f1, .int .u64 f2] 206 (0, 0))) : W.cell? ⟨g, 2, none⟩ = some (.int .u64 f2) := (blk_cell h 2).trans rfl
theorem IsS206.set_2 {w0 W : World} {g : Nat} {f0 : List Int} {f1 : Int} {f2 : Int} (h : IsS206 w0 W g f0 f1 f2) (x : Int) : IsS206 w0 (W.setCell ⟨g, 2, none⟩ (.int .u64 x)) g f0 f1 x := by
  obtain ⟨A0, c0, hb, hg, hr0⟩ := h
  exact ⟨A0, c0, by simpa using blk_set hb 2 (.int .u64 x), hg, hr0⟩
theorem IsS206.new (w0 W : World) (A0 : Option Addr) (c0 : Nat) (f0 : List Int) (f1 : Int) (f2 : Int) (hB : Below w0.heap.size w0 W) (hr0 : Kd.C (Kd.int .u8) w0 A0 f0.length f0) : IsS206 w0 (W.alloc (.cells #[.slice A0 f0.length c0, .int .i64 f1, .int .u64 f2] 206)) W.heap.size f0 f1 f2 := ⟨A0, c0, by simpa using heap_alloc_new W _, hB.size, hr0⟩
def spec_l00Src_next.f (s0_0 : List Int) (s0_1 : Int) (s0_2 : Int) : Option (Int × Int × Int) := if s0_1 < (s0_0.length : Int) then (if 0 ≤ s0_1 then (if (wrap64 (s0_1 + 1)) ≤ (s0_0.length : Int) then (some (wrap64 (rd s0_0 s0_1), wrap64 (s0_1 + 1), IntKind.u64.wrap ((IntKind.u64.wrap ((IntKind.u64.wrap (s0_2 * 6364136223846793005)) + (IntKind.u64.wrap (wrap64 (rd s0_0 s0_1))))) + 1442695040888963407))) else (some (wrap64 (Go.bits .and .u64 ((IntKind.u64.wrap ((IntKind.u64.wrap ((IntKind.u64.wrap (s0_2 * 6364136223846793005)) + (IntKind.u64.wrap (wrap64 (rd s0_0 s0_1))))) + 1442695040888963407)) / 1099511627776) 255), wrap64 (s0_1 + 1), IntKind.u64.wrap ((IntKind.u64.wrap ((IntKind.u64.wrap (s0_2 * 6364136223846793005)) + (IntKind.u64.wrap (wrap64 (rd s0_0 s0_1))))) + 1442695040888963407)))) else (none)) else (if (wrap64 (s0_1 + 1)) ≤ (s0_0.length : Int) then (some (0, wrap64 (s0_1 + 1), IntKind.u64.wrap ((IntKind.u64.wrap (IntKind.u64.wrap (s0_2 * 6364136223846793005))) + 1442695040888963407))) else (some (wrap64 (Go.bits .and .u64 ((IntKind.u64.wrap ((IntKind.u64.wrap (IntKind.u64.wrap (s0_2 * 6364136223846793005))) + 1442695040888963407)) / 1099511627776) 255), wrap64 (s0_1 + 1), IntKind.u64.wrap ((IntKind.u64.wrap (IntKind.u64.wrap (s0_2 * 6364136223846793005))) + 1442695040888963407))))
def spec_l00Src_pick.f (s0_0 : List Int) (s0_1 : Int) (s0_2 : Int) (a1 : Int) : Option (Int × Int × Int) := if a1 ≤ 1 then (some (0, s0_1, s0_2)) else ((spec_l00Src_next.f s0_0 s0_1 s0_2).bind fun bt101 => (if a1 > 200 then ((spec_l00Src_next.f s0_0 bt101.2.1 bt101.2.2).bind fun bt104 => (if a1 = 0 then (none) else (some (Int.tmod (wrap64 ((wrap64 (bt101.1 * 256)) + bt104.1)) a1, bt104.2.1, bt104.2.2)))) else (if a1 = 0 then (none) else (some (Int.tmod bt101.1 a1, bt101.2.1, bt101.2.2)))))
def spec_l00Src_among.f (s0_0 : List Int) (s0_1 : Int) (s0_2 : Int) (l1 : List Int) : Option (Int × Int × Int) := (spec_l00Src_pick.f s0_0 s0_1 s0_2 (l1.length : Int)).bind fun bt101 => (if 0 ≤ bt101.1 then (if bt101.1 < (l1.length : Int) then (some (rd l1 bt101.1, bt101.2.1, bt101.2.2)) else (none)) else (none))
def spec_l00Src_one.f (s0_0 : List Int) (s0_1 : Int) (s0_2 : Int) (a1 : Int) : Option (Bool × Int × Int) := (spec_l00Src_pick.f s0_0 s0_1 s0_2 a1).bind fun bt101 => (some ((bt101.1 == 0), bt101.2.1, bt101.2.2))
end Go.Proofs.Ytpjibhedpieafaa.H
namespace Go.Proofs.Ytpjibhedpieafaa.H
open Go.RowKit Go.Proofs.YtpjibhedpieafaaW.PrintWords Go.Proofs.YtpjibhedpieafaaW.PrintLast Go.Proofs.YtpjibhedpieafaaW.PrintMore
attribute [local go_sem] max2_int min2_int max_two min_two max_three min_three max_four min_four   -- for this text's walks alone
set_option linter.unusedVariables false
set_option linter.unusedSimpArgs false
mutual
def spec_l01Drawn.l0 : Nat → Int → List Int → Int → List Int → Int → Int → Option (List Int × Int × Int)
  | 0, _, _, _, _, _, _ => none
  | k + 1, x3, x4, x5, x1000, x1001, x1002 => if (x4.length : Int) < x3 then ((spec_l00Src_pick.f x1000 x1001 x1002 7).bind fun bt113 => ((spec_l00Src_pick.f x1000 bt113.2.1 bt113.2.2 5).bind fun bt116 => (spec_l01Drawn.l1 k x3 x4 x5 (wrap64 (bt113.1 - 3)) (wrap64 (1 + bt116.1)) x1000 bt116.2.1 bt116.2.2))) else ((spec_l00Src_one.f x1000 x1001 x1002 8).bind fun bt124 => (if bt124.1 = true then (if 0 ≤ (wrap64 (Int.tdiv x3 2)) then (if (wrap64 (Int.tdiv x3 2)) ≤ (x4.length : Int) then ((some (x4.take ((wrap64 (Int.tdiv x3 2)) : Int).toNat : List Int)).bind fun y127 => (if (Int.tmod x3 2) = 0 then ((some (([] : List Int) : List Int)).bind fun y131 => (if y131.length + y127.length < 70368744177664 then ((some (y131 ++ y127 : List Int)).bind fun y134 => (if y134.length + y127.length < 70368744177664 then (some ((y134 ++ y127), bt124.2.1, bt124.2.2)) else (none))) else (none))) else (some (x4, bt124.2.1, bt124.2.2)))) else (none)) else (none)) else (some (x4, bt124.2.1, bt124.2.2))))
def spec_l01Drawn.l1 : Nat → Int → List Int → Int → Int → Int → List Int → Int → Int → Option (List Int × Int × Int)
  | 0, _, _, _, _, _, _, _, _ => none
  | k + 1, x3, x4, x5, x6, x7, x1000, x1001, x1002 => if x7 > 0 then (spec_l01Drawn.j2 k x3 x4 x5 x6 x7 (decide ((x4.length : Int) < x3)) x1000 x1001 x1002) else (spec_l01Drawn.j2 k x3 x4 x5 x6 x7 false x1000 x1001 x1002)
def spec_l01Drawn.j2 : Nat → Int → List Int → Int → Int → Int → Bool → List Int → Int → Int → Option (List Int × Int × Int)
  | 0, _, _, _, _, _, _, _, _, _ => none
  | k + 1, x3, x4, x5, x6, x7, x32, x1000, x1001, x1002 => if x32 = true then ((spec_l00Min.f 60 (wrap64 (x5 + x6))).bind fun t119 => ((spec_l00Max.f 0 t119).bind fun t120 => (if x4.length < 70368744177664 then (spec_l01Drawn.l1 k x3 (x4 ++ [IntKind.i16.wrap (t120)]) t120 x6 (wrap64 (x7 - 1)) x1000 x1001 x1002) else (none)))) else (spec_l01Drawn.l0 k x3 x4 x5 x1000 x1001 x1002)
end
def spec_l01Drawn.f (k : Nat) (s0_0 : List Int) (s0_1 : Int) (s0_2 : Int) : Option (List Int × Int × Int) := (spec_l00Src_among.f s0_0 s0_1 s0_2 (([8, 9, 12, 16, 24, 36] : List Int))).bind fun bt104 => ((spec_l00Src_pick.f s0_0 bt104.2.1 bt104.2.2 20).bind fun bt110 => (spec_l01Drawn.l0 k bt104.1 (([] : List Int)) bt110.1 s0_0 bt110.2.1 bt110.2.2))
theorem spec_l01Drawn.mono_l : ∀ k, (∀ y0 y1 y2 y3 y4 y5, LeO (spec_l01Drawn.l0 k y0 y1 y2 y3 y4 y5) (spec_l01Drawn.l0 (k + 1) y0 y1 y2 y3 y4 y5)) ∧ (∀ y0 y1 y2 y3 y4 y5 y6 y7, LeO (spec_l01Drawn.l1 k y0 y1 y2 y3 y4 y5 y6 y7) (spec_l01Drawn.l1 (k + 1) y0 y1 y2 y3 y4 y5 y6 y7)) ∧ (∀ y0 y1 y2 y3 y4 y5 y6 y7 y8, LeO (spec_l01Drawn.j2 k y0 y1 y2 y3 y4 y5 y6 y7 y8) (spec_l01Drawn.j2 (k + 1) y0 y1 y2 y3 y4 y5 y6 y7 y8))
  | 0 => ⟨fun _ _ _ _ _ _ r h => by simp [spec_l01Drawn.l0] at h, fun _ _ _ _ _ _ _ _ r h => by simp [spec_l01Drawn.l1] at h, fun _ _ _ _ _ _ _ _ _ r h => by simp [spec_l01Drawn.j2] at h⟩
  | k + 1 => by
    obtain ⟨ih0, ih1, ih2⟩ := spec_l01Drawn.mono_l k
    refine ⟨?_, ?_, ?_⟩
    · intro y0 y1 y2 y3 y4 y5
      unfold spec_l01Drawn.l0
      repeat' first
      | (with_reducible exact ih0 _ _ _ _ _ _)
      | (with_reducible exact ih1 _ _ _ _ _ _ _ _)
      | (with_reducible exact ih2 _ _ _ _ _ _ _ _ _)
      | (with_reducible exact LeO.refl _)
      | (with_reducible exact LeO.none _)
      | (with_reducible refine LeO.ite ?_ ?_)
      | (with_reducible refine LeO.bind ?_ (fun _ => ?_))
      | exact ih0 _ _ _ _ _ _
      | exact ih1 _ _ _ _ _ _ _ _
      | exact ih2 _ _ _ _ _ _ _ _ _
      | exact LeO.none _
      | refine LeO.ite ?_ ?_
      | refine LeO.bind ?_ (fun _ => ?_)
    · intro y0 y1 y2 y3 y4 y5 y6 y7
      unfold spec_l01Drawn.l1
      repeat' first
      | (with_reducible exact ih0 _ _ _ _ _ _)
      | (with_reducible exact ih1 _ _ _ _ _ _ _ _)
      | (with_reducible exact ih2 _ _ _ _ _ _ _ _ _)
      | (with_reducible exact LeO.refl _)
      | (with_reducible exact LeO.none _)
      | (with_reducible refine LeO.ite ?_ ?_)
      | (with_reducible refine LeO.bind ?_ (fun _ => ?_))
      | exact ih0 _ _ _ _ _ _
      | exact ih1 _ _ _ _ _ _ _ _
      | exact ih2 _ _ _ _ _ _ _ _ _
      | exact LeO.none _
      | refine LeO.ite ?_ ?_
      | refine LeO.bind ?_ (fun _ => ?_)
    · intro y0 y1 y2 y3 y4 y5 y6 y7 y8
      unfold spec_l01Drawn.j2
      repeat' first
      | (with_reducible exact ih0 _ _ _ _ _ _)
      | (with_reducible exact ih1 _ _ _ _ _ _ _ _)
      | (with_reducible exact ih2 _ _ _ _ _ _ _ _ _)
      | (with_reducible exact LeO.refl _)
      | (with_reducible exact LeO.none _)
      | (with_reducible refine LeO.ite ?_ ?_)
      | (with_reducible refine LeO.bind ?_ (fun _ => ?_))
      | exact ih0 _ _ _ _ _ _
      | exact ih1 _ _ _ _ _ _ _ _
      | exact ih2 _ _ _ _ _ _ _ _ _
      | exact LeO.none _
      | refine LeO.ite ?_ ?_
      | refine LeO.bind ?_ (fun _ => ?_)
theorem spec_l01Drawn.mono : ∀ a0 a1 a2 k, LeO (spec_l01Drawn.f k a0 a1 a2) (spec_l01Drawn.f (k + 1) a0 a1 a2) := by
  intro a0 a1 a2 k
  obtain ⟨ih0, ih1, ih2⟩ := spec_l01Drawn.mono_l k
  unfold spec_l01Drawn.f
  repeat' first
      | (with_reducible exact ih0 _ _ _ _ _ _)
      | (with_reducible exact ih1 _ _ _ _ _ _ _ _)
      | (with_reducible exact ih2 _ _ _ _ _ _ _ _ _)
      | (with_reducible exact LeO.refl _)
      | (with_reducible exact LeO.none _)
      | (with_reducible refine LeO.ite ?_ ?_)
      | (with_reducible refine LeO.bind ?_ (fun _ => ?_))
      | exact ih0 _ _ _ _ _ _
      | exact ih1 _ _ _ _ _ _ _ _
      | exact ih2 _ _ _ _ _ _ _ _ _
      | exact LeO.none _
      | refine LeO.ite ?_ ?_
      | refine LeO.bind ?_ (fun _ => ?_)
end Go.Proofs.Ytpjibhedpieafaa.H
namespace Go.Proofs.Ytpjibhedpieafaa.H
open Go.RowKit Go.Proofs.YtpjibhedpieafaaW.PrintWords Go.Proofs.YtpjibhedpieafaaW.PrintLast Go.Proofs.YtpjibhedpieafaaW.PrintMore
attribute [local go_sem] max2_int min2_int max_two min_two max_three min_three max_four min_four   -- for this text's walks alone
set_option linter.unusedVariables false
set_option linter.unusedSimpArgs false
def spec_P6Cam.f (k : Nat) (l0 : List Int) : Option (List Int) := (spec_l00From.f l0).bind fun bt101 => ((spec_l01Drawn.f k bt101.1 bt101.2.1 bt101.2.2).bind fun bt105 => (some bt105.1))
theorem spec_P6Cam.mono : ∀ a0 k, LeO (spec_P6Cam.f k a0) (spec_P6Cam.f (k + 1) a0) := by
  intro a0 k
  unfold spec_P6Cam.f
  repeat' first
      | (with_reducible exact spec_l01Drawn.mono _ _ _ _)
      | (with_reducible exact LeO.refl _)
      | (with_reducible exact LeO.none _)
      | (with_reducible refine LeO.ite ?_ ?_)
      | (with_reducible refine LeO.bind ?_ (fun _ => ?_))
      | exact spec_l01Drawn.mono _ _ _ _
      | exact LeO.none _
      | refine LeO.ite ?_ ?_
      | refine LeO.bind ?_ (fun _ => ?_)
def spec_P6Follower.f (l0 : List Int) : Option (Int × Int) := (spec_l00From.f l0).bind fun bt102 => ((spec_l00Src_pick.f bt102.1 bt102.2.1 bt102.2.2 100).bind fun bt106 => ((spec_l00Src_pick.f bt102.1 bt106.2.1 bt106.2.2 6).bind fun bt109 => (some (wrap64 (1 + bt106.1), wrap64 (1 + bt109.1)))))
def spec_P6Pick.f (l0 : List Int) (a1 : Int) : Option (Int) := (spec_l00From.f l0).bind fun bt101 => ((spec_l00Src_pick.f bt101.1 bt101.2.1 bt101.2.2 a1).bind fun bt105 => (some bt105.1))
def spec_l01Same.l0 : Nat → List Int → List Int → Int → Option (Bool)
  | 0, _, _, _ => none
  | k + 1, x0, x1, x5 => if x5 < (x0.length : Int) then (if 0 ≤ x5 then (if x5 < (x1.length : Int) then (if (rd x0 x5) = (rd x1 x5) then (spec_l01Same.l0 k x0 x1 (wrap64 (x5 + 1))) else (some false)) else (none)) else (none)) else (some true)
def spec_l01Same.f (k : Nat) (l0 : List Int) (l1 : List Int) : Option (Bool) := if (l0.length : Int) = (l1.length : Int) then (spec_l01Same.l0 k l0 l1 0) else (some false)
theorem spec_l01Same.mono_l : ∀ k, (∀ y0 y1 y2, LeO (spec_l01Same.l0 k y0 y1 y2) (spec_l01Same.l0 (k + 1) y0 y1 y2))
  | 0 => fun _ _ _ r h => by simp [spec_l01Same.l0] at h
  | k + 1 => by
    have ih0 := spec_l01Same.mono_l k
    · intro y0 y1 y2
      unfold spec_l01Same.l0
      repeat' first
      | (with_reducible exact ih0 _ _ _)
      | (with_reducible exact LeO.refl _)
      | (with_reducible exact LeO.none _)
      | (with_reducible refine LeO.ite ?_ ?_)
      | (with_reducible refine LeO.bind ?_ (fun _ => ?_))
      | exact ih0 _ _ _
      | exact LeO.none _
      | refine LeO.ite ?_ ?_
      | refine LeO.bind ?_ (fun _ => ?_)
theorem spec_l01Same.mono : ∀ a0 a1 k, LeO (spec_l01Same.f k a0 a1) (spec_l01Same.f (k + 1) a0 a1) := by
  intro a0 a1 k
  have ih0 := spec_l01Same.mono_l k
  unfold spec_l01Same.f
  repeat' first
      | (with_reducible exact ih0 _ _ _)
      | (with_reducible exact LeO.refl _)
      | (with_reducible exact LeO.none _)
      | (with_reducible refine LeO.ite ?_ ?_)
      | (with_reducible refine LeO.bind ?_ (fun _ => ?_))
      | exact ih0 _ _ _
      | exact LeO.none _
      | refine LeO.ite ?_ ?_
      | refine LeO.bind ?_ (fun _ => ?_)
def spec_SameCam.f (k : Nat) (l0 : List Int) (l1 : List Int) : Option (Bool) := (spec_l01Same.f k l0 l1).bind fun t101 => (some t101)
theorem spec_SameCam.mono : ∀ a0 a1 k, LeO (spec_SameCam.f k a0 a1) (spec_SameCam.f (k + 1) a0 a1) := by
  intro a0 a1 k
  unfold spec_SameCam.f
  repeat' first
      | (with_reducible exact spec_l01Same.mono _ _ _)
      | (with_reducible exact LeO.refl _)
      | (with_reducible exact LeO.none _)
      | (with_reducible refine LeO.ite ?_ ?_)
      | (with_reducible refine LeO.bind ?_ (fun _ => ?_))
      | exact spec_l01Same.mono _ _ _
      | exact LeO.none _
      | refine LeO.ite ?_ ?_
      | refine LeO.bind ?_ (fun _ => ?_)
def spec_l03Ok.f (a0_0 : Int) (a0_1 : Int) : Option (Bool) := (spec_l00In.f a0_0 1 20000).bind fun t102 => (if t102 = true then ((spec_l00In.f a0_1 1 10000).bind fun t103 => (some t103)) else (some false))
def spec_l03Asked.f (k : Nat) (l0 : List Int) (a1_0 : Int) (a1_1 : Int) : Option (Int) := (spec_l01Ok.f k l0).bind fun t102 => (if t102 = true then ((spec_l03Ok.f a1_0 a1_1).bind fun t103 => (if t103 = true then (some 0) else (some 1))) else (some 1))
theorem spec_l03Asked.mono : ∀ a0 a1 a2 k, LeO (spec_l03Asked.f k a0 a1 a2) (spec_l03Asked.f (k + 1) a0 a1 a2) := by
  intro a0 a1 a2 k
  unfold spec_l03Asked.f
  repeat' first
      | (with_reducible exact spec_l01Ok.mono _ _)
      | (with_reducible exact LeO.refl _)
      | (with_reducible exact LeO.none _)
      | (with_reducible refine LeO.ite ?_ ?_)
      | (with_reducible refine LeO.bind ?_ (fun _ => ?_))
      | exact spec_l01Ok.mono _ _
      | exact LeO.none _
      | refine LeO.ite ?_ ?_
      | refine LeO.bind ?_ (fun _ => ?_)
def spec_SteepestSlope.f (k : Nat) (l0 : List Int) (a1_0 : Int) (a1_1 : Int) : Option (Int × Int × Int × Int) := (spec_l03Asked.f k l0 a1_0 a1_1).bind fun t103 => (if t103 = 0 then ((spec_l03Steepest.f k l0 a1_0).bind fun bt104 => (some (bt104.1, bt104.2.1, bt104.2.2, 0))) else (some (0, 0, 0, t103)))
theorem spec_SteepestSlope.mono : ∀ a0 a1 a2 k, LeO (spec_SteepestSlope.f k a0 a1 a2) (spec_SteepestSlope.f (k + 1) a0 a1 a2) := by
  intro a0 a1 a2 k
  unfold spec_SteepestSlope.f
  repeat' first
      | (with_reducible exact spec_l03Asked.mono _ _ _ _)
      | (with_reducible exact spec_l03Steepest.mono _ _ _)
      | (with_reducible exact LeO.refl _)
      | (with_reducible exact LeO.none _)
      | (with_reducible refine LeO.ite ?_ ?_)
      | (with_reducible refine LeO.bind ?_ (fun _ => ?_))
      | exact spec_l03Asked.mono _ _ _ _
      | exact spec_l03Steepest.mono _ _ _
      | exact LeO.none _
      | refine LeO.ite ?_ ?_
      | refine LeO.bind ?_ (fun _ => ?_)
def spec_l03Wearing.f (k : Nat) (l0 : List Int) (a1_0 : Int) (a1_1 : Int) (a2 : Int) (a3 : Int) : Option (Int) := (spec_l03Asked.f k l0 a1_0 a1_1).bind fun t102 => (if t102 = 0 then ((spec_l00In.f a2 0 100).bind fun t103 => (if t103 = true then ((spec_l00In.f a3 1 10000).bind fun t104 => (if t104 = true then (some t102) else (some 2))) else (some 2))) else (some t102))
theorem spec_l03Wearing.mono : ∀ a0 a1 a2 a3 a4 k, LeO (spec_l03Wearing.f k a0 a1 a2 a3 a4) (spec_l03Wearing.f (k + 1) a0 a1 a2 a3 a4) := by
  intro a0 a1 a2 a3 a4 k
  unfold spec_l03Wearing.f
  repeat' first
      | (with_reducible exact spec_l03Asked.mono _ _ _ _)
      | (with_reducible exact LeO.refl _)
      | (with_reducible exact LeO.none _)
      | (with_reducible refine LeO.ite ?_ ?_)
      | (with_reducible refine LeO.bind ?_ (fun _ => ?_))
      | exact spec_l03Asked.mono _ _ _ _
      | exact LeO.none _
      | refine LeO.ite ?_ ?_
      | refine LeO.bind ?_ (fun _ => ?_)
def spec_l03Blow.f (l0 : List (S238)) (a1 : Int) (a2 : Int) : Option (Int) := if 0 ≤ a1 then (if a1 < (l0.length : Int) then (if ((rd_T238 l0 a1).f2 = true) then (if 0 ≤ (wrap64 (a1 - 1)) then (if (wrap64 (a1 - 1)) < (l0.length : Int) then (if (rd_T238 l0 (wrap64 (a1 - 1))).f2 = true then (some 0) else (some (wrap64 (((rd_T238 l0 a1).f1) - (wrap64 (((rd_T238 l0 (wrap64 (a1 - 1))).f1) - a2)))))) else (none)) else (none)) else (some 0)) else (none)) else (none)
def spec_l03Begin.f (l0 : List Int) : Option (Int × Int × Bool) := (spec_l01At.f l0 0).bind fun t102 => ((spec_l01At.f l0 0).bind fun t103 => ((spec_l01At.f l0 (-1)).bind fun t104 => (some (t102, wrap64 (t103 - t104), true))))
def spec_l03Next.f (a0_0 : Int) (a0_1 : Int) (a0_2 : Bool) (a1 : Int) (a2 : Int) : Option (Int × Int × Bool) := if (wrap64 (a0_0 + (wrap64 (a0_1 - a2)))) > a1 then (some (wrap64 (a0_0 + (wrap64 (a0_1 - a2))), wrap64 (a0_1 - a2), false)) else (some (a1, wrap64 (a1 - a0_0), true))
def spec_l03Follow.l0 : Nat → List Int → Int → Int → List (S238) → Int → Option ((List (S238)))
  | 0, _, _, _, _, _ => none
  | k + 1, x0, x1, x2, x7, x8 => if x8 ≤ x2 then (if 0 ≤ (wrap64 (x8 - 1)) then (if (wrap64 (x8 - 1)) < (x7.length : Int) then ((spec_l01At.f x0 x8).bind fun t108 => ((spec_l03Next.f ((rd_T238 x7 (wrap64 (x8 - 1))).f0) ((rd_T238 x7 (wrap64 (x8 - 1))).f1) ((rd_T238 x7 (wrap64 (x8 - 1))).f2) t108 x1).bind fun bt109 => (if x7.length < 5864062014805 then (spec_l03Follow.l0 k x0 x1 x2 (x7 ++ [(⟨bt109.1, bt109.2.1, bt109.2.2⟩ : S238)]) (wrap64 (x8 + 1))) else (none)))) else (none)) else (none)) else (some x7)
def spec_l03Follow.f (k : Nat) (l0 : List Int) (a1 : Int) (a2 : Int) : Option ((List (S238))) := (spec_l03Begin.f l0).bind fun bt101 => (spec_l03Follow.l0 k l0 a1 a2 (([(⟨bt101.1, bt101.2.1, bt101.2.2⟩ : S238)] : List (S238))) 1)
theorem spec_l03Follow.mono_l : ∀ k, (∀ y0 y1 y2 y3 y4, LeO (spec_l03Follow.l0 k y0 y1 y2 y3 y4) (spec_l03Follow.l0 (k + 1) y0 y1 y2 y3 y4))
  | 0 => fun _ _ _ _ _ r h => by simp [spec_l03Follow.l0] at h
  | k + 1 => by
    have ih0 := spec_l03Follow.mono_l k
    · intro y0 y1 y2 y3 y4
      unfold spec_l03Follow.l0
      repeat' first
      | (with_reducible exact ih0 _ _ _ _ _)
      | (with_reducible exact LeO.refl _)
      | (with_reducible exact LeO.none _)
      | (with_reducible refine LeO.ite ?_ ?_)
      | (with_reducible refine LeO.bind ?_ (fun _ => ?_))
      | exact ih0 _ _ _ _ _
      | exact LeO.none _
      | refine LeO.ite ?_ ?_
      | refine LeO.bind ?_ (fun _ => ?_)
theorem spec_l03Follow.mono : ∀ a0 a1 a2 k, LeO (spec_l03Follow.f k a0 a1 a2) (spec_l03Follow.f (k + 1) a0 a1 a2) := by
  intro a0 a1 a2 k
  have ih0 := spec_l03Follow.mono_l k
  unfold spec_l03Follow.f
  repeat' first
      | (with_reducible exact ih0 _ _ _ _ _)
      | (with_reducible exact LeO.refl _)
      | (with_reducible exact LeO.none _)
      | (with_reducible refine LeO.ite ?_ ?_)
      | (with_reducible refine LeO.bind ?_ (fun _ => ?_))
      | exact ih0 _ _ _ _ _
      | exact LeO.none _
      | refine LeO.ite ?_ ?_
      | refine LeO.bind ?_ (fun _ => ?_)
def spec_l03Follow.T5 : Bool × List (List Nat × List Nat) := (true, [([], []), ([], []), ([], []), ([2], [2]), ([1, 3], [1, 3]), ([4], [4]), ([], []), ([], []), ([6, 7], [6, 7]), ([], []), ([5, 8, 9, 8], [5, 8, 9]), ([10], [10]), ([0, 11, 10], [0, 11]), ([12, 12, 0, 1, 2, 3, 4, 5, 6, 7, 8, 9, 10, 11, 12], [0, 1, 12])])
def spec_l03Follow.B5 : List Nat := [0, 0, 0, 4, 14, 30, 0, 0, 192, 0, 1022, 2046, 4095, 8191]
theorem spec_l03Follow.tab5 : rtab .any (opsOf Try.f245 5) = spec_l03Follow.T5 := by kernel_rfl
theorem spec_l03Follow.bits5 : waitsOk spec_l03Follow.T5.2 spec_l03Follow.B5 = true := by kernel_rfl
def spec_l03Lands.f (l0 : List (S238)) (a1 : Int) : Option (Bool) := if 0 ≤ a1 then (if a1 < (l0.length : Int) then (if (rd_T238 l0 a1).f2 = true then (if 0 ≤ (wrap64 (a1 - 1)) then (if (wrap64 (a1 - 1)) < (l0.length : Int) then (some (!((rd_T238 l0 (wrap64 (a1 - 1))).f2))) else (none)) else (none)) else (some false)) else (none)) else (none)
def spec_l03Worn.l0 : Nat → List Int → Int → Int → Int → List (S238) → List Int → Int → Option (List Int)
  | 0, _, _, _, _, _, _, _ => none
  | k + 1, x0, x1, x2, x7, x8, x9, x10 => if x10 ≤ (wrap64 (2 * x7)) then ((spec_l03Lands.f x8 x10).bind fun t110 => (if t110 = true then ((spec_l01At.f x0 x10).bind fun t111 => ((spec_l03Blow.f x8 x10 x1).bind fun t112 => (if x2 = 0 then (none) else (if x7 = 0 then (none) else ((spec_l00Max.f 0 (wrap64 (t111 - (wrap64 (Int.tdiv t112 x2))))).bind fun t113 => (if 0 ≤ (Int.tmod x10 x7) then (if (Int.tmod x10 x7) < (x9.length : Int) then (spec_l03Worn.l0 k x0 x1 x2 x7 x8 (x9.set ((Int.tmod x10 x7) : Int).toNat (IntKind.i16.wrap (t113))) (wrap64 (x10 + 1))) else (none)) else (none))))))) else (spec_l03Worn.l0 k x0 x1 x2 x7 x8 x9 (wrap64 (x10 + 1))))) else (some x9)
def spec_l03Worn.f (k : Nat) (l0 : List Int) (a1 : Int) (a2 : Int) : Option (List Int) := (spec_l03Follow.f k l0 a1 (wrap64 (2 * (l0.length : Int)))).bind fun t101 => ((some (([] : List Int) : List Int)).bind fun y104 => (if y104.length + l0.length < 70368744177664 then (spec_l03Worn.l0 k l0 a1 a2 (l0.length : Int) t101 (y104 ++ l0) (wrap64 ((l0.length : Int) + 1))) else (none)))
theorem spec_l03Worn.mono_l : ∀ k, (∀ y0 y1 y2 y3 y4 y5 y6, LeO (spec_l03Worn.l0 k y0 y1 y2 y3 y4 y5 y6) (spec_l03Worn.l0 (k + 1) y0 y1 y2 y3 y4 y5 y6))
  | 0 => fun _ _ _ _ _ _ _ r h => by simp [spec_l03Worn.l0] at h
  | k + 1 => by
    have ih0 := spec_l03Worn.mono_l k
    · intro y0 y1 y2 y3 y4 y5 y6
      unfold spec_l03Worn.l0
      repeat' first
      | (with_reducible exact ih0 _ _ _ _ _ _ _)
      | (with_reducible exact spec_l03Follow.mono _ _ _ _)
      | (with_reducible exact LeO.refl _)
      | (with_reducible exact LeO.none _)
      | (with_reducible refine LeO.ite ?_ ?_)
      | (with_reducible refine LeO.bind ?_ (fun _ => ?_))
      | exact ih0 _ _ _ _ _ _ _
      | exact spec_l03Follow.mono _ _ _ _
      | exact LeO.none _
      | refine LeO.ite ?_ ?_
      | refine LeO.bind ?_ (fun _ => ?_)
theorem spec_l03Worn.mono : ∀ a0 a1 a2 k, LeO (spec_l03Worn.f k a0 a1 a2) (spec_l03Worn.f (k + 1) a0 a1 a2) := by
  intro a0 a1 a2 k
  have ih0 := spec_l03Worn.mono_l k
  unfold spec_l03Worn.f
  repeat' first
      | (with_reducible exact ih0 _ _ _ _ _ _ _)
      | (with_reducible exact spec_l03Follow.mono _ _ _ _)
      | (with_reducible exact LeO.refl _)
      | (with_reducible exact LeO.none _)
      | (with_reducible refine LeO.ite ?_ ?_)
      | (with_reducible refine LeO.bind ?_ (fun _ => ?_))
      | exact ih0 _ _ _ _ _ _ _
      | exact spec_l03Follow.mono _ _ _ _
      | exact LeO.none _
      | refine LeO.ite ?_ ?_
      | refine LeO.bind ?_ (fun _ => ?_)
def spec_l03Worn.T9 : Bool × List (List Nat × List Nat) := (true, [([], []), ([], []), ([], []), ([1, 2], [1, 2]), ([], []), ([4], [4]), ([5], [5]), ([0, 3, 0, 1, 2, 3, 4, 5, 6], [0, 3]), ([7, 6, 5, 0, 1, 2, 3, 4, 5, 6], [6, 7])])
def spec_l03Worn.B9 : List Nat := [0, 0, 0, 6, 0, 16, 48, 127, 255]
theorem spec_l03Worn.tab9 : rtab .any (opsOf Try.f195 9) = spec_l03Worn.T9 := by kernel_rfl
theorem spec_l03Worn.bits9 : waitsOk spec_l03Worn.T9.2 spec_l03Worn.B9 = true := by kernel_rfl
def spec_WearCam.l0 : Nat → Int → Int → List Int → Int → Int → Int → Option (List Int × Int)
  | 0, _, _, _, _, _, _ => none
  | k + 1, x2, x3, x11, x12, x102000, x102001 => if x12 < x2 then ((spec_l03Worn.f k x11 x102001 x3).bind fun t112 => (spec_WearCam.l0 k x2 x3 t112 (wrap64 (x12 + 1)) x102000 x102001)) else (some (x11, 0))
def spec_WearCam.f (k : Nat) (l0 : List Int) (a1_0 : Int) (a1_1 : Int) (a2 : Int) (a3 : Int) : Option (List Int × Int) := (spec_l03Wearing.f k l0 a1_0 a1_1 a2 a3).bind fun t102 => (if t102 = 0 then ((some (([] : List Int) : List Int)).bind fun y106 => (if y106.length + l0.length < 70368744177664 then (spec_WearCam.l0 k a2 a3 (y106 ++ l0) 0 a1_0 a1_1) else (none))) else (some ((([] : List Int)), t102)))
theorem spec_WearCam.mono_l : ∀ k, (∀ y0 y1 y2 y3 y4 y5, LeO (spec_WearCam.l0 k y0 y1 y2 y3 y4 y5) (spec_WearCam.l0 (k + 1) y0 y1 y2 y3 y4 y5))
  | 0 => fun _ _ _ _ _ _ r h => by simp [spec_WearCam.l0] at h
  | k + 1 => by
    have ih0 := spec_WearCam.mono_l k
    · intro y0 y1 y2 y3 y4 y5
      unfold spec_WearCam.l0
      repeat' first
      | (with_reducible exact ih0 _ _ _ _ _ _)
      | (with_reducible exact spec_l03Wearing.mono _ _ _ _ _ _)
      | (with_reducible exact spec_l03Worn.mono _ _ _ _)
      | (with_reducible exact LeO.refl _)
      | (with_reducible exact LeO.none _)
      | (with_reducible refine LeO.ite ?_ ?_)
      | (with_reducible refine LeO.bind ?_ (fun _ => ?_))
      | exact ih0 _ _ _ _ _ _
      | exact spec_l03Wearing.mono _ _ _ _ _ _
      | exact spec_l03Worn.mono _ _ _ _
      | exact LeO.none _
      | refine LeO.ite ?_ ?_
      | refine LeO.bind ?_ (fun _ => ?_)
theorem spec_WearCam.mono : ∀ a0 a1 a2 a3 a4 k, LeO (spec_WearCam.f k a0 a1 a2 a3 a4) (spec_WearCam.f (k + 1) a0 a1 a2 a3 a4) := by
  intro a0 a1 a2 a3 a4 k
  have ih0 := spec_WearCam.mono_l k
  unfold spec_WearCam.f
  repeat' first
      | (with_reducible exact ih0 _ _ _ _ _ _)
      | (with_reducible exact spec_l03Wearing.mono _ _ _ _ _ _)
      | (with_reducible exact spec_l03Worn.mono _ _ _ _)
      | (with_reducible exact LeO.refl _)
      | (with_reducible exact LeO.none _)
      | (with_reducible refine LeO.ite ?_ ?_)
      | (with_reducible refine LeO.bind ?_ (fun _ => ?_))
      | exact ih0 _ _ _ _ _ _
      | exact spec_l03Wearing.mono _ _ _ _ _ _
      | exact spec_l03Worn.mono _ _ _ _
      | exact LeO.none _
      | refine LeO.ite ?_ ?_
      | refine LeO.bind ?_ (fun _ => ?_)
end Go.Proofs.Ytpjibhedpieafaa.H
namespace Go.Proofs.Ytpjibhedpieafaa.H
open Go.RowKit Go.Proofs.YtpjibhedpieafaaW.PrintWords Go.Proofs.YtpjibhedpieafaaW.PrintLast Go.Proofs.YtpjibhedpieafaaW.PrintMore
attribute [local go_sem] max2_int min2_int max_two min_two max_three min_three max_four min_four   -- for this text's walks alone
set_option linter.unusedVariables false
set_option linter.unusedSimpArgs false
mutual
def laws_FnSlopes.j0 : Nat → List Int → List Int → Bool → Option (Bool)
 | 0, _, _, _ => none
 | k + 1, x0, x1, x49 => if x49 = true then (some true) else ((spec_P6Cam.f k x0).bind fun t103 => ((spec_P6Follower.f x1).bind fun bt106 => ((impl_SteepestSlope.f k t103 bt106.1 bt106.2).bind fun bt109 => ((spec_SteepestSlope.f k t103 bt106.1 bt106.2).bind fun bt114 => (if bt109.2.2.2 = bt114.2.2.2 then (if bt109.2.2.2 = 0 then (if bt109.1 = bt114.1 then (laws_FnSlopes.j1 k x0 x1 t103 bt114.1 (!(bt109.2.1 == bt114.2.1) || (!(bt109.2.2.1 == bt114.2.2.1))) bt106.1 bt106.2 bt114.2.1 bt114.2.2.1) else (none)) else (none)) else (none))))))
def laws_FnSlopes.j1 : Nat → List Int → List Int → List Int → Int → Bool → Int → Int → Int → Int → Option (Bool)
 | 0, _, _, _, _, _, _, _, _, _ => none
 | k + 1, x0, x1, x5, x10, x84, x109000, x109001, x119000, x119001 => if x84 = true then (none) else (laws_FnSlopes.l0 k x0 x1 x5 x10 0 x109000 x109001 x119000 x119001)
def laws_FnSlopes.l0 : Nat → List Int → List Int → List Int → Int → Int → Int → Int → Int → Int → Option (Bool)
 | 0, _, _, _, _, _, _, _, _, _ => none
 | k + 1, x0, x1, x5, x10, x13, x109000, x109001, x119000, x119001 => if x13 < (x5.length : Int) then ((impl_SlopeAt.f k x5 x109000 x109001 x13).bind fun bt119 => ((impl_CompareSlopes.f bt119.1 bt119.2.1 x119000 x119001).bind fun bt123 => (if bt119.2.2 = 0 then (if bt123.2 = 0 then (if bt123.1 > 0 then (none) else (if x13 < x10 then (if bt123.1 = 0 then (none) else (if x13 = x10 then (if (!(bt119.1 == x119000) || (!(bt119.2.1 == x119001))) = true then (none) else (laws_FnSlopes.l0 k x0 x1 x5 x10 (wrap64 (x13 + 1)) x109000 x109001 x119000 x119001)) else (laws_FnSlopes.l0 k x0 x1 x5 x10 (wrap64 (x13 + 1)) x109000 x109001 x119000 x119001))) else (if x13 = x10 then (if (!(bt119.1 == x119000) || (!(bt119.2.1 == x119001))) = true then (none) else (laws_FnSlopes.l0 k x0 x1 x5 x10 (wrap64 (x13 + 1)) x109000 x109001 x119000 x119001)) else (laws_FnSlopes.l0 k x0 x1 x5 x10 (wrap64 (x13 + 1)) x109000 x109001 x119000 x119001)))) else (none)) else (none)))) else ((spec_P6Pick.f x1 9).bind fun t125 => ((spec_P6Pick.f x0 9).bind fun t126 => ((impl_LeastBase.f k x5 (wrap64 (1 + t125)) (wrap64 (1 + t126))).bind fun bt128 => ((spec_LeastBase.f k x5 (wrap64 (1 + t125)) (wrap64 (1 + t126))).bind fun bt130 => (if bt128.2 = bt130.2 then (laws_FnSlopes.j3 k x5 bt128.2 bt130.1 (bt128.1 != bt130.1) x109000 x109001 (wrap64 (1 + t125)) (wrap64 (1 + t126))) else (none))))))
def laws_FnSlopes.j3 : Nat → List Int → Int → Int → Bool → Int → Int → Int → Int → Option (Bool)
 | 0, _, _, _, _, _, _, _, _ => none
 | k + 1, x5, x20, x21, x159, x109000, x109001, x128000, x128001 => if x159 = true then (none) else (if x20 = 0 then ((spec_SteepestSlope.f k x5 x21 1).bind fun bt132 => ((impl_CompareSlopes.f bt132.2.1 bt132.2.2.1 x128000 x128001).bind fun bt137 => (if bt132.2.2.2 = 0 then (if bt137.2 = 0 then (laws_FnSlopes.j4 k x5 x21 (decide (bt137.1 > 0)) x109000 x109001 x128000 x128001) else (none)) else (none)))) else (if x20 = 6 then (laws_FnSlopes.j5 k x5 x109000 x109001) else (none)))
def laws_FnSlopes.j5 : Nat → List Int → Int → Int → Option (Bool)
 | 0, _, _, _ => none
 | k + 1, x5, x109000, x109001 => (spec_LeastSpring.f k x5).bind fun bt146 => ((impl_WearCam.f k x5 5 bt146.1 4 1).bind fun bt148 => ((impl_WearCam.f k x5 x109000 x109001 3 2).bind fun bt152 => ((spec_WearCam.f k x5 x109000 x109001 3 2).bind fun bt156 => ((impl_TurnsToWear.f k x5 x109000 x109001 2 3).bind fun bt160 => (if bt146.2 = 0 then (if bt148.2 = 0 then ((spec_SameCam.f k bt148.1 x5).bind fun t162 => (if t162 = true then (if bt152.2 = bt156.2 then (if bt152.2 = 0 then ((spec_SameCam.f k bt152.1 bt156.1).bind fun t163 => (if t163 = true then (laws_FnSlopes.j6 k x5 bt156.1 bt160.1 bt160.2 ((bt156.1.length : Int) != (x5.length : Int))) else (none))) else (none)) else (none)) else (none))) else (none)) else (none))))))
def laws_FnSlopes.j6 : Nat → List Int → List Int → Int → Int → Bool → Option (Bool)
 | 0, _, _, _, _, _ => none
 | k + 1, x5, x39, x41, x42, x278 => if x278 = true then (none) else (laws_FnSlopes.l1 k x5 x39 x41 x42 0)
def laws_FnSlopes.l1 : Nat → List Int → List Int → Int → Int → Int → Option (Bool)
 | 0, _, _, _, _, _ => none
 | k + 1, x5, x39, x41, x42, x43 => if x43 < (x5.length : Int) then (if 0 ≤ x43 then (if x43 < (x39.length : Int) then (if (rd x39 x43) > (rd x5 x43) then (none) else (if (rd x39 x43) < 0 then (none) else (laws_FnSlopes.l1 k x5 x39 x41 x42 (wrap64 (x43 + 1))))) else (none)) else (none)) else (if x42 = 0 then ((spec_SameCam.f k x39 x5).bind fun t167 => (if ((x41 == 1) != t167) = true then (some true) else (none))) else ((spec_SameCam.f k x39 x5).bind fun t168 => (if (false != t168) = true then (some (x42 == 6)) else (none))))
def laws_FnSlopes.j4 : Nat → List Int → Int → Bool → Int → Int → Int → Int → Option (Bool)
 | 0, _, _, _, _, _, _, _ => none
 | k + 1, x5, x21, x185, x109000, x109001, x128000, x128001 => if x185 = true then (none) else (if x21 > 1 then ((spec_SteepestSlope.f k x5 (wrap64 (x21 - 1)) 1).bind fun bt139 => ((impl_CompareSlopes.f bt139.2.1 bt139.2.2.1 x128000 x128001).bind fun bt144 => (if bt139.2.2.2 = 0 then (if bt144.2 = 0 then (if bt144.1 ≤ 0 then (none) else (laws_FnSlopes.j5 k x5 x109000 x109001)) else (none)) else (none)))) else (laws_FnSlopes.j5 k x5 x109000 x109001))
end
def laws_FnSlopes.f (k : Nat) (l0 : List Int) (l1 : List Int) : Option (Bool) := (laws_f6big.f l0).bind fun t101 => (if t101 = true then (laws_FnSlopes.j0 k l0 l1 true) else ((laws_f6big.f l1).bind fun t102 => (laws_FnSlopes.j0 k l0 l1 t102)))
theorem laws_FnSlopes.mono_l : ∀ k, (∀ y0 y1 y2, LeO (laws_FnSlopes.j0 k y0 y1 y2) (laws_FnSlopes.j0 (k + 1) y0 y1 y2)) ∧ (∀ y0 y1 y2 y3 y4 y5 y6 y7 y8, LeO (laws_FnSlopes.j1 k y0 y1 y2 y3 y4 y5 y6 y7 y8) (laws_FnSlopes.j1 (k + 1) y0 y1 y2 y3 y4 y5 y6 y7 y8)) ∧ (∀ y0 y1 y2 y3 y4 y5 y6 y7 y8, LeO (laws_FnSlopes.l0 k y0 y1 y2 y3 y4 y5 y6 y7 y8) (laws_FnSlopes.l0 (k + 1) y0 y1 y2 y3 y4 y5 y6 y7 y8)) ∧ (∀ y0 y1 y2 y3 y4 y5 y6 y7, LeO (laws_FnSlopes.j3 k y0 y1 y2 y3 y4 y5 y6 y7) (laws_FnSlopes.j3 (k + 1) y0 y1 y2 y3 y4 y5 y6 y7)) ∧ (∀ y0 y1 y2, LeO (laws_FnSlopes.j5 k y0 y1 y2) (laws_FnSlopes.j5 (k + 1) y0 y1 y2)) ∧ (∀ y0 y1 y2 y3 y4, LeO (laws_FnSlopes.j6 k y0 y1 y2 y3 y4) (laws_FnSlopes.j6 (k + 1) y0 y1 y2 y3 y4)) ∧ (∀ y0 y1 y2 y3 y4, LeO (laws_FnSlopes.l1 k y0 y1 y2 y3 y4) (laws_FnSlopes.l1 (k + 1) y0 y1 y2 y3 y4)) ∧ (∀ y0 y1 y2 y3 y4 y5 y6, LeO (laws_FnSlopes.j4 k y0 y1 y2 y3 y4 y5 y6) (laws_FnSlopes.j4 (k + 1) y0 y1 y2 y3 y4 y5 y6))
 | 0 => ⟨fun _ _ _ r h => by simp [laws_FnSlopes.j0] at h, fun _ _ _ _ _ _ _ _ _ r h => by simp [laws_FnSlopes.j1] at h, fun _ _ _ _ _ _ _ _ _ r h => by simp [laws_FnSlopes.l0] at h, fun _ _ _ _ _ _ _ _ r h => by simp [laws_FnSlopes.j3] at h, fun _ _ _ r h => by simp [laws_FnSlopes.j5] at h, fun _ _ _ _ _ r h => by simp [laws_FnSlopes.j6] at h, fun _ _ _ _ _ r h => by simp [laws_FnSlopes.l1] at h, fun _ _ _ _ _ _ _ r h => by simp [laws_FnSlopes.j4] at h⟩
 | k + 1 => by
  obtain ⟨ih0, ih1, ih2, ih3, ih4, ih5, ih6, ih7⟩ := laws_FnSlopes.mono_l k
  refine ⟨?_, ?_, ?_, ?_, ?_, ?_, ?_, ?_⟩
  ·intro y0 y1 y2
   unfold laws_FnSlopes.j0
   repeat' first
   | (with_reducible exact ih0 _ _ _)
   | (with_reducible exact ih1 _ _ _ _ _ _ _ _ _)
   | (with_reducible exact ih2 _ _ _ _ _ _ _ _ _)
   | (with_reducible exact ih3 _ _ _ _ _ _ _ _)
   | (with_reducible exact ih4 _ _ _)
   | (with_reducible exact ih5 _ _ _ _ _)
   | (with_reducible exact ih6 _ _ _ _ _)
   | (with_reducible exact ih7 _ _ _ _ _ _ _)
   | (with_reducible exact impl_LeastBase.mono _ _ _ _)
   | (with_reducible exact impl_SlopeAt.mono _ _ _ _ _)
   | (with_reducible exact impl_SteepestSlope.mono _ _ _ _)
   | (with_reducible exact impl_TurnsToWear.mono _ _ _ _ _ _)
   | (with_reducible exact impl_WearCam.mono _ _ _ _ _ _)
   | (with_reducible exact spec_LeastBase.mono _ _ _ _)
   | (with_reducible exact spec_LeastSpring.mono _ _)
   | (with_reducible exact spec_P6Cam.mono _ _)
   | (with_reducible exact spec_SameCam.mono _ _ _)
   | (with_reducible exact spec_SteepestSlope.mono _ _ _ _)
   | (with_reducible exact spec_WearCam.mono _ _ _ _ _ _)
   | (with_reducible exact LeO.refl _)
   | (with_reducible exact LeO.none _)
   | (with_reducible refine LeO.ite ?_ ?_)
   | (with_reducible refine LeO.bind ?_ (fun _ => ?_))
   | exact ih0 _ _ _
   | exact ih1 _ _ _ _ _ _ _ _ _
   | exact ih2 _ _ _ _ _ _ _ _ _
   | exact ih3 _ _ _ _ _ _ _ _
   | exact ih4 _ _ _
   | exact ih5 _ _ _ _ _
   | exact ih6 _ _ _ _ _
   | exact ih7 _ _ _ _ _ _ _
   | exact impl_LeastBase.mono _ _ _ _
   | exact impl_SlopeAt.mono _ _ _ _ _
   | exact impl_SteepestSlope.mono _ _ _ _
   | exact impl_TurnsToWear.mono _ _ _ _ _ _
   | exact impl_WearCam.mono _ _ _ _ _ _
   | exact spec_LeastBase.mono _ _ _ _
   | exact spec_LeastSpring.mono _ _
   | exact spec_P6Cam.mono _ _
   | exact spec_SameCam.mono _ _ _
   | exact spec_SteepestSlope.mono _ _ _ _
   | exact spec_WearCam.mono _ _ _ _ _ _
   | exact LeO.none _
   | refine LeO.ite ?_ ?_
   | refine LeO.bind ?_ (fun _ => ?_)
  ·intro y0 y1 y2 y3 y4 y5 y6 y7 y8
   unfold laws_FnSlopes.j1
   repeat' first
   | (with_reducible exact ih0 _ _ _)
   | (with_reducible exact ih1 _ _ _ _ _ _ _ _ _)
   | (with_reducible exact ih2 _ _ _ _ _ _ _ _ _)
   | (with_reducible exact ih3 _ _ _ _ _ _ _ _)
   | (with_reducible exact ih4 _ _ _)
   | (with_reducible exact ih5 _ _ _ _ _)
   | (with_reducible exact ih6 _ _ _ _ _)
   | (with_reducible exact ih7 _ _ _ _ _ _ _)
   | (with_reducible exact impl_LeastBase.mono _ _ _ _)
   | (with_reducible exact impl_SlopeAt.mono _ _ _ _ _)
   | (with_reducible exact impl_SteepestSlope.mono _ _ _ _)
   | (with_reducible exact impl_TurnsToWear.mono _ _ _ _ _ _)
   | (with_reducible exact impl_WearCam.mono _ _ _ _ _ _)
   | (with_reducible exact spec_LeastBase.mono _ _ _ _)
   | (with_reducible exact spec_LeastSpring.mono _ _)
   | (with_reducible exact spec_P6Cam.mono _ _)
   | (with_reducible exact spec_SameCam.mono _ _ _)
   | (with_reducible exact spec_SteepestSlope.mono _ _ _ _)
   | (with_reducible exact spec_WearCam.mono _ _ _ _ _ _)
   | (with_reducible exact LeO.refl _)
   | (with_reducible exact LeO.none _)
   | (with_reducible refine LeO.ite ?_ ?_)
   | (with_reducible refine LeO.bind ?_ (fun _ => ?_))
   | exact ih0 _ _ _
   | exact ih1 _ _ _ _ _ _ _ _ _
   | exact ih2 _ _ _ _ _ _ _ _ _
   | exact ih3 _ _ _ _ _ _ _ _
   | exact ih4 _ _ _
   | exact ih5 _ _ _ _ _
   | exact ih6 _ _ _ _ _
   | exact ih7 _ _ _ _ _ _ _
   | exact impl_LeastBase.mono _ _ _ _
   | exact impl_SlopeAt.mono _ _ _ _ _
   | exact impl_SteepestSlope.mono _ _ _ _
   | exact impl_TurnsToWear.mono _ _ _ _ _ _
   | exact impl_WearCam.mono _ _ _ _ _ _
   | exact spec_LeastBase.mono _ _ _ _
   | exact spec_LeastSpring.mono _ _
   | exact spec_P6Cam.mono _ _
   | exact spec_SameCam.mono _ _ _
   | exact spec_SteepestSlope.mono _ _ _ _
   | exact spec_WearCam.mono _ _ _ _ _ _
   | exact LeO.none _
   | refine LeO.ite ?_ ?_
   | refine LeO.bind ?_ (fun _ => ?_)
  ·intro y0 y1 y2 y3 y4 y5 y6 y7 y8
   unfold laws_FnSlopes.l0
   repeat' first
   | (with_reducible exact ih0 _ _ _)
   | (with_reducible exact ih1 _ _ _ _ _ _ _ _ _)
   | (with_reducible exact ih2 _ _ _ _ _ _ _ _ _)
   | (with_reducible exact ih3 _ _ _ _ _ _ _ _)
   | (with_reducible exact ih4 _ _ _)
   | (with_reducible exact ih5 _ _ _ _ _)
   | (with_reducible exact ih6 _ _ _ _ _)
   | (with_reducible exact ih7 _ _ _ _ _ _ _)
   | (with_reducible exact impl_LeastBase.mono _ _ _ _)
   | (with_reducible exact impl_SlopeAt.mono _ _ _ _ _)
   | (with_reducible exact impl_SteepestSlope.mono _ _ _ _)
   | (with_reducible exact impl_TurnsToWear.mono _ _ _ _ _ _)
   | (with_reducible exact impl_WearCam.mono _ _ _ _ _ _)
   | (with_reducible exact spec_LeastBase.mono _ _ _ _)
   | (with_reducible exact spec_LeastSpring.mono _ _)
   | (with_reducible exact spec_P6Cam.mono _ _)
   | (with_reducible exact spec_SameCam.mono _ _ _)
   | (with_reducible exact spec_SteepestSlope.mono _ _ _ _)
   | (with_reducible exact spec_WearCam.mono _ _ _ _ _ _)
   | (with_reducible exact LeO.refl _)
   | (with_reducible exact LeO.none _)
   | (with_reducible refine LeO.ite ?_ ?_)
   | (with_reducible refine LeO.bind ?_ (fun _ => ?_))
   | exact ih0 _ _ _
   | exact ih1 _ _ _ _ _ _ _ _ _
   | exact ih2 _ _ _ _ _ _ _ _ _
   | exact ih3 _ _ _ _ _ _ _ _
   | exact ih4 _ _ _
   | exact ih5 _ _ _ _ _
   | exact ih6 _ _ _ _ _
   | exact ih7 _ _ _ _ _ _ _
   | exact impl_LeastBase.mono _ _ _ _
   | exact impl_SlopeAt.mono _ _ _ _ _
   | exact impl_SteepestSlope.mono _ _ _ _
   | exact impl_TurnsToWear.mono _ _ _ _ _ _
   | exact impl_WearCam.mono _ _ _ _ _ _
   | exact spec_LeastBase.mono _ _ _ _
   | exact spec_LeastSpring.mono _ _
   | exact spec_P6Cam.mono _ _
   | exact spec_SameCam.mono _ _ _
   | exact spec_SteepestSlope.mono _ _ _ _
   | exact spec_WearCam.mono _ _ _ _ _ _
   | exact LeO.none _
   | refine LeO.ite ?_ ?_
   | refine LeO.bind ?_ (fun _ => ?_)
  ·intro y0 y1 y2 y3 y4 y5 y6 y7
   unfold laws_FnSlopes.j3
   repeat' first
   | (with_reducible exact ih0 _ _ _)
   | (with_reducible exact ih1 _ _ _ _ _ _ _ _ _)
   | (with_reducible exact ih2 _ _ _ _ _ _ _ _ _)
   | (with_reducible exact ih3 _ _ _ _ _ _ _ _)
   | (with_reducible exact ih4 _ _ _)
   | (with_reducible exact ih5 _ _ _ _ _)
   | (with_reducible exact ih6 _ _ _ _ _)
   | (with_reducible exact ih7 _ _ _ _ _ _ _)
   | (with_reducible exact impl_LeastBase.mono _ _ _ _)
   | (with_reducible exact impl_SlopeAt.mono _ _ _ _ _)
   | (with_reducible exact impl_SteepestSlope.mono _ _ _ _)
   | (with_reducible exact impl_TurnsToWear.mono _ _ _ _ _ _)
   | (with_reducible exact impl_WearCam.mono _ _ _ _ _ _)
   | (with_reducible exact spec_LeastBase.mono _ _ _ _)
   | (with_reducible exact spec_LeastSpring.mono _ _)
   | (with_reducible exact spec_P6Cam.mono _ _)
   | (with_reducible exact spec_SameCam.mono _ _ _)
   | (with_reducible exact spec_SteepestSlope.mono _ _ _ _)
   | (with_reducible exact spec_WearCam.mono _ _ _ _ _ _)
   | (with_reducible exact LeO.refl _)
   | (with_reducible exact LeO.none _)
   | (with_reducible refine LeO.ite ?_ ?_)
   | (with_reducible refine LeO.bind ?_ (fun _ => ?_))
   | exact ih0 _ _ _
   | exact ih1 _ _ _ _ _ _ _ _ _
   | exact ih2 _ _ _ _ _ _ _ _ _
   | exact ih3 _ _ _ _ _ _ _ _
   | exact ih4 _ _ _
   | exact ih5 _ _ _ _ _
   | exact ih6 _ _ _ _ _
   | exact ih7 _ _ _ _ _ _ _
   | exact impl_LeastBase.mono _ _ _ _
   | exact impl_SlopeAt.mono _ _ _ _ _
   | exact impl_SteepestSlope.mono _ _ _ _
   | exact impl_TurnsToWear.mono _ _ _ _ _ _
   | exact impl_WearCam.mono _ _ _ _ _ _
   | exact spec_LeastBase.mono _ _ _ _
   | exact spec_LeastSpring.mono _ _
   | exact spec_P6Cam.mono _ _
   | exact spec_SameCam.mono _ _ _
   | exact spec_SteepestSlope.mono _ _ _ _
   | exact spec_WearCam.mono _ _ _ _ _ _
   | exact LeO.none _
   | refine LeO.ite ?_ ?_
   | refine LeO.bind ?_ (fun _ => ?_)
  ·intro y0 y1 y2
   unfold laws_FnSlopes.j5
   repeat' first
   | (with_reducible exact ih0 _ _ _)
   | (with_reducible exact ih1 _ _ _ _ _ _ _ _ _)
   | (with_reducible exact ih2 _ _ _ _ _ _ _ _ _)
   | (with_reducible exact ih3 _ _ _ _ _ _ _ _)
   | (with_reducible exact ih4 _ _ _)
   | (with_reducible exact ih5 _ _ _ _ _)
   | (with_reducible exact ih6 _ _ _ _ _)
   | (with_reducible exact ih7 _ _ _ _ _ _ _)
   | (with_reducible exact impl_LeastBase.mono _ _ _ _)
   | (with_reducible exact impl_SlopeAt.mono _ _ _ _ _)
   | (with_reducible exact impl_SteepestSlope.mono _ _ _ _)
   | (with_reducible exact impl_TurnsToWear.mono _ _ _ _ _ _)
   | (with_reducible exact impl_WearCam.mono _ _ _ _ _ _)
   | (with_reducible exact spec_LeastBase.mono _ _ _ _)
   | (with_reducible exact spec_LeastSpring.mono _ _)
   | (with_reducible exact spec_P6Cam.mono _ _)
   | (with_reducible exact spec_SameCam.mono _ _ _)
   | (with_reducible exact spec_SteepestSlope.mono _ _ _ _)
   | (with_reducible exact spec_WearCam.mono _ _ _ _ _ _)
   | (with_reducible exact LeO.refl _)
   | (with_reducible exact LeO.none _)
   | (with_reducible refine LeO.ite ?_ ?_)
   | (with_reducible refine LeO.bind ?_ (fun _ => ?_))
   | exact ih0 _ _ _
   | exact ih1 _ _ _ _ _ _ _ _ _
   | exact ih2 _ _ _ _ _ _ _ _ _
   | exact ih3 _ _ _ _ _ _ _ _
   | exact ih4 _ _ _
   | exact ih5 _ _ _ _ _
   | exact ih6 _ _ _ _ _
   | exact ih7 _ _ _ _ _ _ _
   | exact impl_LeastBase.mono _ _ _ _
   | exact impl_SlopeAt.mono _ _ _ _ _
   | exact impl_SteepestSlope.mono _ _ _ _
   | exact impl_TurnsToWear.mono _ _ _ _ _ _
   | exact impl_WearCam.mono _ _ _ _ _ _
   | exact spec_LeastBase.mono _ _ _ _
   | exact spec_LeastSpring.mono _ _
   | exact spec_P6Cam.mono _ _
   | exact spec_SameCam.mono _ _ _
   | exact spec_SteepestSlope.mono _ _ _ _
   | exact spec_WearCam.mono _ _ _ _ _ _
   | exact LeO.none _
   | refine LeO.ite ?_ ?_
   | refine LeO.bind ?_ (fun _ => ?_)
  ·intro y0 y1 y2 y3 y4
   unfold laws_FnSlopes.j6
   repeat' first
   | (with_reducible exact ih0 _ _ _)
   | (with_reducible exact ih1 _ _ _ _ _ _ _ _ _)
   | (with_reducible exact ih2 _ _ _ _ _ _ _ _ _)
   | (with_reducible exact ih3 _ _ _ _ _ _ _ _)
   | (with_reducible exact ih4 _ _ _)
   | (with_reducible exact ih5 _ _ _ _ _)
   | (with_reducible exact ih6 _ _ _ _ _)
   | (with_reducible exact ih7 _ _ _ _ _ _ _)
   | (with_reducible exact impl_LeastBase.mono _ _ _ _)
   | (with_reducible exact impl_SlopeAt.mono _ _ _ _ _)
   | (with_reducible exact impl_SteepestSlope.mono _ _ _ _)
   | (with_reducible exact impl_TurnsToWear.mono _ _ _ _ _ _)
   | (with_reducible exact impl_WearCam.mono _ _ _ _ _ _)
   | (with_reducible exact spec_LeastBase.mono _ _ _ _)
   | (with_reducible exact spec_LeastSpring.mono _ _)
   | (with_reducible exact spec_P6Cam.mono _ _)
   | (with_reducible exact spec_SameCam.mono _ _ _)
   | (with_reducible exact spec_SteepestSlope.mono _ _ _ _)
   | (with_reducible exact spec_WearCam.mono _ _ _ _ _ _)
   | (with_reducible exact LeO.refl _)
   | (with_reducible exact LeO.none _)
   | (with_reducible refine LeO.ite ?_ ?_)
   | (with_reducible refine LeO.bind ?_ (fun _ => ?_))
   | exact ih0 _ _ _
   | exact ih1 _ _ _ _ _ _ _ _ _
   | exact ih2 _ _ _ _ _ _ _ _ _
   | exact ih3 _ _ _ _ _ _ _ _
   | exact ih4 _ _ _
   | exact ih5 _ _ _ _ _
   | exact ih6 _ _ _ _ _
   | exact ih7 _ _ _ _ _ _ _
   | exact impl_LeastBase.mono _ _ _ _
   | exact impl_SlopeAt.mono _ _ _ _ _
   | exact impl_SteepestSlope.mono _ _ _ _
   | exact impl_TurnsToWear.mono _ _ _ _ _ _
   | exact impl_WearCam.mono _ _ _ _ _ _
   | exact spec_LeastBase.mono _ _ _ _
   | exact spec_LeastSpring.mono _ _
   | exact spec_P6Cam.mono _ _
   | exact spec_SameCam.mono _ _ _
   | exact spec_SteepestSlope.mono _ _ _ _
   | exact spec_WearCam.mono _ _ _ _ _ _
   | exact LeO.none _
   | refine LeO.ite ?_ ?_
   | refine LeO.bind ?_ (fun _ => ?_)
  ·intro y0 y1 y2 y3 y4
   unfold laws_FnSlopes.l1
   repeat' first
   | (with_reducible exact ih0 _ _ _)
   | (with_reducible exact ih1 _ _ _ _ _ _ _ _ _)
   | (with_reducible exact ih2 _ _ _ _ _ _ _ _ _)
   | (with_reducible exact ih3 _ _ _ _ _ _ _ _)
   | (with_reducible exact ih4 _ _ _)
   | (with_reducible exact ih5 _ _ _ _ _)
   | (with_reducible exact ih6 _ _ _ _ _)
   | (with_reducible exact ih7 _ _ _ _ _ _ _)
   | (with_reducible exact impl_LeastBase.mono _ _ _ _)
   | (with_reducible exact impl_SlopeAt.mono _ _ _ _ _)
   | (with_reducible exact impl_SteepestSlope.mono _ _ _ _)
   | (with_reducible exact impl_TurnsToWear.mono _ _ _ _ _ _)
   | (with_reducible exact impl_WearCam.mono _ _ _ _ _ _)
   | (with_reducible exact spec_LeastBase.mono _ _ _ _)
   | (with_reducible exact spec_LeastSpring.mono _ _)
   | (with_reducible exact spec_P6Cam.mono _ _)
   | (with_reducible exact spec_SameCam.mono _ _ _)
   | (with_reducible exact spec_SteepestSlope.mono _ _ _ _)
   | (with_reducible exact spec_WearCam.mono _ _ _ _ _ _)
   | (with_reducible exact LeO.refl _)
   | (with_reducible exact LeO.none _)
   | (with_reducible refine LeO.ite ?_ ?_)
   | (with_reducible refine LeO.bind ?_ (fun _ => ?_))
   | exact ih0 _ _ _
   | exact ih1 _ _ _ _ _ _ _ _ _
   | exact ih2 _ _ _ _ _ _ _ _ _
   | exact ih3 _ _ _ _ _ _ _ _
   | exact ih4 _ _ _
   | exact ih5 _ _ _ _ _
   | exact ih6 _ _ _ _ _
   | exact ih7 _ _ _ _ _ _ _
   | exact impl_LeastBase.mono _ _ _ _
   | exact impl_SlopeAt.mono _ _ _ _ _
   | exact impl_SteepestSlope.mono _ _ _ _
   | exact impl_TurnsToWear.mono _ _ _ _ _ _
   | exact impl_WearCam.mono _ _ _ _ _ _
   | exact spec_LeastBase.mono _ _ _ _
   | exact spec_LeastSpring.mono _ _
   | exact spec_P6Cam.mono _ _
   | exact spec_SameCam.mono _ _ _
   | exact spec_SteepestSlope.mono _ _ _ _
   | exact spec_WearCam.mono _ _ _ _ _ _
   | exact LeO.none _
   | refine LeO.ite ?_ ?_
   | refine LeO.bind ?_ (fun _ => ?_)
  ·intro y0 y1 y2 y3 y4 y5 y6
   unfold laws_FnSlopes.j4
   repeat' first
   | (with_reducible exact ih0 _ _ _)
   | (with_reducible exact ih1 _ _ _ _ _ _ _ _ _)
   | (with_reducible exact ih2 _ _ _ _ _ _ _ _ _)
   | (with_reducible exact ih3 _ _ _ _ _ _ _ _)
   | (with_reducible exact ih4 _ _ _)
   | (with_reducible exact ih5 _ _ _ _ _)
   | (with_reducible exact ih6 _ _ _ _ _)
   | (with_reducible exact ih7 _ _ _ _ _ _ _)
   | (with_reducible exact impl_LeastBase.mono _ _ _ _)
   | (with_reducible exact impl_SlopeAt.mono _ _ _ _ _)
   | (with_reducible exact impl_SteepestSlope.mono _ _ _ _)
   | (with_reducible exact impl_TurnsToWear.mono _ _ _ _ _ _)
   | (with_reducible exact impl_WearCam.mono _ _ _ _ _ _)
   | (with_reducible exact spec_LeastBase.mono _ _ _ _)
   | (with_reducible exact spec_LeastSpring.mono _ _)
   | (with_reducible exact spec_P6Cam.mono _ _)
   | (with_reducible exact spec_SameCam.mono _ _ _)
   | (with_reducible exact spec_SteepestSlope.mono _ _ _ _)
   | (with_reducible exact spec_WearCam.mono _ _ _ _ _ _)
   | (with_reducible exact LeO.refl _)
   | (with_reducible exact LeO.none _)
   | (with_reducible refine LeO.ite ?_ ?_)
   | (with_reducible refine LeO.bind ?_ (fun _ => ?_))
   | exact ih0 _ _ _
   | exact ih1 _ _ _ _ _ _ _ _ _
   | exact ih2 _ _ _ _ _ _ _ _ _
   | exact ih3 _ _ _ _ _ _ _ _
   | exact ih4 _ _ _
   | exact ih5 _ _ _ _ _
   | exact ih6 _ _ _ _ _
   | exact ih7 _ _ _ _ _ _ _
   | exact impl_LeastBase.mono _ _ _ _
   | exact impl_SlopeAt.mono _ _ _ _ _
   | exact impl_SteepestSlope.mono _ _ _ _
   | exact impl_TurnsToWear.mono _ _ _ _ _ _
   | exact impl_WearCam.mono _ _ _ _ _ _
   | exact spec_LeastBase.mono _ _ _ _
   | exact spec_LeastSpring.mono _ _
   | exact spec_P6Cam.mono _ _
   | exact spec_SameCam.mono _ _ _
   | exact spec_SteepestSlope.mono _ _ _ _
   | exact spec_WearCam.mono _ _ _ _ _ _
   | exact LeO.none _
   | refine LeO.ite ?_ ?_
   | refine LeO.bind ?_ (fun _ => ?_)
theorem laws_FnSlopes.mono : ∀ a0 a1 k, LeO (laws_FnSlopes.f k a0 a1) (laws_FnSlopes.f (k + 1) a0 a1) := by
 intro a0 a1 k
 obtain ⟨ih0, ih1, ih2, ih3, ih4, ih5, ih6, ih7⟩ := laws_FnSlopes.mono_l k
 unfold laws_FnSlopes.f
 repeat' first
   | (with_reducible exact ih0 _ _ _)
   | (with_reducible exact ih1 _ _ _ _ _ _ _ _ _)
   | (with_reducible exact ih2 _ _ _ _ _ _ _ _ _)
   | (with_reducible exact ih3 _ _ _ _ _ _ _ _)
   | (with_reducible exact ih4 _ _ _)
   | (with_reducible exact ih5 _ _ _ _ _)
   | (with_reducible exact ih6 _ _ _ _ _)
   | (with_reducible exact ih7 _ _ _ _ _ _ _)
   | (with_reducible exact impl_LeastBase.mono _ _ _ _)
   | (with_reducible exact impl_SlopeAt.mono _ _ _ _ _)
   | (with_reducible exact impl_SteepestSlope.mono _ _ _ _)
   | (with_reducible exact impl_TurnsToWear.mono _ _ _ _ _ _)
   | (with_reducible exact impl_WearCam.mono _ _ _ _ _ _)
   | (with_reducible exact spec_LeastBase.mono _ _ _ _)
   | (with_reducible exact spec_LeastSpring.mono _ _)
   | (with_reducible exact spec_P6Cam.mono _ _)
   | (with_reducible exact spec_SameCam.mono _ _ _)
   | (with_reducible exact spec_SteepestSlope.mono _ _ _ _)
   | (with_reducible exact spec_WearCam.mono _ _ _ _ _ _)
   | (with_reducible exact LeO.refl _)
   | (with_reducible exact LeO.none _)
   | (with_reducible refine LeO.ite ?_ ?_)
   | (with_reducible refine LeO.bind ?_ (fun _ => ?_))
   | exact ih0 _ _ _
   | exact ih1 _ _ _ _ _ _ _ _ _
   | exact ih2 _ _ _ _ _ _ _ _ _
   | exact ih3 _ _ _ _ _ _ _ _
   | exact ih4 _ _ _
   | exact ih5 _ _ _ _ _
   | exact ih6 _ _ _ _ _
   | exact ih7 _ _ _ _ _ _ _
   | exact impl_LeastBase.mono _ _ _ _
   | exact impl_SlopeAt.mono _ _ _ _ _
   | exact impl_SteepestSlope.mono _ _ _ _
   | exact impl_TurnsToWear.mono _ _ _ _ _ _
   | exact impl_WearCam.mono _ _ _ _ _ _
   | exact spec_LeastBase.mono _ _ _ _
   | exact spec_LeastSpring.mono _ _
   | exact spec_P6Cam.mono _ _
   | exact spec_SameCam.mono _ _ _
   | exact spec_SteepestSlope.mono _ _ _ _
   | exact spec_WearCam.mono _ _ _ _ _ _
   | exact LeO.none _
   | refine LeO.ite ?_ ?_
   | refine LeO.bind ?_ (fun _ => ?_)
def laws_FnSlopes.Pure : Prop := ∀ (l0 : List Int) (l1 : List Int), l0.length ≤ maxLen → l0.length * 1 ≤ 140737488351232 → (∀ x ∈ l0, (Lit.int .u8 x).wf = true) → l1.length ≤ maxLen → l1.length * 1 ≤ 140737488351232 → (∀ x ∈ l1, (Lit.int .u8 x).wf = true) → ∃ k, laws_FnSlopes.f k l0 l1 = some true
end Go.Proofs.Ytpjibhedpieafaa.H
namespace Go.Proofs.Ytpjibhedpieafaa.H
open Go.RowKit Go.Proofs.YtpjibhedpieafaaW.PrintWords Go.Proofs.YtpjibhedpieafaaW.PrintLast Go.Proofs.YtpjibhedpieafaaW.PrintMore
attribute [local go_sem] max2_int min2_int max_two min_two max_three min_three max_four min_four   -- for this text's walks alone
set_option linter.unusedVariables false
set_option linter.unusedSimpArgs false
set_option maxHeartbeats 8000000 in
set_option maxRecDepth 100000 in
theorem impl_abs.calls (a0 : Int) (r : Int) (w : World) (h : impl_abs.f a0 = some r) :
    Calls Try.prog 188 #[.int .i64 a0] w fun e w' => e = .returned (.int .i64 r) ∧ Below w.heap.size w w' := by
  have HB := Aside0.mk (Below.refl w.heap.size w)
  have H : (some (mx a0 (wrap64 (-a0)))) = some r := h
  clear h
  obtain ⟨ji2, hji2⟩ : ∃ j_ : Int, (mx a0 (wrap64 (-a0))) = j_ := ⟨_, rfl⟩
  replace H : (some ji2) = some r := by first | (rw [hji2] at H; exact H) | (simp only [hji2] at H ⊢; exact H)
  have hji2_ : (if a0 < (wrap64 (-a0)) then (wrap64 (-a0)) else a0) = ji2 := hji2
  obtain rfl := Option.some.inj H
  go_enter Try.func188, Try.ntmps188
  go_wp2
  go_ret
  exact ⟨by first | rfl | (simp [errW_none, errW_some] <;> rfl) | (simp only [← hji2]; first | rfl | (simp [errW_none, errW_some] <;> rfl)) | (simp [*, errW_none, errW_some] <;> rfl), by repeat (first | (with_reducible first | exact HB.out | apply below_alloc | apply pw_below_drewN | apply below_drew1) | exact HB.out)⟩
set_option maxHeartbeats 8000000 in
set_option maxRecDepth 100000 in
theorem impl_compareSlopes.calls (a0_0 : Int) (a0_1 : Int) (a1_0 : Int) (a1_1 : Int) (r : Int) (w : World) (h : impl_compareSlopes.f a0_0 a0_1 a1_0 a1_1 = some r) :
  Calls Try.prog 183 #[.agg #[.int .i64 a0_0, .int .i64 a0_1], .agg #[.int .i64 a1_0, .int .i64 a1_1]] w fun e w' => e = .returned (.int .i64 r) ∧ Below w.heap.size w w' := by
 have hu93 := Try.underlying93
 have HB := Aside0.mk (Below.refl w.heap.size w)
 have H : ((impl_abs.f a0_0).bind fun t103 => ((impl_abs.f a1_0).bind fun t104 => (if (wrap64 (t103 * a1_1)) < (wrap64 (t104 * a0_1)) then (some (-1)) else (if (wrap64 (t103 * a1_1)) > (wrap64 (t104 * a0_1)) then (some 1) else (some 0))))) = some r := h
 clear h
 replace H := Option.bind_eq_some_iff.mp H
 obtain ⟨t103, A30, H⟩ := H
 replace H : ((impl_abs.f a1_0).bind fun t104 => (if (wrap64 (t103 * a1_1)) < (wrap64 (t104 * a0_1)) then (some (-1)) else (if (wrap64 (t103 * a1_1)) > (wrap64 (t104 * a0_1)) then (some 1) else (some 0)))) = some r := H
 have A3 := Aside0.mk A30
 clear A30
 replace H := Option.bind_eq_some_iff.mp H
 obtain ⟨t104, A40, H⟩ := H
 replace H : (if (wrap64 (t103 * a1_1)) < (wrap64 (t104 * a0_1)) then (some (-1)) else (if (wrap64 (t103 * a1_1)) > (wrap64 (t104 * a0_1)) then (some 1) else (some 0))) = some r := H
 have A4 := Aside0.mk A40
 clear A40
 by_cases c5 : (wrap64 (t103 * a1_1)) < (wrap64 (t104 * a0_1))
 ·rw [if_pos c5] at H
  have c5b0 : decide ((wrap64 (t103 * a1_1)) < (wrap64 (t104 * a0_1))) = true := decide_eq_true c5
  clear c5
  obtain rfl := Option.some.inj H
  go_enter Try.func183, Try.ntmps183
  try go_wp2_with (first | ((with_reducible refine gate_dst (N := 2) rfl ?_); refine box_event ?hg (N := 2) ?hd (cs := #[.int .i64 a0_0, .int .i64 a0_1]) (t := 93) ?hr ?_; (case hd => rfl); (case hg => rfl); (case hr => first | (go_simp; done) | (go_simp; rfl)); intro gb101 hg w6 hbox hb; have n0_ := Aside0.mk (below_step (belowP HB.out) hb); have n1_ := Aside0.mk (hbox); have n2_ := Aside0.mk ((by rw [hg]; exact (below_size (belowP HB.out)) : w.heap.size ≤ gb101)); have n3_ := Aside0.mk ((by rw [hg]; exact (below_size (belowP HB.out)) : w.heap.size ≤ gb101)); clear HB; have HB := n0_; have BK101 := n1_; have GW101 := n2_; have GE101 := n3_; clear n0_ n1_ n2_ n3_; clear hb hbox hg) | ((with_reducible refine gate_dst (N := 3) rfl ?_); refine box_event ?hg (N := 3) ?hd (cs := #[.int .i64 a1_0, .int .i64 a1_1]) (t := 93) ?hr ?_; (case hd => rfl); (case hg => rfl); (case hr => first | (go_simp; done) | (go_simp; rfl)); intro gb102 hg w7 hbox hb; have n0_ := Aside0.mk (blk_below (g := gb101) (o := .cells #[.int .i64 a0_0, .int .i64 a0_1] 93 (0, 0)) (by refine blkP ?_; exact BK101.out) hb); have n1_ := Aside0.mk (below_step (by repeat (first | exact belowP HB.out | refine belowP (below_set ?_ GE101.out))) hb); have n2_ := Aside0.mk (hbox); have n3_ := Aside0.mk ((by rw [hg]; exact (below_size (by repeat (first | exact belowP HB.out | refine belowP (below_set ?_ GE101.out)))) : w.heap.size ≤ gb102)); have n4_ := Aside0.mk ((by rw [hg]; exact (below_size (by repeat (first | exact belowP HB.out | refine belowP (below_set ?_ GE101.out)))) : w.heap.size ≤ gb102)); have n5_ := Aside0.mk ((by rw [hg]; exact Nat.ne_of_lt (blk_lt (g := gb101) (o := .cells #[.int .i64 a0_0, .int .i64 a0_1] 93 (0, 0)) (by refine blkP ?_; exact BK101.out)) : gb101 ≠ gb102)); have n6_ := Aside0.mk ((by rw [hg]; exact Nat.ne_of_gt (blk_lt (g := gb101) (o := .cells #[.int .i64 a0_0, .int .i64 a0_1] 93 (0, 0)) (by refine blkP ?_; exact BK101.out)) : gb102 ≠ gb101)); clear BK101; clear HB; have BK101 := n0_; have HB := n1_; have BK102 := n2_; have GW102 := n3_; have GE102 := n4_; have NB101_102 := n5_; have NB102_101 := n6_; clear n0_ n1_ n2_ n3_ n4_ n5_ n6_; clear hb hbox hg))
  replace BK101 := Aside0.mk (blk_drew BK101.out)
  replace BK102 := Aside0.mk (blk_drew BK102.out)
  replace HB := Aside0.mk (below_drew1 HB.out)
  refine start_ (n := 14) (S := fun w' => w'.cell? ⟨gb101, 0, none⟩ = some (.int .i64 a0_0) ∧ w'.cell? ⟨gb101, 1, none⟩ = some (.int .i64 a0_1) ∧ w'.cell? ⟨gb102, 0, none⟩ = some (.int .i64 a1_0) ∧ w'.cell? ⟨gb102, 1, none⟩ = some (.int .i64 a1_1)) (ds := []) #[false, false, false, false, false, false, false, false, false, false, false, false, false, false] (by kernel_rfl) rfl rfl ⟨(blk_cell BK101.out 0).trans rfl, (blk_cell BK101.out 1).trans rfl, (blk_cell BK102.out 0).trans rfl, (blk_cell BK102.out 1).trans rfl⟩ (fun hHeld => ?_); refine with_tabW impl_compareSlopes.tab1 impl_compareSlopes.bits1 (fun HT_ HW_ => ?_)
  generalize w7.drew = w8 at BK101 BK102 HB hHeld ⊢
  refine pure_ (i := 0) (N := some 7) (v := ?_) (a' := ?_) #[true, false, false, false, false, false, false, false, false, false, false, false, false, false] rfl rfl (any_of HT_.out (by kernel_rfl)) (fun _ _ _ h => h) (Or.inl ⟨by rfl, ?_⟩) ?_ ?_
  rotate_left
  ·intro w'
   go_simp
   with_reducible rfl
  rotate_left
  ·simp only [Act.put, List.setIfInBounds_toArray, List.set_cons_zero, List.set_cons_succ, i64_w, i32_w]
   rfl
  refine pure_ (i := 3) (N := some 10) (v := ?_) (a' := ?_) #[true, false, false, true, false, false, false, false, false, false, false, false, false, false] rfl rfl (any_of HT_.out (by kernel_rfl)) (fun _ _ _ h => h) (Or.inl ⟨by rfl, ?_⟩) ?_ ?_
  rotate_left
  ·intro w'
   go_simp
   with_reducible rfl
  rotate_left
  ·simp only [Act.put, List.setIfInBounds_toArray, List.set_cons_zero, List.set_cons_succ, i64_w, i32_w]
   rfl
  refine pure_ (i := 6) (N := some 13) (v := ?_) (a' := ?_) #[true, false, false, true, false, false, true, false, false, false, false, false, false, false] rfl rfl (any_of HT_.out (by kernel_rfl)) (fun _ _ _ h => h) (Or.inl ⟨by rfl, ?_⟩) ?_ ?_
  rotate_left
  ·intro w'
   go_simp
   with_reducible rfl
  rotate_left
  ·simp only [Act.put, List.setIfInBounds_toArray, List.set_cons_zero, List.set_cons_succ, i64_w, i32_w]
   rfl
  refine pure_ (i := 9) (N := some 16) (v := ?_) (a' := ?_) #[true, false, false, true, false, false, true, false, false, true, false, false, false, false] rfl rfl (any_of HT_.out (by kernel_rfl)) (fun _ _ _ h => h) (Or.inl ⟨by rfl, ?_⟩) ?_ ?_
  rotate_left
  ·intro w'
   go_simp
   with_reducible rfl
  rotate_left
  ·simp only [Act.put, List.setIfInBounds_toArray, List.set_cons_zero, List.set_cons_succ, i64_w, i32_w]
   rfl
  refine take_ (i := 1) (N := some 8) (v := ?_) (a' := ?_) #[true, true, false, true, false, false, true, false, false, true, false, false, false, false] rfl rfl (take_ofW HT_.out HW_.out (by kernel_rfl)) (fun _ _ _ h => h) (Or.inl ⟨by rfl, ?_⟩) hHeld ?_ ?_
  rotate_left
  ·rintro w' ⟨s0, s1, s2, s3⟩
   go_simp
   with_reducible rfl
  rotate_left
  ·simp only [Act.put, List.setIfInBounds_toArray, List.set_cons_zero, List.set_cons_succ, i64_w, i32_w]
   rfl
  refine take_ (i := 4) (N := some 11) (v := ?_) (a' := ?_) #[true, true, false, true, true, false, true, false, false, true, false, false, false, false] rfl rfl (take_ofW HT_.out HW_.out (by kernel_rfl)) (fun _ _ _ h => h) (Or.inl ⟨by rfl, ?_⟩) hHeld ?_ ?_
  rotate_left
  ·rintro w' ⟨s0, s1, s2, s3⟩
   go_simp
   with_reducible rfl
  rotate_left
  ·simp only [Act.put, List.setIfInBounds_toArray, List.set_cons_zero, List.set_cons_succ, i64_w, i32_w]
   rfl
  refine take_ (i := 7) (N := some 14) (v := ?_) (a' := ?_) #[true, true, false, true, true, false, true, true, false, true, false, false, false, false] rfl rfl (take_ofW HT_.out HW_.out (by kernel_rfl)) (fun _ _ _ h => h) (Or.inl ⟨by rfl, ?_⟩) hHeld ?_ ?_
  rotate_left
  ·rintro w' ⟨s0, s1, s2, s3⟩
   go_simp
   with_reducible rfl
  rotate_left
  ·simp only [Act.put, List.setIfInBounds_toArray, List.set_cons_zero, List.set_cons_succ, i64_w, i32_w]
   rfl
  refine take_ (i := 10) (N := some 17) (v := ?_) (a' := ?_) #[true, true, false, true, true, false, true, true, false, true, true, false, false, false] rfl rfl (take_ofW HT_.out HW_.out (by kernel_rfl)) (fun _ _ _ h => h) (Or.inl ⟨by rfl, ?_⟩) hHeld ?_ ?_
  rotate_left
  ·rintro w' ⟨s0, s1, s2, s3⟩
   go_simp
   with_reducible rfl
  rotate_left
  ·simp only [Act.put, List.setIfInBounds_toArray, List.set_cons_zero, List.set_cons_succ, i64_w, i32_w]
   rfl
  refine one_ (i := 2) (N := some 9) #[true, true, true, true, true, false, true, true, false, true, true, false, false, false] rfl rfl (one_of HT_.out (by kernel_rfl)) (by decide) (fun K hK => ?_)
  refine goes_ Try.func188 (by kernel_rfl) rfl #[.int .i64 a0_0] (by rfl) rfl rfl (by (try simp only [List.map_toArray, List.map_cons, List.map_nil]); first | done | rfl | (simp only [List.length_drop, List.length_take]; rfl)) ?_
  with_reducible refine (impl_abs.calls a0_0 t103 _ A3.out).mono ?_
  rintro e w9 ⟨rfl, hb⟩
  refine ⟨_, rfl, ?_⟩
  replace BK101 := Aside0.mk (blk_below (g := gb101) (o := .cells #[.int .i64 a0_0, .int .i64 a0_1] 93 (0, 0)) (by refine blkP ?_; exact BK101.out) hb)
  replace BK102 := Aside0.mk (blk_below (g := gb102) (o := .cells #[.int .i64 a1_0, .int .i64 a1_1] 93 (0, 0)) (by refine blkP ?_; exact BK102.out) hb)
  replace HB := Aside0.mk (below_step (by repeat (first | exact belowP HB.out | refine belowP (below_set ?_ GE101.out) | refine belowP (below_set ?_ GE102.out))) hb)
  (try clear hb)
  (try clear hb2)
  (try clear hk)
  (try clear hi)
  refine hK.out _ _ ⟨(blk_cell BK101.out 0).trans rfl, (blk_cell BK101.out 1).trans rfl, (blk_cell BK102.out 0).trans rfl, (blk_cell BK102.out 1).trans rfl⟩ (fun hHeld => ?_)
  clear hK K
  refine norm_ (a' := ?_) ?_ ?_
  rotate_left
  ·show Act.put _ (some 9) _ = _
   simp only [Act.put, List.setIfInBounds_toArray, List.set_cons_zero, List.set_cons_succ, i64_w, i32_w]
   rfl
  refine pure_ (i := 5) (N := some 12) (v := ?_) (a' := ?_) #[true, true, true, true, true, true, true, true, false, true, true, false, false, false] rfl rfl (any_of HT_.out (by kernel_rfl)) (fun _ _ _ h => h) (Or.inl ⟨by rfl, ?_⟩) ?_ ?_
  rotate_left
  ·intro w'
   go_simp
   with_reducible rfl
  rotate_left
  ·simp only [Act.put, List.setIfInBounds_toArray, List.set_cons_zero, List.set_cons_succ, i64_w, i32_w]
   rfl
  refine one_ (i := 8) (N := some 15) #[true, true, true, true, true, true, true, true, true, true, true, false, false, false] rfl rfl (one_of HT_.out (by kernel_rfl)) (by decide) (fun K hK => ?_)
  refine goes_ Try.func188 (by kernel_rfl) rfl #[.int .i64 a1_0] (by rfl) rfl rfl (by (try simp only [List.map_toArray, List.map_cons, List.map_nil]); first | done | rfl | (simp only [List.length_drop, List.length_take]; rfl)) ?_
  with_reducible refine (impl_abs.calls a1_0 t104 _ A4.out).mono ?_
  rintro e w10 ⟨rfl, hb⟩
  refine ⟨_, rfl, ?_⟩
  replace BK101 := Aside0.mk (blk_below (g := gb101) (o := .cells #[.int .i64 a0_0, .int .i64 a0_1] 93 (0, 0)) (by refine blkP ?_; exact BK101.out) hb)
  replace BK102 := Aside0.mk (blk_below (g := gb102) (o := .cells #[.int .i64 a1_0, .int .i64 a1_1] 93 (0, 0)) (by refine blkP ?_; exact BK102.out) hb)
  replace HB := Aside0.mk (below_step (by repeat (first | exact belowP HB.out | refine belowP (below_set ?_ GE101.out) | refine belowP (below_set ?_ GE102.out))) hb)
  (try clear hb)
  (try clear hb2)
  (try clear hk)
  (try clear hi)
  refine hK.out _ _ ⟨(blk_cell BK101.out 0).trans rfl, (blk_cell BK101.out 1).trans rfl, (blk_cell BK102.out 0).trans rfl, (blk_cell BK102.out 1).trans rfl⟩ (fun hHeld => ?_)
  clear hK K
  refine norm_ (a' := ?_) ?_ ?_
  rotate_left
  ·show Act.put _ (some 15) _ = _
   simp only [Act.put, List.setIfInBounds_toArray, List.set_cons_zero, List.set_cons_succ, i64_w, i32_w]
   rfl
  refine pure_ (i := 11) (N := some 18) (v := ?_) (a' := ?_) #[true, true, true, true, true, true, true, true, true, true, true, true, false, false] rfl rfl (any_of HT_.out (by kernel_rfl)) (fun _ _ _ h => h) (Or.inl ⟨by rfl, ?_⟩) ?_ ?_
  rotate_left
  ·intro w'
   go_simp
   with_reducible rfl
  rotate_left
  ·simp only [Act.put, List.setIfInBounds_toArray, List.set_cons_zero, List.set_cons_succ, i64_w, i32_w]
   rfl
  refine pure_ (i := 12) (N := some 5) (v := ?_) (a' := ?_) #[true, true, true, true, true, true, true, true, true, true, true, true, true, false] rfl rfl (any_of HT_.out (by kernel_rfl)) (fun _ _ _ h => h) (Or.inl ⟨by rfl, ?_⟩) ?_ ?_
  rotate_left
  ·intro w'
   go_simp
   with_reducible rfl
  rotate_left
  ·simp only [Act.put, List.setIfInBounds_toArray, List.set_cons_zero, List.set_cons_succ, i64_w, i32_w]
   rfl
  refine pure_ (i := 13) (N := some 6) (v := ?_) (a' := ?_) #[true, true, true, true, true, true, true, true, true, true, true, true, true, true] rfl rfl (any_of HT_.out (by kernel_rfl)) (fun _ _ _ h => h) (Or.inl ⟨by rfl, ?_⟩) ?_ ?_
  rotate_left
  ·intro w'
   go_simp
   with_reducible rfl
  rotate_left
  ·simp only [Act.put, List.setIfInBounds_toArray, List.set_cons_zero, List.set_cons_succ, i64_w, i32_w]
   rfl
  refine done_ (done_of HT_.out (by kernel_rfl)) ?_
  try go_wp2
  go_ret
  exact ⟨by first | rfl | (simp [errW_none, errW_some] <;> rfl) | (simp [*, errW_none, errW_some] <;> rfl), by repeat (first | (with_reducible first | exact HB.out | apply below_alloc | apply pw_below_drewN | apply below_drew1 | refine below_set ?_ GE101.out | refine below_set ?_ GE102.out) | exact HB.out)⟩
 ·rw [if_neg c5] at H
  have c5b0 : decide ((wrap64 (t103 * a1_1)) < (wrap64 (t104 * a0_1))) = false := decide_eq_false c5
  clear c5
  by_cases c11 : (wrap64 (t103 * a1_1)) > (wrap64 (t104 * a0_1))
  ·rw [if_pos c11] at H
   have c11b0 : decide ((wrap64 (t104 * a0_1)) < (wrap64 (t103 * a1_1))) = true := decide_eq_true c11
   clear c11
   obtain rfl := Option.some.inj H
   go_enter Try.func183, Try.ntmps183
   try go_wp2_with (first | ((with_reducible refine gate_dst (N := 2) rfl ?_); refine box_event ?hg (N := 2) ?hd (cs := #[.int .i64 a0_0, .int .i64 a0_1]) (t := 93) ?hr ?_; (case hd => rfl); (case hg => rfl); (case hr => first | (go_simp; done) | (go_simp; rfl)); intro gb101 hg w12 hbox hb; have n0_ := Aside0.mk (below_step (belowP HB.out) hb); have n1_ := Aside0.mk (hbox); have n2_ := Aside0.mk ((by rw [hg]; exact (below_size (belowP HB.out)) : w.heap.size ≤ gb101)); have n3_ := Aside0.mk ((by rw [hg]; exact (below_size (belowP HB.out)) : w.heap.size ≤ gb101)); clear HB; have HB := n0_; have BK101 := n1_; have GW101 := n2_; have GE101 := n3_; clear n0_ n1_ n2_ n3_; clear hb hbox hg) | ((with_reducible refine gate_dst (N := 3) rfl ?_); refine box_event ?hg (N := 3) ?hd (cs := #[.int .i64 a1_0, .int .i64 a1_1]) (t := 93) ?hr ?_; (case hd => rfl); (case hg => rfl); (case hr => first | (go_simp; done) | (go_simp; rfl)); intro gb102 hg w13 hbox hb; have n0_ := Aside0.mk (blk_below (g := gb101) (o := .cells #[.int .i64 a0_0, .int .i64 a0_1] 93 (0, 0)) (by refine blkP ?_; exact BK101.out) hb); have n1_ := Aside0.mk (below_step (by repeat (first | exact belowP HB.out | refine belowP (below_set ?_ GE101.out))) hb); have n2_ := Aside0.mk (hbox); have n3_ := Aside0.mk ((by rw [hg]; exact (below_size (by repeat (first | exact belowP HB.out | refine belowP (below_set ?_ GE101.out)))) : w.heap.size ≤ gb102)); have n4_ := Aside0.mk ((by rw [hg]; exact (below_size (by repeat (first | exact belowP HB.out | refine belowP (below_set ?_ GE101.out)))) : w.heap.size ≤ gb102)); have n5_ := Aside0.mk ((by rw [hg]; exact Nat.ne_of_lt (blk_lt (g := gb101) (o := .cells #[.int .i64 a0_0, .int .i64 a0_1] 93 (0, 0)) (by refine blkP ?_; exact BK101.out)) : gb101 ≠ gb102)); have n6_ := Aside0.mk ((by rw [hg]; exact Nat.ne_of_gt (blk_lt (g := gb101) (o := .cells #[.int .i64 a0_0, .int .i64 a0_1] 93 (0, 0)) (by refine blkP ?_; exact BK101.out)) : gb102 ≠ gb101)); clear BK101; clear HB; have BK101 := n0_; have HB := n1_; have BK102 := n2_; have GW102 := n3_; have GE102 := n4_; have NB101_102 := n5_; have NB102_101 := n6_; clear n0_ n1_ n2_ n3_ n4_ n5_ n6_; clear hb hbox hg))
   replace BK101 := Aside0.mk (blk_drew BK101.out)
   replace BK102 := Aside0.mk (blk_drew BK102.out)
   replace HB := Aside0.mk (below_drew1 HB.out)
   refine start_ (n := 14) (S := fun w' => w'.cell? ⟨gb101, 0, none⟩ = some (.int .i64 a0_0) ∧ w'.cell? ⟨gb101, 1, none⟩ = some (.int .i64 a0_1) ∧ w'.cell? ⟨gb102, 0, none⟩ = some (.int .i64 a1_0) ∧ w'.cell? ⟨gb102, 1, none⟩ = some (.int .i64 a1_1)) (ds := []) #[false, false, false, false, false, false, false, false, false, false, false, false, false, false] (by kernel_rfl) rfl rfl ⟨(blk_cell BK101.out 0).trans rfl, (blk_cell BK101.out 1).trans rfl, (blk_cell BK102.out 0).trans rfl, (blk_cell BK102.out 1).trans rfl⟩ (fun hHeld => ?_); refine with_tabW impl_compareSlopes.tab1 impl_compareSlopes.bits1 (fun HT_ HW_ => ?_)
   generalize w13.drew = w14 at BK101 BK102 HB hHeld ⊢
   refine pure_ (i := 0) (N := some 7) (v := ?_) (a' := ?_) #[true, false, false, false, false, false, false, false, false, false, false, false, false, false] rfl rfl (any_of HT_.out (by kernel_rfl)) (fun _ _ _ h => h) (Or.inl ⟨by rfl, ?_⟩) ?_ ?_
   rotate_left
   ·intro w'
    go_simp
    with_reducible rfl
   rotate_left
   ·simp only [Act.put, List.setIfInBounds_toArray, List.set_cons_zero, List.set_cons_succ, i64_w, i32_w]
    rfl
   refine pure_ (i := 3) (N := some 10) (v := ?_) (a' := ?_) #[true, false, false, true, false, false, false, false, false, false, false, false, false, false] rfl rfl (any_of HT_.out (by kernel_rfl)) (fun _ _ _ h => h) (Or.inl ⟨by rfl, ?_⟩) ?_ ?_
   rotate_left
   ·intro w'
    go_simp
    with_reducible rfl
   rotate_left
   ·simp only [Act.put, List.setIfInBounds_toArray, List.set_cons_zero, List.set_cons_succ, i64_w, i32_w]
    rfl
   refine pure_ (i := 6) (N := some 13) (v := ?_) (a' := ?_) #[true, false, false, true, false, false, true, false, false, false, false, false, false, false] rfl rfl (any_of HT_.out (by kernel_rfl)) (fun _ _ _ h => h) (Or.inl ⟨by rfl, ?_⟩) ?_ ?_
   rotate_left
   ·intro w'
    go_simp
    with_reducible rfl
   rotate_left
   ·simp only [Act.put, List.setIfInBounds_toArray, List.set_cons_zero, List.set_cons_succ, i64_w, i32_w]
    rfl
   refine pure_ (i := 9) (N := some 16) (v := ?_) (a' := ?_) #[true, false, false, true, false, false, true, false, false, true, false, false, false, false] rfl rfl (any_of HT_.out (by kernel_rfl)) (fun _ _ _ h => h) (Or.inl ⟨by rfl, ?_⟩) ?_ ?_
   rotate_left
   ·intro w'
    go_simp
    with_reducible rfl
   rotate_left
   ·simp only [Act.put, List.setIfInBounds_toArray, List.set_cons_zero, List.set_cons_succ, i64_w, i32_w]
    rfl
   refine take_ (i := 1) (N := some 8) (v := ?_) (a' := ?_) #[true, true, false, true, false, false, true, false, false, true, false, false, false, false] rfl rfl (take_ofW HT_.out HW_.out (by kernel_rfl)) (fun _ _ _ h => h) (Or.inl ⟨by rfl, ?_⟩) hHeld ?_ ?_
   rotate_left
   ·rintro w' ⟨s0, s1, s2, s3⟩
    go_simp
    with_reducible rfl
   rotate_left
   ·simp only [Act.put, List.setIfInBounds_toArray, List.set_cons_zero, List.set_cons_succ, i64_w, i32_w]
    rfl
   refine take_ (i := 4) (N := some 11) (v := ?_) (a' := ?_) #[true, true, false, true, true, false, true, false, false, true, false, false, false, false] rfl rfl (take_ofW HT_.out HW_.out (by kernel_rfl)) (fun _ _ _ h => h) (Or.inl ⟨by rfl, ?_⟩) hHeld ?_ ?_
   rotate_left
   ·rintro w' ⟨s0, s1, s2, s3⟩
    go_simp
    with_reducible rfl
   rotate_left
   ·simp only [Act.put, List.setIfInBounds_toArray, List.set_cons_zero, List.set_cons_succ, i64_w, i32_w]
    rfl
   refine take_ (i := 7) (N := some 14) (v := ?_) (a' := ?_) #[true, true, false, true, true, false, true, true, false, true, false, false, false, false] rfl rfl (take_ofW HT_.out HW_.out (by kernel_rfl)) (fun _ _ _ h => h) (Or.inl ⟨by rfl, ?_⟩) hHeld ?_ ?_
   rotate_left
   ·rintro w' ⟨s0, s1, s2, s3⟩
    go_simp
    with_reducible rfl
   rotate_left
   ·simp only [Act.put, List.setIfInBounds_toArray, List.set_cons_zero, List.set_cons_succ, i64_w, i32_w]
    rfl
   refine take_ (i := 10) (N := some 17) (v := ?_) (a' := ?_) #[true, true, false, true, true, false, true, true, false, true, true, false, false, false] rfl rfl (take_ofW HT_.out HW_.out (by kernel_rfl)) (fun _ _ _ h => h) (Or.inl ⟨by rfl, ?_⟩) hHeld ?_ ?_
   rotate_left
   ·rintro w' ⟨s0, s1, s2, s3⟩
    go_simp
    with_reducible rfl
   rotate_left
   ·simp only [Act.put, List.setIfInBounds_toArray, List.set_cons_zero, List.set_cons_succ, i64_w, i32_w]
    rfl
   refine one_ (i := 2) (N := some 9) #[true, true, true, true, true, false, true, true, false, true, true, false, false, false] rfl rfl (one_of HT_.out (by kernel_rfl)) (by decide) (fun K hK => ?_)
   refine goes_ Try.func188 (by kernel_rfl) rfl #[.int .i64 a0_0] (by rfl) rfl rfl (by (try simp only [List.map_toArray, List.map_cons, List.map_nil]); first | done | rfl | (simp only [List.length_drop, List.length_take]; rfl)) ?_
   with_reducible refine (impl_abs.calls a0_0 t103 _ A3.out).mono ?_
   rintro e w15 ⟨rfl, hb⟩
   refine ⟨_, rfl, ?_⟩
   replace BK101 := Aside0.mk (blk_below (g := gb101) (o := .cells #[.int .i64 a0_0, .int .i64 a0_1] 93 (0, 0)) (by refine blkP ?_; exact BK101.out) hb)
   replace BK102 := Aside0.mk (blk_below (g := gb102) (o := .cells #[.int .i64 a1_0, .int .i64 a1_1] 93 (0, 0)) (by refine blkP ?_; exact BK102.out) hb)
   replace HB := Aside0.mk (below_step (by repeat (first | exact belowP HB.out | refine belowP (below_set ?_ GE101.out) | refine belowP (below_set ?_ GE102.out))) hb)
   (try clear hb)
   (try clear hb2)
   (try clear hk)
   (try clear hi)
   refine hK.out _ _ ⟨(blk_cell BK101.out 0).trans rfl, (blk_cell BK101.out 1).trans rfl, (blk_cell BK102.out 0).trans rfl, (blk_cell BK102.out 1).trans rfl⟩ (fun hHeld => ?_)
   clear hK K
   refine norm_ (a' := ?_) ?_ ?_
   rotate_left
   ·show Act.put _ (some 9) _ = _
    simp only [Act.put, List.setIfInBounds_toArray, List.set_cons_zero, List.set_cons_succ, i64_w, i32_w]
    rfl
   refine pure_ (i := 5) (N := some 12) (v := ?_) (a' := ?_) #[true, true, true, true, true, true, true, true, false, true, true, false, false, false] rfl rfl (any_of HT_.out (by kernel_rfl)) (fun _ _ _ h => h) (Or.inl ⟨by rfl, ?_⟩) ?_ ?_
   rotate_left
   ·intro w'
    go_simp
    with_reducible rfl
   rotate_left
   ·simp only [Act.put, List.setIfInBounds_toArray, List.set_cons_zero, List.set_cons_succ, i64_w, i32_w]
    rfl
   refine one_ (i := 8) (N := some 15) #[true, true, true, true, true, true, true, true, true, true, true, false, false, false] rfl rfl (one_of HT_.out (by kernel_rfl)) (by decide) (fun K hK => ?_)
   refine goes_ Try.func188 (by kernel_rfl) rfl #[.int .i64 a1_0] (by rfl) rfl rfl (by (try simp only [List.map_toArray, List.map_cons, List.map_nil]); first | done | rfl | (simp only [List.length_drop, List.length_take]; rfl)) ?_
   with_reducible refine (impl_abs.calls a1_0 t104 _ A4.out).mono ?_
   rintro e w16 ⟨rfl, hb⟩
   refine ⟨_, rfl, ?_⟩
   replace BK101 := Aside0.mk (blk_below (g := gb101) (o := .cells #[.int .i64 a0_0, .int .i64 a0_1] 93 (0, 0)) (by refine blkP ?_; exact BK101.out) hb)
   replace BK102 := Aside0.mk (blk_below (g := gb102) (o := .cells #[.int .i64 a1_0, .int .i64 a1_1] 93 (0, 0)) (by refine blkP ?_; exact BK102.out) hb)
   replace HB := Aside0.mk (below_step (by repeat (first | exact belowP HB.out | refine belowP (below_set ?_ GE101.out) | refine belowP (below_set ?_ GE102.out))) hb)
   (try clear hb)
   (try clear hb2)
   (try clear hk)
   (try clear hi)
   refine hK.out _ _ ⟨(blk_cell BK101.out 0).trans rfl, (blk_cell BK101.out 1).trans rfl, (blk_cell BK102.out 0).trans rfl, (blk_cell BK102.out 1).trans rfl⟩ (fun hHeld => ?_)
   clear hK K
   refine norm_ (a' := ?_) ?_ ?_
   rotate_left
   ·show Act.put _ (some 15) _ = _
    simp only [Act.put, List.setIfInBounds_toArray, List.set_cons_zero, List.set_cons_succ, i64_w, i32_w]
    rfl
   refine pure_ (i := 11) (N := some 18) (v := ?_) (a' := ?_) #[true, true, true, true, true, true, true, true, true, true, true, true, false, false] rfl rfl (any_of HT_.out (by kernel_rfl)) (fun _ _ _ h => h) (Or.inl ⟨by rfl, ?_⟩) ?_ ?_
   rotate_left
   ·intro w'
    go_simp
    with_reducible rfl
   rotate_left
   ·simp only [Act.put, List.setIfInBounds_toArray, List.set_cons_zero, List.set_cons_succ, i64_w, i32_w]
    rfl
   refine pure_ (i := 12) (N := some 5) (v := ?_) (a' := ?_) #[true, true, true, true, true, true, true, true, true, true, true, true, true, false] rfl rfl (any_of HT_.out (by kernel_rfl)) (fun _ _ _ h => h) (Or.inl ⟨by rfl, ?_⟩) ?_ ?_
   rotate_left
   ·intro w'
    go_simp
    with_reducible rfl
   rotate_left
   ·simp only [Act.put, List.setIfInBounds_toArray, List.set_cons_zero, List.set_cons_succ, i64_w, i32_w]
    rfl
   refine pure_ (i := 13) (N := some 6) (v := ?_) (a' := ?_) #[true, true, true, true, true, true, true, true, true, true, true, true, true, true] rfl rfl (any_of HT_.out (by kernel_rfl)) (fun _ _ _ h => h) (Or.inl ⟨by rfl, ?_⟩) ?_ ?_
   rotate_left
   ·intro w'
    go_simp
    with_reducible rfl
   rotate_left
   ·simp only [Act.put, List.setIfInBounds_toArray, List.set_cons_zero, List.set_cons_succ, i64_w, i32_w]
    rfl
   refine done_ (done_of HT_.out (by kernel_rfl)) ?_
   try go_wp2
   go_ret
   exact ⟨by first | rfl | (simp [errW_none, errW_some] <;> rfl) | (simp [*, errW_none, errW_some] <;> rfl), by repeat (first | (with_reducible first | exact HB.out | apply below_alloc | apply pw_below_drewN | apply below_drew1 | refine below_set ?_ GE101.out | refine below_set ?_ GE102.out) | exact HB.out)⟩
  ·rw [if_neg c11] at H
   have c11b0 : decide ((wrap64 (t104 * a0_1)) < (wrap64 (t103 * a1_1))) = false := decide_eq_false c11
   clear c11
   obtain rfl := Option.some.inj H
   go_enter Try.func183, Try.ntmps183
   try go_wp2_with (first | ((with_reducible refine gate_dst (N := 2) rfl ?_); refine box_event ?hg (N := 2) ?hd (cs := #[.int .i64 a0_0, .int .i64 a0_1]) (t := 93) ?hr ?_; (case hd => rfl); (case hg => rfl); (case hr => first | (go_simp; done) | (go_simp; rfl)); intro gb101 hg w17 hbox hb; have n0_ := Aside0.mk (below_step (belowP HB.out) hb); have n1_ := Aside0.mk (hbox); have n2_ := Aside0.mk ((by rw [hg]; exact (below_size (belowP HB.out)) : w.heap.size ≤ gb101)); have n3_ := Aside0.mk ((by rw [hg]; exact (below_size (belowP HB.out)) : w.heap.size ≤ gb101)); clear HB; have HB := n0_; have BK101 := n1_; have GW101 := n2_; have GE101 := n3_; clear n0_ n1_ n2_ n3_; clear hb hbox hg) | ((with_reducible refine gate_dst (N := 3) rfl ?_); refine box_event ?hg (N := 3) ?hd (cs := #[.int .i64 a1_0, .int .i64 a1_1]) (t := 93) ?hr ?_; (case hd => rfl); (case hg => rfl); (case hr => first | (go_simp; done) | (go_simp; rfl)); intro gb102 hg w18 hbox hb; have n0_ := Aside0.mk (blk_below (g := gb101) (o := .cells #[.int .i64 a0_0, .int .i64 a0_1] 93 (0, 0)) (by refine blkP ?_; exact BK101.out) hb); have n1_ := Aside0.mk (below_step (by repeat (first | exact belowP HB.out | refine belowP (below_set ?_ GE101.out))) hb); have n2_ := Aside0.mk (hbox); have n3_ := Aside0.mk ((by rw [hg]; exact (below_size (by repeat (first | exact belowP HB.out | refine belowP (below_set ?_ GE101.out)))) : w.heap.size ≤ gb102)); have n4_ := Aside0.mk ((by rw [hg]; exact (below_size (by repeat (first | exact belowP HB.out | refine belowP (below_set ?_ GE101.out)))) : w.heap.size ≤ gb102)); have n5_ := Aside0.mk ((by rw [hg]; exact Nat.ne_of_lt (blk_lt (g := gb101) (o := .cells #[.int .i64 a0_0, .int .i64 a0_1] 93 (0, 0)) (by refine blkP ?_; exact BK101.out)) : gb101 ≠ gb102)); have n6_ := Aside0.mk ((by rw [hg]; exact Nat.ne_of_gt (blk_lt (g := gb101) (o := .cells #[.int .i64 a0_0, .int .i64 a0_1] 93 (0, 0)) (by refine blkP ?_; exact BK101.out)) : gb102 ≠ gb101)); clear BK101; clear HB; have BK101 := n0_; have HB := n1_; have BK102 := n2_; have GW102 := n3_; have GE102 := n4_; have NB101_102 := n5_; have NB102_101 := n6_; clear n0_ n1_ n2_ n3_ n4_ n5_ n6_; clear hb hbox hg))
   replace BK101 := Aside0.mk (blk_drew BK101.out)
   replace BK102 := Aside0.mk (blk_drew BK102.out)
   replace HB := Aside0.mk (below_drew1 HB.out)
   refine start_ (n := 14) (S := fun w' => w'.cell? ⟨gb101, 0, none⟩ = some (.int .i64 a0_0) ∧ w'.cell? ⟨gb101, 1, none⟩ = some (.int .i64 a0_1) ∧ w'.cell? ⟨gb102, 0, none⟩ = some (.int .i64 a1_0) ∧ w'.cell? ⟨gb102, 1, none⟩ = some (.int .i64 a1_1)) (ds := []) #[false, false, false, false, false, false, false, false, false, false, false, false, false, false] (by kernel_rfl) rfl rfl ⟨(blk_cell BK101.out 0).trans rfl, (blk_cell BK101.out 1).trans rfl, (blk_cell BK102.out 0).trans rfl, (blk_cell BK102.out 1).trans rfl⟩ (fun hHeld => ?_); refine with_tabW impl_compareSlopes.tab1 impl_compareSlopes.bits1 (fun HT_ HW_ => ?_)
   generalize w18.drew = w19 at BK101 BK102 HB hHeld ⊢
   refine pure_ (i := 0) (N := some 7) (v := ?_) (a' := ?_) #[true, false, false, false, false, false, false, false, false, false, false, false, false, false] rfl rfl (any_of HT_.out (by kernel_rfl)) (fun _ _ _ h => h) (Or.inl ⟨by rfl, ?_⟩) ?_ ?_
   rotate_left
   ·intro w'
    go_simp
    with_reducible rfl
   rotate_left
   ·simp only [Act.put, List.setIfInBounds_toArray, List.set_cons_zero, List.set_cons_succ, i64_w, i32_w]
    rfl
   refine pure_ (i := 3) (N := some 10) (v := ?_) (a' := ?_) #[true, false, false, true, false, false, false, false, false, false, false, false, false, false] rfl rfl (any_of HT_.out (by kernel_rfl)) (fun _ _ _ h => h) (Or.inl ⟨by rfl, ?_⟩) ?_ ?_
   rotate_left
   ·intro w'
    go_simp
    with_reducible rfl
   rotate_left
   ·simp only [Act.put, List.setIfInBounds_toArray, List.set_cons_zero, List.set_cons_succ, i64_w, i32_w]
    rfl
   refine pure_ (i := 6) (N := some 13) (v := ?_) (a' := ?_) #[true, false, false, true, false, false, true, false, false, false, false, false, false, false] rfl rfl (any_of HT_.out (by kernel_rfl)) (fun _ _ _ h => h) (Or.inl ⟨by rfl, ?_⟩) ?_ ?_
   rotate_left
   ·intro w'
    go_simp
    with_reducible rfl
   rotate_left
   ·simp only [Act.put, List.setIfInBounds_toArray, List.set_cons_zero, List.set_cons_succ, i64_w, i32_w]
    rfl
   refine pure_ (i := 9) (N := some 16) (v := ?_) (a' := ?_) #[true, false, false, true, false, false, true, false, false, true, false, false, false, false] rfl rfl (any_of HT_.out (by kernel_rfl)) (fun _ _ _ h => h) (Or.inl ⟨by rfl, ?_⟩) ?_ ?_
   rotate_left
   ·intro w'
    go_simp
    with_reducible rfl
   rotate_left
   ·simp only [Act.put, List.setIfInBounds_toArray, List.set_cons_zero, List.set_cons_succ, i64_w, i32_w]
    rfl
   refine take_ (i := 1) (N := some 8) (v := ?_) (a' := ?_) #[true, true, false, true, false, false, true, false, false, true, false, false, false, false] rfl rfl (take_ofW HT_.out HW_.out (by kernel_rfl)) (fun _ _ _ h => h) (Or.inl ⟨by rfl, ?_⟩) hHeld ?_ ?_
   rotate_left
   ·rintro w' ⟨s0, s1, s2, s3⟩
    go_simp
    with_reducible rfl
   rotate_left
   ·simp only [Act.put, List.setIfInBounds_toArray, List.set_cons_zero, List.set_cons_succ, i64_w, i32_w]
    rfl
   refine take_ (i := 4) (N := some 11) (v := ?_) (a' := ?_) #[true, true, false, true, true, false, true, false, false, true, false, false, false, false] rfl rfl (take_ofW HT_.out HW_.out (by kernel_rfl)) (fun _ _ _ h => h) (Or.inl ⟨by rfl, ?_⟩) hHeld ?_ ?_
   rotate_left
   ·rintro w' ⟨s0, s1, s2, s3⟩
    go_simp
    with_reducible rfl
   rotate_left
   ·simp only [Act.put, List.setIfInBounds_toArray, List.set_cons_zero, List.set_cons_succ, i64_w, i32_w]
    rfl
   refine take_ (i := 7) (N := some 14) (v := ?_) (a' := ?_) #[true, true, false, true, true, false, true, true, false, true, false, false, false, false] rfl rfl (take_ofW HT_.out HW_.out (by kernel_rfl)) (fun _ _ _ h => h) (Or.inl ⟨by rfl, ?_⟩) hHeld ?_ ?_
   rotate_left
   ·rintro w' ⟨s0, s1, s2, s3⟩
    go_simp
    with_reducible rfl
   rotate_left
   ·simp only [Act.put, List.setIfInBounds_toArray, List.set_cons_zero, List.set_cons_succ, i64_w, i32_w]
    rfl
   refine take_ (i := 10) (N := some 17) (v := ?_) (a' := ?_) #[true, true, false, true, true, false, true, true, false, true, true, false, false, false] rfl rfl (take_ofW HT_.out HW_.out (by kernel_rfl)) (fun _ _ _ h => h) (Or.inl ⟨by rfl, ?_⟩) hHeld ?_ ?_
   rotate_left
   ·rintro w' ⟨s0, s1, s2, s3⟩
    go_simp
    with_reducible rfl
   rotate_left
   ·simp only [Act.put, List.setIfInBounds_toArray, List.set_cons_zero, List.set_cons_succ, i64_w, i32_w]
    rfl
   refine one_ (i := 2) (N := some 9) #[true, true, true, true, true, false, true, true, false, true, true, false, false, false] rfl rfl (one_of HT_.out (by kernel_rfl)) (by decide) (fun K hK => ?_)
   refine goes_ Try.func188 (by kernel_rfl) rfl #[.int .i64 a0_0] (by rfl) rfl rfl (by (try simp only [List.map_toArray, List.map_cons, List.map_nil]); first | done | rfl | (simp only [List.length_drop, List.length_take]; rfl)) ?_
   with_reducible refine (impl_abs.calls a0_0 t103 _ A3.out).mono ?_
   rintro e w20 ⟨rfl, hb⟩
   refine ⟨_, rfl, ?_⟩
   replace BK101 := Aside0.mk (blk_below (g := gb101) (o := .cells #[.int .i64 a0_0, .int .i64 a0_1] 93 (0, 0)) (by refine blkP ?_; exact BK101.out) hb)
   replace BK102 := Aside0.mk (blk_below (g := gb102) (o := .cells #[.int .i64 a1_0, .int .i64 a1_1] 93 (0, 0)) (by refine blkP ?_; exact BK102.out) hb)
   replace HB := Aside0.mk (below_step (by repeat (first | exact belowP HB.out | refine belowP (below_set ?_ GE101.out) | refine belowP (below_set ?_ GE102.out))) hb)
   (try clear hb)
   (try clear hb2)
   (try clear hk)
   (try clear hi)
   refine hK.out _ _ ⟨(blk_cell BK101.out 0).trans rfl, (blk_cell BK101.out 1).trans rfl, (blk_cell BK102.out 0).trans rfl, (blk_cell BK102.out 1).trans rfl⟩ (fun hHeld => ?_)
   clear hK K
   refine norm_ (a' := ?_) ?_ ?_
   rotate_left
   ·show Act.put _ (some 9) _ = _
    simp only [Act.put, List.setIfInBounds_toArray, List.set_cons_zero, List.set_cons_succ, i64_w, i32_w]
    rfl
   refine pure_ (i := 5) (N := some 12) (v := ?_) (a' := ?_) #[true, true, true, true, true, true, true, true, false, true, true, false, false, false] rfl rfl (any_of HT_.out (by kernel_rfl)) (fun _ _ _ h => h) (Or.inl ⟨by rfl, ?_⟩) ?_ ?_
   rotate_left
   ·intro w'
    go_simp
    with_reducible rfl
   rotate_left
   ·simp only [Act.put, List.setIfInBounds_toArray, List.set_cons_zero, List.set_cons_succ, i64_w, i32_w]
    rfl
   refine one_ (i := 8) (N := some 15) #[true, true, true, true, true, true, true, true, true, true, true, false, false, false] rfl rfl (one_of HT_.out (by kernel_rfl)) (by decide) (fun K hK => ?_)
   refine goes_ Try.func188 (by kernel_rfl) rfl #[.int .i64 a1_0] (by rfl) rfl rfl (by (try simp only [List.map_toArray, List.map_cons, List.map_nil]); first | done | rfl | (simp only [List.length_drop, List.length_take]; rfl)) ?_
   with_reducible refine (impl_abs.calls a1_0 t104 _ A4.out).mono ?_
   rintro e w21 ⟨rfl, hb⟩
   refine ⟨_, rfl, ?_⟩
   replace BK101 := Aside0.mk (blk_below (g := gb101) (o := .cells #[.int .i64 a0_0, .int .i64 a0_1] 93 (0, 0)) (by refine blkP ?_; exact BK101.out) hb)
   replace BK102 := Aside0.mk (blk_below (g := gb102) (o := .cells #[.int .i64 a1_0, .int .i64 a1_1] 93 (0, 0)) (by refine blkP ?_; exact BK102.out) hb)
   replace HB := Aside0.mk (below_step (by repeat (first | exact belowP HB.out | refine belowP (below_set ?_ GE101.out) | refine belowP (below_set ?_ GE102.out))) hb)
   (try clear hb)
   (try clear hb2)
   (try clear hk)
   (try clear hi)
   refine hK.out _ _ ⟨(blk_cell BK101.out 0).trans rfl, (blk_cell BK101.out 1).trans rfl, (blk_cell BK102.out 0).trans rfl, (blk_cell BK102.out 1).trans rfl⟩ (fun hHeld => ?_)
   clear hK K
   refine norm_ (a' := ?_) ?_ ?_
   rotate_left
   ·show Act.put _ (some 15) _ = _
    simp only [Act.put, List.setIfInBounds_toArray, List.set_cons_zero, List.set_cons_succ, i64_w, i32_w]
    rfl
   refine pure_ (i := 11) (N := some 18) (v := ?_) (a' := ?_) #[true, true, true, true, true, true, true, true, true, true, true, true, false, false] rfl rfl (any_of HT_.out (by kernel_rfl)) (fun _ _ _ h => h) (Or.inl ⟨by rfl, ?_⟩) ?_ ?_
   rotate_left
   ·intro w'
    go_simp
    with_reducible rfl
   rotate_left
   ·simp only [Act.put, List.setIfInBounds_toArray, List.set_cons_zero, List.set_cons_succ, i64_w, i32_w]
    rfl
   refine pure_ (i := 12) (N := some 5) (v := ?_) (a' := ?_) #[true, true, true, true, true, true, true, true, true, true, true, true, true, false] rfl rfl (any_of HT_.out (by kernel_rfl)) (fun _ _ _ h => h) (Or.inl ⟨by rfl, ?_⟩) ?_ ?_
   rotate_left
   ·intro w'
    go_simp
    with_reducible rfl
   rotate_left
   ·simp only [Act.put, List.setIfInBounds_toArray, List.set_cons_zero, List.set_cons_succ, i64_w, i32_w]
    rfl
   refine pure_ (i := 13) (N := some 6) (v := ?_) (a' := ?_) #[true, true, true, true, true, true, true, true, true, true, true, true, true, true] rfl rfl (any_of HT_.out (by kernel_rfl)) (fun _ _ _ h => h) (Or.inl ⟨by rfl, ?_⟩) ?_ ?_
   rotate_left
   ·intro w'
    go_simp
    with_reducible rfl
   rotate_left
   ·simp only [Act.put, List.setIfInBounds_toArray, List.set_cons_zero, List.set_cons_succ, i64_w, i32_w]
    rfl
   refine done_ (done_of HT_.out (by kernel_rfl)) ?_
   try go_wp2
   go_ret
   exact ⟨by first | rfl | (simp [errW_none, errW_some] <;> rfl) | (simp [*, errW_none, errW_some] <;> rfl), by repeat (first | (with_reducible first | exact HB.out | apply below_alloc | apply pw_below_drewN | apply below_drew1 | refine below_set ?_ GE101.out | refine below_set ?_ GE102.out) | exact HB.out)⟩
set_option maxHeartbeats 8000000 in
set_option maxRecDepth 100000 in
theorem impl_inRange.calls (a0 : Int) (a1 : Int) (a2 : Int) (r : Bool) (w : World) (h : impl_inRange.f a0 a1 a2 = some r) :
    Calls Try.prog 125 #[.int .i64 a0, .int .i64 a1, .int .i64 a2] w fun e w' => e = .returned (.bool r) ∧ Drawn0 w w' := by
  have H : (if a1 ≤ a0 then (some (decide (a0 ≤ a2))) else (some false)) = some r := h
  clear h
  by_cases c4 : a1 ≤ a0
  · rw [if_pos c4] at H
    have c4b0 : decide (a1 ≤ a0) = true := decide_eq_true c4
    clear c4
    obtain rfl := Option.some.inj H
    go_enter Try.func125, Try.ntmps125
    go_wp2
    go_ret
    exact ⟨by first | rfl | (simp; done) | (simp [*]; done), by repeat (first | exact Drawn0.refl _ | apply Drawn0.step)⟩
  · rw [if_neg c4] at H
    have c4b0 : decide (a1 ≤ a0) = false := decide_eq_false c4
    clear c4
    obtain rfl := Option.some.inj H
    go_enter Try.func125, Try.ntmps125
    go_wp2
    go_ret
    exact ⟨by first | rfl | (simp; done) | (simp [*]; done), by repeat (first | exact Drawn0.refl _ | apply Drawn0.step)⟩
set_option maxHeartbeats 8000000 in
set_option maxRecDepth 100000 in
theorem impl_isSlope.calls (a0_0 : Int) (a0_1 : Int) (r : Bool) (w : World) (h : impl_isSlope.f a0_0 a0_1 = some r) :
    Calls Try.prog 186 #[.agg #[.int .i64 a0_0, .int .i64 a0_1]] w fun e w' => e = .returned (.bool r) ∧ Below w.heap.size w w' := by
  have hu93 := Try.underlying93
  have HB := Aside0.mk (Below.refl w.heap.size w)
  have H : ((impl_inRange.f a0_1 1 1000000000).bind fun t102 => (if t102 = true then ((impl_inRange.f a0_0 (-1000000000) 1000000000).bind fun t103 => (some t103)) else (some false))) = some r := h
  clear h
  replace H := Option.bind_eq_some_iff.mp H
  obtain ⟨t102, A20, H⟩ := H
  replace H : (if t102 = true then ((impl_inRange.f a0_0 (-1000000000) 1000000000).bind fun t103 => (some t103)) else (some false)) = some r := H
  have A2 := Aside0.mk A20
  clear A20
  by_cases c3 : t102 = true
  · subst c3
    have H1 : ((impl_inRange.f a0_0 (-1000000000) 1000000000).bind fun t103 => (some t103)) = some r := by rw [if_pos rfl] at H; exact H
    clear H
    have H := H1
    clear H1
    replace H := Option.bind_eq_some_iff.mp H
    obtain ⟨t103, A40, H⟩ := H
    replace H : (some t103) = some r := H
    have A4 := Aside0.mk A40
    clear A40
    obtain rfl := Option.some.inj H
    go_enter Try.func186, Try.ntmps186
    go_wp2_with (first | ((with_reducible refine gate_dst (N := 1) rfl ?_); refine box_event ?hg (N := 1) ?hd (cs := #[.int .i64 a0_0, .int .i64 a0_1]) (t := 93) ?hr ?_; (case hd => rfl); (case hg => rfl); (case hr => first | (go_simp; done) | (go_simp; rfl)); intro gb101 hg w5 hbox hb; have n0_ := Aside0.mk (below_step (by repeat (first | (with_reducible first | exact HB.out | apply below_alloc | apply pw_below_drewN | apply below_drew1) | exact HB.out)) hb); have n1_ := Aside0.mk (hbox); have n2_ := Aside0.mk ((by rw [hg]; exact (below_size (by repeat (first | (with_reducible first | exact HB.out | apply below_alloc | apply pw_below_drewN | apply below_drew1) | exact HB.out))) : w.heap.size ≤ gb101)); have n3_ := Aside0.mk ((by rw [hg]; exact (below_size (by repeat (first | (with_reducible first | exact HB.out | apply below_alloc | apply pw_below_drewN | apply below_drew1) | exact HB.out))) : w.heap.size ≤ gb101)); clear HB; have HB := n0_; have BK101 := n1_; have GW101 := n2_; have GE101 := n3_; clear n0_ n1_ n2_ n3_; clear hb hbox hg; have hcz6_0 : w5.cell? ⟨gb101, 0, none⟩ = some (.int .i64 a0_0) := (blk_cell BK101.out 0).trans rfl; have hcz6_1 : w5.cell? ⟨gb101, 1, none⟩ = some (.int .i64 a0_1) := (blk_cell BK101.out 1).trans rfl; have hfz6_0 := blk_frozen BK101.out 0; have hfz6_1 := blk_frozen BK101.out 1) | ((with_reducible refine gate_callee (f := 125) rfl ?_); refine goesL_ (some 5) rfl rfl Try.func125 (by kernel_rfl) rfl #[.int .i64 a0_1, .int .i64 1, .int .i64 1000000000] rfl (by (try simp only [List.map_toArray, List.map_cons, List.map_nil]); first | done | rfl | (simp only [List.length_drop, List.length_take]; rfl)) ?_; (with_reducible refine (impl_inRange.calls a0_1 1 1000000000 true _ A2.out).mono ?_); rintro e w' ⟨rfl, ⟨nd, rfl⟩⟩; refine ⟨_, rfl, ?_⟩) | (go_at_call 125; (with_reducible refine (impl_inRange.calls a0_0 (-1000000000) 1000000000 t103 _ A4.out).mono ?_); rintro e w' ⟨rfl, ⟨nd, rfl⟩⟩))
    go_ret
    exact ⟨by first | rfl | (simp [errW_none, errW_some] <;> rfl) | (simp [*, errW_none, errW_some] <;> rfl), by repeat (first | (with_reducible first | exact HB.out | apply below_alloc | apply pw_below_drewN | apply below_drew1 | refine below_set ?_ GE101.out) | exact HB.out)⟩
  · replace c3 := Bool.eq_false_iff.mpr c3
    subst c3
    have H1 : (some false) = some r := by rw [if_neg (show ¬ (false = true) by decide)] at H; exact H
    clear H
    have H := H1
    clear H1
    obtain rfl := Option.some.inj H
    go_enter Try.func186, Try.ntmps186
    go_wp2_with (first | ((with_reducible refine gate_dst (N := 1) rfl ?_); refine box_event ?hg (N := 1) ?hd (cs := #[.int .i64 a0_0, .int .i64 a0_1]) (t := 93) ?hr ?_; (case hd => rfl); (case hg => rfl); (case hr => first | (go_simp; done) | (go_simp; rfl)); intro gb101 hg w7 hbox hb; have n0_ := Aside0.mk (below_step (by repeat (first | (with_reducible first | exact HB.out | apply below_alloc | apply pw_below_drewN | apply below_drew1) | exact HB.out)) hb); have n1_ := Aside0.mk (hbox); have n2_ := Aside0.mk ((by rw [hg]; exact (below_size (by repeat (first | (with_reducible first | exact HB.out | apply below_alloc | apply pw_below_drewN | apply below_drew1) | exact HB.out))) : w.heap.size ≤ gb101)); have n3_ := Aside0.mk ((by rw [hg]; exact (below_size (by repeat (first | (with_reducible first | exact HB.out | apply below_alloc | apply pw_below_drewN | apply below_drew1) | exact HB.out))) : w.heap.size ≤ gb101)); clear HB; have HB := n0_; have BK101 := n1_; have GW101 := n2_; have GE101 := n3_; clear n0_ n1_ n2_ n3_; clear hb hbox hg; have hcz8_0 : w7.cell? ⟨gb101, 0, none⟩ = some (.int .i64 a0_0) := (blk_cell BK101.out 0).trans rfl; have hcz8_1 : w7.cell? ⟨gb101, 1, none⟩ = some (.int .i64 a0_1) := (blk_cell BK101.out 1).trans rfl; have hfz8_0 := blk_frozen BK101.out 0; have hfz8_1 := blk_frozen BK101.out 1) | ((with_reducible refine gate_callee (f := 125) rfl ?_); refine goesL_ (some 5) rfl rfl Try.func125 (by kernel_rfl) rfl #[.int .i64 a0_1, .int .i64 1, .int .i64 1000000000] rfl (by (try simp only [List.map_toArray, List.map_cons, List.map_nil]); first | done | rfl | (simp only [List.length_drop, List.length_take]; rfl)) ?_; (with_reducible refine (impl_inRange.calls a0_1 1 1000000000 false _ A2.out).mono ?_); rintro e w' ⟨rfl, ⟨nd, rfl⟩⟩; refine ⟨_, rfl, ?_⟩))
    go_ret
    exact ⟨by first | rfl | (simp [errW_none, errW_some] <;> rfl) | (simp [*, errW_none, errW_some] <;> rfl), by repeat (first | (with_reducible first | exact HB.out | apply below_alloc | apply pw_below_drewN | apply below_drew1 | refine below_set ?_ GE101.out) | exact HB.out)⟩
set_option maxHeartbeats 8000000 in
set_option maxRecDepth 100000 in
theorem impl_CompareSlopes.calls (a0_0 : Int) (a0_1 : Int) (a1_0 : Int) (a1_1 : Int) (r1 : Int) (r2 : Int) (w : World) (h : impl_CompareSlopes.f a0_0 a0_1 a1_0 a1_1 = some (r1, r2)) :
  Calls Try.prog 77 #[.agg #[.int .i64 a0_0, .int .i64 a0_1], .agg #[.int .i64 a1_0, .int .i64 a1_1]] w fun e w' => e = .returned (.tuple #[.int .i64 r1, .int .i64 r2]) ∧ Below w.heap.size w w' := by
 have hu93 := Try.underlying93
 have HB := Aside0.mk (Below.refl w.heap.size w)
 have H : ((impl_isSlope.f a0_0 a0_1).bind fun t103 => (if t103 = true then ((impl_isSlope.f a1_0 a1_1).bind fun t104 => (if t104 = true then ((impl_compareSlopes.f a0_0 a0_1 a1_0 a1_1).bind fun t105 => (some (t105, 0))) else (some (0, 1)))) else (some (0, 1)))) = some (r1, r2) := h
 clear h
 replace H := Option.bind_eq_some_iff.mp H
 obtain ⟨t103, A30, H⟩ := H
 replace H : (if t103 = true then ((impl_isSlope.f a1_0 a1_1).bind fun t104 => (if t104 = true then ((impl_compareSlopes.f a0_0 a0_1 a1_0 a1_1).bind fun t105 => (some (t105, 0))) else (some (0, 1)))) else (some (0, 1))) = some (r1, r2) := H
 have A3 := Aside0.mk A30
 clear A30
 by_cases c4 : t103 = true
 ·subst c4
  have H1 : ((impl_isSlope.f a1_0 a1_1).bind fun t104 => (if t104 = true then ((impl_compareSlopes.f a0_0 a0_1 a1_0 a1_1).bind fun t105 => (some (t105, 0))) else (some (0, 1)))) = some (r1, r2) := by rw [if_pos rfl] at H; exact H
  clear H
  have H := H1
  clear H1
  replace H := Option.bind_eq_some_iff.mp H
  obtain ⟨t104, A50, H⟩ := H
  replace H : (if t104 = true then ((impl_compareSlopes.f a0_0 a0_1 a1_0 a1_1).bind fun t105 => (some (t105, 0))) else (some (0, 1))) = some (r1, r2) := H
  have A5 := Aside0.mk A50
  clear A50
  by_cases c6 : t104 = true
  ·subst c6
   have H1 : ((impl_compareSlopes.f a0_0 a0_1 a1_0 a1_1).bind fun t105 => (some (t105, 0))) = some (r1, r2) := by rw [if_pos rfl] at H; exact H
   clear H
   have H := H1
   clear H1
   replace H := Option.bind_eq_some_iff.mp H
   obtain ⟨t105, A70, H⟩ := H
   replace H : (some (t105, 0)) = some (r1, r2) := H
   have A7 := Aside0.mk A70
   clear A70
   simp only [Option.some.injEq, Prod.mk.injEq] at H
   obtain ⟨rfl, rfl⟩ := H
   go_enter Try.func77, Try.ntmps77
   go_wp2_with (first | ((with_reducible refine gate_dst (N := 2) rfl ?_); refine box_event ?hg (N := 2) ?hd (cs := #[.int .i64 a0_0, .int .i64 a0_1]) (t := 93) ?hr ?_; (case hd => rfl); (case hg => rfl); (case hr => first | (go_simp; done) | (go_simp; rfl)); intro gb101 hg w8 hbox hb; have n0_ := Aside0.mk (below_step (belowP HB.out) hb); have n1_ := Aside0.mk (hbox); have n2_ := Aside0.mk ((by rw [hg]; exact (below_size (belowP HB.out)) : w.heap.size ≤ gb101)); have n3_ := Aside0.mk ((by rw [hg]; exact (below_size (belowP HB.out)) : w.heap.size ≤ gb101)); clear HB; have HB := n0_; have BK101 := n1_; have GW101 := n2_; have GE101 := n3_; clear n0_ n1_ n2_ n3_; clear hb hbox hg) | ((with_reducible refine gate_dst (N := 3) rfl ?_); refine box_event ?hg (N := 3) ?hd (cs := #[.int .i64 a1_0, .int .i64 a1_1]) (t := 93) ?hr ?_; (case hd => rfl); (case hg => rfl); (case hr => first | (go_simp; done) | (go_simp; rfl)); intro gb102 hg w9 hbox hb; have n0_ := Aside0.mk (blk_below (g := gb101) (o := .cells #[.int .i64 a0_0, .int .i64 a0_1] 93 (0, 0)) (by refine blkP ?_; exact BK101.out) hb); have n1_ := Aside0.mk (below_step (by repeat (first | exact belowP HB.out | refine belowP (below_set ?_ GE101.out))) hb); have n2_ := Aside0.mk (hbox); have n3_ := Aside0.mk ((by rw [hg]; exact (below_size (by repeat (first | exact belowP HB.out | refine belowP (below_set ?_ GE101.out)))) : w.heap.size ≤ gb102)); have n4_ := Aside0.mk ((by rw [hg]; exact (below_size (by repeat (first | exact belowP HB.out | refine belowP (below_set ?_ GE101.out)))) : w.heap.size ≤ gb102)); have n5_ := Aside0.mk ((by rw [hg]; exact Nat.ne_of_lt (blk_lt (g := gb101) (o := .cells #[.int .i64 a0_0, .int .i64 a0_1] 93 (0, 0)) (by refine blkP ?_; exact BK101.out)) : gb101 ≠ gb102)); have n6_ := Aside0.mk ((by rw [hg]; exact Nat.ne_of_gt (blk_lt (g := gb101) (o := .cells #[.int .i64 a0_0, .int .i64 a0_1] 93 (0, 0)) (by refine blkP ?_; exact BK101.out)) : gb102 ≠ gb101)); clear BK101; clear HB; have BK101 := n0_; have HB := n1_; have BK102 := n2_; have GW102 := n3_; have GE102 := n4_; have NB101_102 := n5_; have NB102_101 := n6_; clear n0_ n1_ n2_ n3_ n4_ n5_ n6_; clear hb hbox hg; have hnb10 := NB101_102.out; have hnc10 := NB102_101.out; have hcz11_0 : w9.cell? ⟨gb101, 0, none⟩ = some (.int .i64 a0_0) := (blk_cell BK101.out 0).trans rfl; have hcz11_1 : w9.cell? ⟨gb101, 1, none⟩ = some (.int .i64 a0_1) := (blk_cell BK101.out 1).trans rfl; have hfz11_0 := blk_frozen BK101.out 0; have hfz11_1 := blk_frozen BK101.out 1) | ((with_reducible refine gate_callee (f := 186) rfl ?_); refine goesL_ (some 7) rfl rfl Try.func186 (by kernel_rfl) rfl #[.agg #[.int .i64 a0_0, .int .i64 a0_1]] rfl (by (try simp only [List.map_toArray, List.map_cons, List.map_nil]); first | done | rfl | (simp only [List.length_drop, List.length_take]; rfl)) ?_; (with_reducible refine (impl_isSlope.calls a0_0 a0_1 true _ A3.out).mono ?_); rintro e w12 ⟨rfl, hb⟩; refine ⟨_, rfl, ?_⟩; replace BK101 := Aside0.mk (blk_below (g := gb101) (o := .cells #[.int .i64 a0_0, .int .i64 a0_1] 93 (0, 0)) (by refine blkP ?_; exact BK101.out) hb); replace BK102 := Aside0.mk (blk_below (g := gb102) (o := .cells #[.int .i64 a1_0, .int .i64 a1_1] 93 (0, 0)) (by refine blkP ?_; exact BK102.out) hb); replace HB := Aside0.mk (below_step (by repeat (first | exact belowP HB.out | refine belowP (below_set ?_ GE101.out) | refine belowP (below_set ?_ GE102.out))) hb); (try clear hb); (try clear hb2); (try clear hk); (try clear hi); have hcz13_0 : w12.cell? ⟨gb102, 0, none⟩ = some (.int .i64 a1_0) := (blk_cell BK102.out 0).trans rfl; have hcz13_1 : w12.cell? ⟨gb102, 1, none⟩ = some (.int .i64 a1_1) := (blk_cell BK102.out 1).trans rfl; have hfz13_0 := blk_frozen BK102.out 0; have hfz13_1 := blk_frozen BK102.out 1) | (go_at_call 186; (with_reducible refine (impl_isSlope.calls a1_0 a1_1 true _ A5.out).mono ?_); rintro e w14 ⟨rfl, hb⟩; replace BK101 := Aside0.mk (blk_below (g := gb101) (o := .cells #[.int .i64 a0_0, .int .i64 a0_1] 93 (0, 0)) (by refine blkP ?_; exact BK101.out) hb); replace BK102 := Aside0.mk (blk_below (g := gb102) (o := .cells #[.int .i64 a1_0, .int .i64 a1_1] 93 (0, 0)) (by refine blkP ?_; exact BK102.out) hb); replace HB := Aside0.mk (below_step (by repeat (first | exact belowP HB.out | refine belowP (below_set ?_ GE101.out) | refine belowP (below_set ?_ GE102.out))) hb); (try clear hb); (try clear hb2); (try clear hk); (try clear hi); have hcz15_0 : w14.cell? ⟨gb101, 0, none⟩ = some (.int .i64 a0_0) := (blk_cell BK101.out 0).trans rfl; have hcz15_1 : w14.cell? ⟨gb101, 1, none⟩ = some (.int .i64 a0_1) := (blk_cell BK101.out 1).trans rfl; have hfz15_0 := blk_frozen BK101.out 0; have hfz15_1 := blk_frozen BK101.out 1; have hcz16_0 : w14.cell? ⟨gb102, 0, none⟩ = some (.int .i64 a1_0) := (blk_cell BK102.out 0).trans rfl; have hcz16_1 : w14.cell? ⟨gb102, 1, none⟩ = some (.int .i64 a1_1) := (blk_cell BK102.out 1).trans rfl; have hfz16_0 := blk_frozen BK102.out 0; have hfz16_1 := blk_frozen BK102.out 1) | ((with_reducible refine gate_callee (f := 183) rfl ?_); refine goesL_ (some 16) rfl rfl Try.func183 (by kernel_rfl) rfl #[.agg #[.int .i64 a0_0, .int .i64 a0_1], .agg #[.int .i64 a1_0, .int .i64 a1_1]] rfl (by (try simp only [List.map_toArray, List.map_cons, List.map_nil]); first | done | rfl | (simp only [List.length_drop, List.length_take]; rfl)) ?_; (with_reducible refine (impl_compareSlopes.calls a0_0 a0_1 a1_0 a1_1 t105 _ A7.out).mono ?_); rintro e w17 ⟨rfl, hb⟩; refine ⟨_, rfl, ?_⟩; replace BK101 := Aside0.mk (blk_below (g := gb101) (o := .cells #[.int .i64 a0_0, .int .i64 a0_1] 93 (0, 0)) (by refine blkP ?_; exact BK101.out) hb); replace BK102 := Aside0.mk (blk_below (g := gb102) (o := .cells #[.int .i64 a1_0, .int .i64 a1_1] 93 (0, 0)) (by refine blkP ?_; exact BK102.out) hb); replace HB := Aside0.mk (below_step (by repeat (first | exact belowP HB.out | refine belowP (below_set ?_ GE101.out) | refine belowP (below_set ?_ GE102.out))) hb); (try clear hb); (try clear hb2); (try clear hk); (try clear hi)))
   go_ret2
   exact ⟨by first | rfl | (simp [errW_none, errW_some] <;> rfl) | (simp [*, errW_none, errW_some] <;> rfl), by repeat (first | (with_reducible first | exact HB.out | apply below_alloc | apply pw_below_drewN | apply below_drew1 | refine below_set ?_ GE101.out | refine below_set ?_ GE102.out) | exact HB.out)⟩
  ·replace c6 := Bool.eq_false_iff.mpr c6
   subst c6
   have H1 : (some (0, 1)) = some (r1, r2) := by rw [if_neg (show ¬ (false = true) by decide)] at H; exact H
   clear H
   have H := H1
   clear H1
   simp only [Option.some.injEq, Prod.mk.injEq] at H
   obtain ⟨rfl, rfl⟩ := H
   go_enter Try.func77, Try.ntmps77
   go_wp2_with (first | ((with_reducible refine gate_dst (N := 2) rfl ?_); refine box_event ?hg (N := 2) ?hd (cs := #[.int .i64 a0_0, .int .i64 a0_1]) (t := 93) ?hr ?_; (case hd => rfl); (case hg => rfl); (case hr => first | (go_simp; done) | (go_simp; rfl)); intro gb101 hg w18 hbox hb; have n0_ := Aside0.mk (below_step (belowP HB.out) hb); have n1_ := Aside0.mk (hbox); have n2_ := Aside0.mk ((by rw [hg]; exact (below_size (belowP HB.out)) : w.heap.size ≤ gb101)); have n3_ := Aside0.mk ((by rw [hg]; exact (below_size (belowP HB.out)) : w.heap.size ≤ gb101)); clear HB; have HB := n0_; have BK101 := n1_; have GW101 := n2_; have GE101 := n3_; clear n0_ n1_ n2_ n3_; clear hb hbox hg) | ((with_reducible refine gate_dst (N := 3) rfl ?_); refine box_event ?hg (N := 3) ?hd (cs := #[.int .i64 a1_0, .int .i64 a1_1]) (t := 93) ?hr ?_; (case hd => rfl); (case hg => rfl); (case hr => first | (go_simp; done) | (go_simp; rfl)); intro gb102 hg w19 hbox hb; have n0_ := Aside0.mk (blk_below (g := gb101) (o := .cells #[.int .i64 a0_0, .int .i64 a0_1] 93 (0, 0)) (by refine blkP ?_; exact BK101.out) hb); have n1_ := Aside0.mk (below_step (by repeat (first | exact belowP HB.out | refine belowP (below_set ?_ GE101.out))) hb); have n2_ := Aside0.mk (hbox); have n3_ := Aside0.mk ((by rw [hg]; exact (below_size (by repeat (first | exact belowP HB.out | refine belowP (below_set ?_ GE101.out)))) : w.heap.size ≤ gb102)); have n4_ := Aside0.mk ((by rw [hg]; exact (below_size (by repeat (first | exact belowP HB.out | refine belowP (below_set ?_ GE101.out)))) : w.heap.size ≤ gb102)); have n5_ := Aside0.mk ((by rw [hg]; exact Nat.ne_of_lt (blk_lt (g := gb101) (o := .cells #[.int .i64 a0_0, .int .i64 a0_1] 93 (0, 0)) (by refine blkP ?_; exact BK101.out)) : gb101 ≠ gb102)); have n6_ := Aside0.mk ((by rw [hg]; exact Nat.ne_of_gt (blk_lt (g := gb101) (o := .cells #[.int .i64 a0_0, .int .i64 a0_1] 93 (0, 0)) (by refine blkP ?_; exact BK101.out)) : gb102 ≠ gb101)); clear BK101; clear HB; have BK101 := n0_; have HB := n1_; have BK102 := n2_; have GW102 := n3_; have GE102 := n4_; have NB101_102 := n5_; have NB102_101 := n6_; clear n0_ n1_ n2_ n3_ n4_ n5_ n6_; clear hb hbox hg; have hnb20 := NB101_102.out; have hnc20 := NB102_101.out; have hcz21_0 : w19.cell? ⟨gb101, 0, none⟩ = some (.int .i64 a0_0) := (blk_cell BK101.out 0).trans rfl; have hcz21_1 : w19.cell? ⟨gb101, 1, none⟩ = some (.int .i64 a0_1) := (blk_cell BK101.out 1).trans rfl; have hfz21_0 := blk_frozen BK101.out 0; have hfz21_1 := blk_frozen BK101.out 1) | ((with_reducible refine gate_callee (f := 186) rfl ?_); refine goesL_ (some 7) rfl rfl Try.func186 (by kernel_rfl) rfl #[.agg #[.int .i64 a0_0, .int .i64 a0_1]] rfl (by (try simp only [List.map_toArray, List.map_cons, List.map_nil]); first | done | rfl | (simp only [List.length_drop, List.length_take]; rfl)) ?_; (with_reducible refine (impl_isSlope.calls a0_0 a0_1 true _ A3.out).mono ?_); rintro e w22 ⟨rfl, hb⟩; refine ⟨_, rfl, ?_⟩; replace BK101 := Aside0.mk (blk_below (g := gb101) (o := .cells #[.int .i64 a0_0, .int .i64 a0_1] 93 (0, 0)) (by refine blkP ?_; exact BK101.out) hb); replace BK102 := Aside0.mk (blk_below (g := gb102) (o := .cells #[.int .i64 a1_0, .int .i64 a1_1] 93 (0, 0)) (by refine blkP ?_; exact BK102.out) hb); replace HB := Aside0.mk (below_step (by repeat (first | exact belowP HB.out | refine belowP (below_set ?_ GE101.out) | refine belowP (below_set ?_ GE102.out))) hb); (try clear hb); (try clear hb2); (try clear hk); (try clear hi); have hcz23_0 : w22.cell? ⟨gb102, 0, none⟩ = some (.int .i64 a1_0) := (blk_cell BK102.out 0).trans rfl; have hcz23_1 : w22.cell? ⟨gb102, 1, none⟩ = some (.int .i64 a1_1) := (blk_cell BK102.out 1).trans rfl; have hfz23_0 := blk_frozen BK102.out 0; have hfz23_1 := blk_frozen BK102.out 1) | (go_at_call 186; (with_reducible refine (impl_isSlope.calls a1_0 a1_1 false _ A5.out).mono ?_); rintro e w24 ⟨rfl, hb⟩; replace BK101 := Aside0.mk (blk_below (g := gb101) (o := .cells #[.int .i64 a0_0, .int .i64 a0_1] 93 (0, 0)) (by refine blkP ?_; exact BK101.out) hb); replace BK102 := Aside0.mk (blk_below (g := gb102) (o := .cells #[.int .i64 a1_0, .int .i64 a1_1] 93 (0, 0)) (by refine blkP ?_; exact BK102.out) hb); replace HB := Aside0.mk (below_step (by repeat (first | exact belowP HB.out | refine belowP (below_set ?_ GE101.out) | refine belowP (below_set ?_ GE102.out))) hb); (try clear hb); (try clear hb2); (try clear hk); (try clear hi)))
   go_ret2
   exact ⟨by first | rfl | (simp [errW_none, errW_some] <;> rfl) | (simp [*, errW_none, errW_some] <;> rfl), by repeat (first | (with_reducible first | exact HB.out | apply below_alloc | apply pw_below_drewN | apply below_drew1 | refine below_set ?_ GE101.out | refine below_set ?_ GE102.out) | exact HB.out)⟩
 ·replace c4 := Bool.eq_false_iff.mpr c4
  subst c4
  have H1 : (some (0, 1)) = some (r1, r2) := by rw [if_neg (show ¬ (false = true) by decide)] at H; exact H
  clear H
  have H := H1
  clear H1
  simp only [Option.some.injEq, Prod.mk.injEq] at H
  obtain ⟨rfl, rfl⟩ := H
  go_enter Try.func77, Try.ntmps77
  go_wp2_with (first | ((with_reducible refine gate_dst (N := 2) rfl ?_); refine box_event ?hg (N := 2) ?hd (cs := #[.int .i64 a0_0, .int .i64 a0_1]) (t := 93) ?hr ?_; (case hd => rfl); (case hg => rfl); (case hr => first | (go_simp; done) | (go_simp; rfl)); intro gb101 hg w25 hbox hb; have n0_ := Aside0.mk (below_step (belowP HB.out) hb); have n1_ := Aside0.mk (hbox); have n2_ := Aside0.mk ((by rw [hg]; exact (below_size (belowP HB.out)) : w.heap.size ≤ gb101)); have n3_ := Aside0.mk ((by rw [hg]; exact (below_size (belowP HB.out)) : w.heap.size ≤ gb101)); clear HB; have HB := n0_; have BK101 := n1_; have GW101 := n2_; have GE101 := n3_; clear n0_ n1_ n2_ n3_; clear hb hbox hg) | ((with_reducible refine gate_dst (N := 3) rfl ?_); refine box_event ?hg (N := 3) ?hd (cs := #[.int .i64 a1_0, .int .i64 a1_1]) (t := 93) ?hr ?_; (case hd => rfl); (case hg => rfl); (case hr => first | (go_simp; done) | (go_simp; rfl)); intro gb102 hg w26 hbox hb; have n0_ := Aside0.mk (blk_below (g := gb101) (o := .cells #[.int .i64 a0_0, .int .i64 a0_1] 93 (0, 0)) (by refine blkP ?_; exact BK101.out) hb); have n1_ := Aside0.mk (below_step (by repeat (first | exact belowP HB.out | refine belowP (below_set ?_ GE101.out))) hb); have n2_ := Aside0.mk (hbox); have n3_ := Aside0.mk ((by rw [hg]; exact (below_size (by repeat (first | exact belowP HB.out | refine belowP (below_set ?_ GE101.out)))) : w.heap.size ≤ gb102)); have n4_ := Aside0.mk ((by rw [hg]; exact (below_size (by repeat (first | exact belowP HB.out | refine belowP (below_set ?_ GE101.out)))) : w.heap.size ≤ gb102)); have n5_ := Aside0.mk ((by rw [hg]; exact Nat.ne_of_lt (blk_lt (g := gb101) (o := .cells #[.int .i64 a0_0, .int .i64 a0_1] 93 (0, 0)) (by refine blkP ?_; exact BK101.out)) : gb101 ≠ gb102)); have n6_ := Aside0.mk ((by rw [hg]; exact Nat.ne_of_gt (blk_lt (g := gb101) (o := .cells #[.int .i64 a0_0, .int .i64 a0_1] 93 (0, 0)) (by refine blkP ?_; exact BK101.out)) : gb102 ≠ gb101)); clear BK101; clear HB; have BK101 := n0_; have HB := n1_; have BK102 := n2_; have GW102 := n3_; have GE102 := n4_; have NB101_102 := n5_; have NB102_101 := n6_; clear n0_ n1_ n2_ n3_ n4_ n5_ n6_; clear hb hbox hg; have hnb27 := NB101_102.out; have hnc27 := NB102_101.out; have hcz28_0 : w26.cell? ⟨gb101, 0, none⟩ = some (.int .i64 a0_0) := (blk_cell BK101.out 0).trans rfl; have hcz28_1 : w26.cell? ⟨gb101, 1, none⟩ = some (.int .i64 a0_1) := (blk_cell BK101.out 1).trans rfl; have hfz28_0 := blk_frozen BK101.out 0; have hfz28_1 := blk_frozen BK101.out 1) | ((with_reducible refine gate_callee (f := 186) rfl ?_); refine goesL_ (some 7) rfl rfl Try.func186 (by kernel_rfl) rfl #[.agg #[.int .i64 a0_0, .int .i64 a0_1]] rfl (by (try simp only [List.map_toArray, List.map_cons, List.map_nil]); first | done | rfl | (simp only [List.length_drop, List.length_take]; rfl)) ?_; (with_reducible refine (impl_isSlope.calls a0_0 a0_1 false _ A3.out).mono ?_); rintro e w29 ⟨rfl, hb⟩; refine ⟨_, rfl, ?_⟩; replace BK101 := Aside0.mk (blk_below (g := gb101) (o := .cells #[.int .i64 a0_0, .int .i64 a0_1] 93 (0, 0)) (by refine blkP ?_; exact BK101.out) hb); replace BK102 := Aside0.mk (blk_below (g := gb102) (o := .cells #[.int .i64 a1_0, .int .i64 a1_1] 93 (0, 0)) (by refine blkP ?_; exact BK102.out) hb); replace HB := Aside0.mk (below_step (by repeat (first | exact belowP HB.out | refine belowP (below_set ?_ GE101.out) | refine belowP (below_set ?_ GE102.out))) hb); (try clear hb); (try clear hb2); (try clear hk); (try clear hi)))
  go_ret2
  exact ⟨by first | rfl | (simp [errW_none, errW_some] <;> rfl) | (simp [*, errW_none, errW_some] <;> rfl), by repeat (first | (with_reducible first | exact HB.out | apply below_alloc | apply pw_below_drewN | apply below_drew1 | refine below_set ?_ GE101.out | refine below_set ?_ GE102.out) | exact HB.out)⟩
set_option maxHeartbeats 8000000 in
set_option maxRecDepth 100000 in
theorem impl_Cam_steps.calls (A0 : Option Addr) (c0 : Nat) (l0 : List Int) (r : Int) (w : World) (hr0 : Kd.C (Kd.int .i16) w A0 l0.length l0) (hc0 : l0.length ≤ c0) (h : impl_Cam_steps.f l0 = some r) :
    Calls Try.prog 127 #[.slice A0 l0.length c0] w fun e w' => e = .returned (.int .i64 r) ∧ Drawn0 w w' := by
  have HR0 := Aside0.mk hr0
  have HC0 := Aside0.mk hc0
  clear hr0 hc0
  have H : (some (l0.length : Int)) = some r := h
  clear h
  obtain rfl := Option.some.inj H
  go_enter Try.func127, Try.ntmps127
  go_wp2
  go_ret
  exact ⟨by first | rfl | (simp; done) | (simp [*]; done), by repeat (first | exact Drawn0.refl _ | apply Drawn0.step)⟩
set_option maxHeartbeats 8000000 in
set_option maxRecDepth 100000 in
theorem impl_floorDiv.calls (a0 : Int) (a1 : Int) (r : Int) (w : World) (h : impl_floorDiv.f a0 a1 = some r) :
    Calls Try.prog 187 #[.int .i64 a0, .int .i64 a1] w fun e w' => e = .returned (.int .i64 r) ∧ Drawn0 w w' := by
  have H : (if a1 = 0 then (none) else (if (Int.tmod a0 a1) < 0 then (some (wrap64 ((wrap64 (Int.tdiv a0 a1)) - 1))) else (some (wrap64 (Int.tdiv a0 a1))))) = some r := h
  clear h
  by_cases c3 : a1 = 0
  · rw [if_pos c3] at H
    exact absurd H (by simp)
  · rw [if_neg c3] at H
    have c3b0 : (a1 == 0) = false := beq_eq_false_iff_ne.mpr c3
    have c3b1 : (a1 != 0) = true := bne_iff_ne.mpr c3
    by_cases c4 : (Int.tmod a0 a1) < 0
    · rw [if_pos c4] at H
      have c4b0 : decide ((Int.tmod a0 a1) < 0) = true := decide_eq_true c4
      clear c4
      obtain rfl := Option.some.inj H
      go_enter Try.func187, Try.ntmps187
      go_wp2
      go_ret
      exact ⟨by first | rfl | (simp; done) | (simp [*]; done), by repeat (first | exact Drawn0.refl _ | apply Drawn0.step)⟩
    · rw [if_neg c4] at H
      have c4b0 : decide ((Int.tmod a0 a1) < 0) = false := decide_eq_false c4
      clear c4
      obtain rfl := Option.some.inj H
      go_enter Try.func187, Try.ntmps187
      go_wp2
      go_ret
      exact ⟨by first | rfl | (simp; done) | (simp [*]; done), by repeat (first | exact Drawn0.refl _ | apply Drawn0.step)⟩
set_option maxHeartbeats 8000000 in
set_option maxRecDepth 100000 in
theorem impl_mod.calls (a0 : Int) (a1 : Int) (r : Int) (w : World) (h : impl_mod.f a0 a1 = some r) :
    Calls Try.prog 201 #[.int .i64 a0, .int .i64 a1] w fun e w' => e = .returned (.int .i64 r) ∧ Drawn0 w w' := by
  have H : ((impl_floorDiv.f a0 a1).bind fun t101 => (some (wrap64 (a0 - (wrap64 (a1 * t101)))))) = some r := h
  clear h
  replace H := Option.bind_eq_some_iff.mp H
  obtain ⟨t101, A30, H⟩ := H
  replace H : (some (wrap64 (a0 - (wrap64 (a1 * t101))))) = some r := H
  have A3 := Aside0.mk A30
  clear A30
  obtain rfl := Option.some.inj H
  go_enter Try.func201, Try.ntmps201
  go_wp2_with (first | ((with_reducible refine gate_callee (f := 187) rfl ?_); refine goesL_ (some 9) rfl rfl Try.func187 (by kernel_rfl) rfl #[.int .i64 a0, .int .i64 a1] rfl (by (try simp only [List.map_toArray, List.map_cons, List.map_nil]); first | done | rfl | (simp only [List.length_drop, List.length_take]; rfl)) ?_; (with_reducible refine (impl_floorDiv.calls a0 a1 t101 _ A3.out).mono ?_); rintro e w' ⟨rfl, ⟨nd, rfl⟩⟩; refine ⟨_, rfl, ?_⟩))
  go_ret
  exact ⟨by first | rfl | (simp; done) | (simp [*]; done), by repeat (first | exact Drawn0.refl _ | apply Drawn0.step)⟩
set_option maxHeartbeats 8000000 in
set_option maxRecDepth 100000 in
theorem impl_Cam_at.calls (A0 : Option Addr) (c0 : Nat) (l0 : List Int) (a1 : Int) (r : Int) (w : World) (hr0 : Kd.C (Kd.int .i16) w A0 l0.length l0) (hc0 : l0.length ≤ c0) (h : impl_Cam_at.f l0 a1 = some r) :
    Calls Try.prog 129 #[.slice A0 l0.length c0, .int .i64 a1] w fun e w' => e = .returned (.int .i64 r) ∧ Drawn0 w w' := by
  have HR0 := Aside0.mk hr0
  have HC0 := Aside0.mk hc0
  clear hr0 hc0
  have H : ((impl_Cam_steps.f l0).bind fun t101 => ((impl_mod.f a1 t101).bind fun t102 => (if 0 ≤ t102 then (if t102 < (l0.length : Int) then (some (wrap64 (rd l0 t102))) else (none)) else (none)))) = some r := h
  clear h
  replace H := Option.bind_eq_some_iff.mp H
  obtain ⟨t101, A30, H⟩ := H
  replace H : ((impl_mod.f a1 t101).bind fun t102 => (if 0 ≤ t102 then (if t102 < (l0.length : Int) then (some (wrap64 (rd l0 t102))) else (none)) else (none))) = some r := H
  have A3 := Aside0.mk A30
  clear A30
  replace H := Option.bind_eq_some_iff.mp H
  obtain ⟨t102, A40, H⟩ := H
  replace H : (if 0 ≤ t102 then (if t102 < (l0.length : Int) then (some (wrap64 (rd l0 t102))) else (none)) else (none)) = some r := H
  have A4 := Aside0.mk A40
  clear A40
  by_cases c5 : 0 ≤ t102
  · rw [if_pos c5] at H
    have c5b0 : decide (0 ≤ t102) = true := decide_eq_true c5
    clear c5
    by_cases c6 : t102 < (l0.length : Int)
    · rw [if_pos c6] at H
      have c6b0 : decide (t102 < (l0.length : Int)) = true := decide_eq_true c6
      clear c6
      obtain rfl := Option.some.inj H
      go_enter Try.func129, Try.ntmps129
      go_wp2_with (first | ((with_reducible refine gate_callee (f := 127) rfl ?_); refine goesL_ (some 8) rfl rfl Try.func127 (by kernel_rfl) rfl #[.slice A0 l0.length c0] rfl (by (try simp only [List.map_toArray, List.map_cons, List.map_nil]); first | done | rfl | (simp only [List.length_drop, List.length_take]; rfl)) ?_; (with_reducible refine (impl_Cam_steps.calls _ _ l0 t101 _ ?side1 ?side2 A3.out).mono ?_); (case side1 => repeat (first | exact HR0.out | (with_reducible refine Kd.C_alloc ?_ _) | (with_reducible refine Kd.C_drewN ?_ _) | (with_reducible refine Kd.C_drew ?_))); (case side2 => exact HC0.out); rintro e w' ⟨rfl, ⟨nd, rfl⟩⟩; refine ⟨_, rfl, ?_⟩) | ((with_reducible refine gate_callee (f := 201) rfl ?_); refine goesL_ (some 9) rfl rfl Try.func201 (by kernel_rfl) rfl #[.int .i64 a1, .int .i64 t101] rfl (by (try simp only [List.map_toArray, List.map_cons, List.map_nil]); first | done | rfl | (simp only [List.length_drop, List.length_take]; rfl)) ?_; (with_reducible refine (impl_mod.calls a1 t101 t102 _ A4.out).mono ?_); rintro e w' ⟨rfl, ⟨nd, rfl⟩⟩; refine ⟨_, rfl, ?_⟩; have p103 : 0 ≤ (t102 : Int) := of_decide_eq_true (by first | (with_reducible assumption) | assumption); have q103 : t102 < (l0.length : Int) := of_decide_eq_true (by first | (with_reducible assumption) | assumption); obtain ⟨ad103, e103, hx103_0⟩ := Kd.at_int HR0.out t102 p103 q103; cases e103; replace p103 := eq_true p103; replace q103 := eq_true q103))
      go_ret
      exact ⟨by first | rfl | (simp; done) | (simp [*]; done), by repeat (first | exact Drawn0.refl _ | apply Drawn0.step)⟩
    · rw [if_neg c6] at H
      exact absurd H (by simp)
  · rw [if_neg c5] at H
    exact absurd H (by simp)
set_option maxHeartbeats 8000000 in
set_option maxRecDepth 100000 in
theorem impl_Cam_change.calls (A0 : Option Addr) (c0 : Nat) (l0 : List Int) (a1 : Int) (r : Int) (w : World) (hr0 : Kd.C (Kd.int .i16) w A0 l0.length l0) (hc0 : l0.length ≤ c0) (h : impl_Cam_change.f l0 a1 = some r) :
    Calls Try.prog 121 #[.slice A0 l0.length c0, .int .i64 a1] w fun e w' => e = .returned (.int .i64 r) ∧ Drawn0 w w' := by
  have HR0 := Aside0.mk hr0
  have HC0 := Aside0.mk hc0
  clear hr0 hc0
  have H : ((impl_Cam_at.f l0 (wrap64 (a1 + 1))).bind fun t101 => ((impl_Cam_at.f l0 a1).bind fun t102 => (some (wrap64 (t101 - t102))))) = some r := h
  clear h
  replace H := Option.bind_eq_some_iff.mp H
  obtain ⟨t101, A30, H⟩ := H
  replace H : ((impl_Cam_at.f l0 a1).bind fun t102 => (some (wrap64 (t101 - t102)))) = some r := H
  have A3 := Aside0.mk A30
  clear A30
  replace H := Option.bind_eq_some_iff.mp H
  obtain ⟨t102, A40, H⟩ := H
  replace H : (some (wrap64 (t101 - t102))) = some r := H
  have A4 := Aside0.mk A40
  clear A40
  obtain rfl := Option.some.inj H
  go_enter Try.func121, Try.ntmps121
  go_wp2_with (first | ((with_reducible refine gate_callee (f := 129) rfl ?_); refine goesL_ (some 8) rfl rfl Try.func129 (by kernel_rfl) rfl #[.slice A0 l0.length c0, .int .i64 (wrap64 (a1 + 1))] rfl (by (try simp only [List.map_toArray, List.map_cons, List.map_nil]); first | done | rfl | (simp only [List.length_drop, List.length_take]; rfl)) ?_; (with_reducible refine (impl_Cam_at.calls _ _ l0 (wrap64 (a1 + 1)) t101 _ ?side1 ?side2 A3.out).mono ?_); (case side1 => repeat (first | exact HR0.out | (with_reducible refine Kd.C_alloc ?_ _) | (with_reducible refine Kd.C_drewN ?_ _) | (with_reducible refine Kd.C_drew ?_))); (case side2 => exact HC0.out); rintro e w' ⟨rfl, ⟨nd, rfl⟩⟩; refine ⟨_, rfl, ?_⟩) | ((with_reducible refine gate_callee (f := 129) rfl ?_); refine goesL_ (some 11) rfl rfl Try.func129 (by kernel_rfl) rfl #[.slice A0 l0.length c0, .int .i64 a1] rfl (by (try simp only [List.map_toArray, List.map_cons, List.map_nil]); first | done | rfl | (simp only [List.length_drop, List.length_take]; rfl)) ?_; (with_reducible refine (impl_Cam_at.calls _ _ l0 a1 t102 _ ?side1 ?side2 A4.out).mono ?_); (case side1 => repeat (first | exact HR0.out | (with_reducible refine Kd.C_alloc ?_ _) | (with_reducible refine Kd.C_drewN ?_ _) | (with_reducible refine Kd.C_drew ?_))); (case side2 => exact HC0.out); rintro e w' ⟨rfl, ⟨nd, rfl⟩⟩; refine ⟨_, rfl, ?_⟩))
  go_ret
  exact ⟨by first | rfl | (simp; done) | (simp [*]; done), by repeat (first | exact Drawn0.refl _ | apply Drawn0.step)⟩
set_option maxHeartbeats 8000000 in
set_option maxRecDepth 100000 in
theorem impl_LeastBase.calls (k : Nat) (A0 : Option Addr) (c0 : Nat) (l0 : List Int) (a1_0 : Int) (a1_1 : Int) (r1 : Int) (r2 : Int) (w : World) (hr0 : Kd.C (Kd.int .i16) w A0 l0.length l0) (hc0 : l0.length ≤ c0) (h : impl_LeastBase.f k l0 a1_0 a1_1 = some (r1, r2)) :
  Calls Try.prog 78 #[.slice A0 l0.length c0, .agg #[.int .i64 a1_0, .int .i64 a1_1]] w fun e w' => e = .returned (.tuple #[.int .i64 r1, .int .i64 r2]) ∧ Below w.heap.size w w' := by
 have hu93 := Try.underlying93
 have HR0 := Aside0.mk hr0
 have HC0 := Aside0.mk hc0
 clear hr0 hc0
 have HB := Aside0.mk (Below.refl w.heap.size w)
 have H : ((impl_ValidCam.f l0).bind fun t102 => (if t102 = true then ((impl_isSlope.f a1_0 a1_1).bind fun t103 => (impl_LeastBase.j0 k l0 (!t103) a1_0 a1_1)) else (impl_LeastBase.j0 k l0 true a1_0 a1_1))) = some (r1, r2) := h
 clear h
 have HC3 := Aside0.mk H
 clear H
 go_enter Try.func78, Try.ntmps78
 go_upto_region 1 with (first | ((with_reducible refine gate_dst (N := 3) rfl ?_); refine box_event ?hg (N := 3) ?hd (cs := #[.int .i64 a1_0, .int .i64 a1_1]) (t := 93) ?hr ?_; (case hd => rfl); (case hg => rfl); (case hr => first | (go_simp; done) | (go_simp; rfl)); intro gb101 hg w4 hbox hb; have n0_ := Aside0.mk (below_step (belowP HB.out) hb); have n1_ := Aside0.mk (hbox); have n2_ := Aside0.mk ((by rw [hg]; exact (below_size (belowP HB.out)) : w.heap.size ≤ gb101)); have n3_ := Aside0.mk ((by rw [hg]; exact (below_size (belowP HB.out)) : w.heap.size ≤ gb101)); clear HB; have HB := n0_; have BK101 := n1_; have GW101 := n2_; have GE101 := n3_; clear n0_ n1_ n2_ n3_; clear hb hbox hg))
 (try simp only [Act.put, List.setIfInBounds_toArray, List.set_cons_zero, List.set_cons_succ])
 go_cut [9] (fun v9 wc => ∃ (kq : Nat) (x9_2 : Bool), v9 = .bool x9_2 ∧ Aside0 (impl_LeastBase.j0 kq l0 x9_2 a1_0 a1_1 = some (r1, r2)) ∧ Aside0 (kq ≤ k) ∧ Aside0 (wc.heap[gb101]? = some (.cells #[.int .i64 a1_0, .int .i64 a1_1] 93 (0, 0))) ∧ Aside0 (Below w.heap.size w wc))
 case first =>
  have H := HC3.out
  clear HC3
  replace H := Option.bind_eq_some_iff.mp H
  obtain ⟨t102, A50, H⟩ := H
  replace H : (if t102 = true then ((impl_isSlope.f a1_0 a1_1).bind fun t103 => (impl_LeastBase.j0 k l0 (!t103) a1_0 a1_1)) else (impl_LeastBase.j0 k l0 true a1_0 a1_1)) = some (r1, r2) := H
  have A5 := Aside0.mk A50
  clear A50
  by_cases c6 : t102 = true
  ·subst c6
   have H1 : ((impl_isSlope.f a1_0 a1_1).bind fun t103 => (impl_LeastBase.j0 k l0 (!t103) a1_0 a1_1)) = some (r1, r2) := by rw [if_pos rfl] at H; exact H
   clear H
   have H := H1
   clear H1
   replace H := Option.bind_eq_some_iff.mp H
   obtain ⟨t103, A70, H⟩ := H
   replace H : (impl_LeastBase.j0 k l0 (!t103) a1_0 a1_1) = some (r1, r2) := H
   have A7 := Aside0.mk A70
   clear A70
   have H' := Aside0.mk H
   clear H
   go_wp2_with (first | ((with_reducible refine gate_callee (f := 118) rfl ?_); refine goesL_ (some 11) rfl rfl Try.func118 (by kernel_rfl) rfl #[.slice A0 l0.length c0] rfl (by (try simp only [List.map_toArray, List.map_cons, List.map_nil]); first | done | rfl | (simp only [List.length_drop, List.length_take]; rfl)) ?_; (with_reducible refine (impl_ValidCam.calls _ _ l0 true _ ?side1 ?side2 A5.out).mono ?_); (case side1 => exact CP (Kd.C_below HR0.out HB.out)); (case side2 => exact HC0.out); rintro e w' ⟨rfl, ⟨nd, rfl⟩⟩; refine ⟨_, rfl, ?_⟩; have hcz8_0 : w4.cell? ⟨gb101, 0, none⟩ = some (.int .i64 a1_0) := (blk_cell BK101.out 0).trans rfl; have hcz8_1 : w4.cell? ⟨gb101, 1, none⟩ = some (.int .i64 a1_1) := (blk_cell BK101.out 1).trans rfl; have hfz8_0 := blk_frozen BK101.out 0; have hfz8_1 := blk_frozen BK101.out 1) | (go_at_call 186; (with_reducible refine (impl_isSlope.calls a1_0 a1_1 t103 _ A7.out).mono ?_); rintro e w9 ⟨rfl, hb⟩; replace BK101 := Aside0.mk (blk_below (g := gb101) (o := .cells #[.int .i64 a1_0, .int .i64 a1_1] 93 (0, 0)) (by refine blkP ?_; exact BK101.out) hb); replace HB := Aside0.mk (below_step (by repeat (first | exact belowP HB.out | refine belowP (below_set ?_ GE101.out))) hb); (try clear hb); (try clear hb2); (try clear hk); (try clear hi)))
   go_meet
   case rel => exact ⟨_, (!t103), (by first | rfl | (simp; done) | (simp [*]; done)), H', ⟨by first | omega | exact Nat.le_refl _⟩, ⟨by refine blkP ?_; exact BK101.out⟩, ⟨by repeat (first | (with_reducible first | exact HB.out | apply below_alloc | apply pw_below_drewN | apply below_drew1 | refine below_set ?_ GE101.out) | exact HB.out)⟩⟩
  ·replace c6 := Bool.eq_false_iff.mpr c6
   subst c6
   have H1 : (impl_LeastBase.j0 k l0 true a1_0 a1_1) = some (r1, r2) := by rw [if_neg (show ¬ (false = true) by decide)] at H; exact H
   clear H
   have H := H1
   clear H1
   have H' := Aside0.mk H
   clear H
   go_wp2_with (first | ((with_reducible refine gate_callee (f := 118) rfl ?_); refine goesL_ (some 11) rfl rfl Try.func118 (by kernel_rfl) rfl #[.slice A0 l0.length c0] rfl (by (try simp only [List.map_toArray, List.map_cons, List.map_nil]); first | done | rfl | (simp only [List.length_drop, List.length_take]; rfl)) ?_; (with_reducible refine (impl_ValidCam.calls _ _ l0 false _ ?side1 ?side2 A5.out).mono ?_); (case side1 => exact CP (Kd.C_below HR0.out HB.out)); (case side2 => exact HC0.out); rintro e w' ⟨rfl, ⟨nd, rfl⟩⟩; refine ⟨_, rfl, ?_⟩))
   go_meet
   case rel => exact ⟨_, (true), (by first | rfl | (simp; done) | (simp [*]; done)), H', ⟨by first | omega | exact Nat.le_refl _⟩, ⟨by refine blkP ?_; exact BK101.out⟩, ⟨by repeat (first | (with_reducible first | exact HB.out | apply below_alloc | apply pw_below_drewN | apply below_drew1 | refine below_set ?_ GE101.out) | exact HB.out)⟩⟩
 case rest =>
  clear HC3
  try clear c1; try clear p2; try clear c6; try clear c7; try clear hcz8_0; try clear hcz8_1; try clear hfz8_0; try clear hfz8_1
  obtain ⟨kq, x9_2, rfl, HA, HJ2, BK101, HB⟩ := hcut
  cases kq with
  | zero => exact absurd HA.out (by simp [impl_LeastBase.j0])
  | succ kj2 =>
   have H := HA.out
   clear HA
   simp only [impl_LeastBase.j0] at H
   by_cases c10 : x9_2 = true
   ·subst c10
    have H1 : (some (0, 1)) = some (r1, r2) := by rw [if_pos rfl] at H; exact H
    clear H
    have H := H1
    clear H1
    simp only [Option.some.injEq, Prod.mk.injEq] at H
    obtain ⟨rfl, rfl⟩ := H
    go_wp2
    go_ret2
    exact ⟨by first | rfl | (simp [errW_none, errW_some] <;> rfl) | (simp [*, errW_none, errW_some] <;> rfl), by repeat (first | (with_reducible first | exact HB.out | apply below_alloc | apply pw_below_drewN | apply below_drew1 | refine below_set ?_ GE101.out) | exact HB.out)⟩
   ·replace c10 := Bool.eq_false_iff.mpr c10
    subst c10
    have H1 : (if a1_0 ≤ 0 then (some (0, 2)) else ((impl_Cam_steps.f l0).bind fun t104 => (impl_LeastBase.l0 kj2 l0 1 t104 0 a1_0 a1_1))) = some (r1, r2) := by rw [if_neg (show ¬ (false = true) by decide)] at H; exact H
    clear H
    have H := H1
    clear H1
    by_cases c11 : a1_0 ≤ 0
    ·rw [if_pos c11] at H
     have c11b0 : decide (a1_0 ≤ 0) = true := decide_eq_true c11
     clear c11
     simp only [Option.some.injEq, Prod.mk.injEq] at H
     obtain ⟨rfl, rfl⟩ := H
     have hcz12_0 : wc.cell? ⟨gb101, 0, none⟩ = some (.int .i64 a1_0) := (blk_cell BK101.out 0).trans rfl
     have hcz12_1 : wc.cell? ⟨gb101, 1, none⟩ = some (.int .i64 a1_1) := (blk_cell BK101.out 1).trans rfl
     have hfz12_0 := blk_frozen BK101.out 0
     have hfz12_1 := blk_frozen BK101.out 1
     go_wp2
     go_ret2
     exact ⟨by first | rfl | (simp [errW_none, errW_some] <;> rfl) | (simp [*, errW_none, errW_some] <;> rfl), by repeat (first | (with_reducible first | exact HB.out | apply below_alloc | apply pw_below_drewN | apply below_drew1 | refine below_set ?_ GE101.out) | exact HB.out)⟩
    ·rw [if_neg c11] at H
     have c11b0 : decide (a1_0 ≤ 0) = false := decide_eq_false c11
     clear c11
     replace H := Option.bind_eq_some_iff.mp H
     obtain ⟨t104, A130, H⟩ := H
     replace H : (impl_LeastBase.l0 kj2 l0 1 t104 0 a1_0 a1_1) = some (r1, r2) := H
     have A13 := Aside0.mk A130
     clear A130
     have H' := Aside0.mk H
     clear H
     have hcz14_0 : wc.cell? ⟨gb101, 0, none⟩ = some (.int .i64 a1_0) := (blk_cell BK101.out 0).trans rfl
     have hcz14_1 : wc.cell? ⟨gb101, 1, none⟩ = some (.int .i64 a1_1) := (blk_cell BK101.out 1).trans rfl
     have hfz14_0 := blk_frozen BK101.out 0
     have hfz14_1 := blk_frozen BK101.out 1
     go_wp2_with (first | ((with_reducible refine gate_callee (f := 127) rfl ?_); refine goesL_ (some 23) rfl rfl Try.func127 (by kernel_rfl) rfl #[.slice A0 l0.length c0] rfl (by (try simp only [List.map_toArray, List.map_cons, List.map_nil]); first | done | rfl | (simp only [List.length_drop, List.length_take]; rfl)) ?_; (with_reducible refine (impl_Cam_steps.calls _ _ l0 t104 _ ?side1 ?side2 A13.out).mono ?_); (case side1 => exact CP (Kd.C_below HR0.out HB.out)); (case side2 => exact HC0.out); rintro e w' ⟨rfl, ⟨nd, rfl⟩⟩; refine ⟨_, rfl, ?_⟩))
     go_loopg [6, 24] kj2 (fun kq v6 v24 w' => ∃ (x6_2 : Int) (x24_2 : Int), v6 = .int .i64 x6_2 ∧ v24 = .int .i64 x24_2 ∧ Aside0 (impl_LeastBase.l0 kq l0 x6_2 t104 x24_2 a1_0 a1_1 = some (r1, r2)) ∧ Aside0 (kq ≤ kj2) ∧ Aside0 (w'.heap[gb101]? = some (.cells #[.int .i64 a1_0, .int .i64 a1_1] 93 (0, 0))) ∧ Aside0 (Below w.heap.size w w'))
     case atStart => exact ⟨(1), (0), (by first | rfl | (simp; done) | (simp [*]; done)), (by first | rfl | (simp; done) | (simp [*]; done)), H', ⟨Nat.le_refl _⟩, ⟨by refine blkP ?_; exact BK101.out⟩, ⟨by repeat (first | (with_reducible first | exact HB.out | apply below_alloc | apply pw_below_drewN | apply below_drew1 | refine below_set ?_ GE101.out) | exact HB.out)⟩⟩
     case round =>
      clear H'
      try clear c1; try clear p2; try clear c6; try clear c7; try clear c10; try clear c11; try clear c11b0; try clear c12; try clear hcz12_0; try clear hcz12_1; try clear hcz14_0; try clear hcz14_1; try clear hcz8_0; try clear hcz8_1; try clear hfz12_0; try clear hfz12_1; try clear hfz14_0; try clear hfz14_1; try clear hfz8_0; try clear hfz8_1; try clear p2
      obtain ⟨x6_2, x24_2, rfl, rfl, HA, HK2, BK101, HB⟩ := hrel
      cases gk with
      | zero => exact absurd HA.out (by simp [impl_LeastBase.l0])
      | succ k2 =>
       have H := HA.out
       clear HA
       simp only [impl_LeastBase.l0] at H
       by_cases c15 : x24_2 < t104
       ·rw [if_pos c15] at H
        have c15b0 : decide (x24_2 < t104) = true := decide_eq_true c15
        clear c15
        replace H := Option.bind_eq_some_iff.mp H
        obtain ⟨t105, A160, H⟩ := H
        replace H : ((impl_abs.f t105).bind fun t106 => ((impl_Cam_steps.f l0).bind fun t107 => ((impl_floorDiv.f (wrap64 ((wrap64 ((wrap64 ((wrap64 (-t106)) * t107)) * 7)) * a1_1)) (wrap64 (44 * a1_0))).bind fun t108 => ((impl_Cam_at.f l0 x24_2).bind fun t109 => (impl_LeastBase.l0 k2 l0 (mx x6_2 (wrap64 ((wrap64 (-t108)) - t109))) t104 (wrap64 (x24_2 + 1)) a1_0 a1_1))))) = some (r1, r2) := H
        have A16 := Aside0.mk A160
        clear A160
        replace H := Option.bind_eq_some_iff.mp H
        obtain ⟨t106, A170, H⟩ := H
        replace H : ((impl_Cam_steps.f l0).bind fun t107 => ((impl_floorDiv.f (wrap64 ((wrap64 ((wrap64 ((wrap64 (-t106)) * t107)) * 7)) * a1_1)) (wrap64 (44 * a1_0))).bind fun t108 => ((impl_Cam_at.f l0 x24_2).bind fun t109 => (impl_LeastBase.l0 k2 l0 (mx x6_2 (wrap64 ((wrap64 (-t108)) - t109))) t104 (wrap64 (x24_2 + 1)) a1_0 a1_1)))) = some (r1, r2) := H
        have A17 := Aside0.mk A170
        clear A170
        replace H := Option.bind_eq_some_iff.mp H
        obtain ⟨t107, A180, H⟩ := H
        replace H : ((impl_floorDiv.f (wrap64 ((wrap64 ((wrap64 ((wrap64 (-t106)) * t107)) * 7)) * a1_1)) (wrap64 (44 * a1_0))).bind fun t108 => ((impl_Cam_at.f l0 x24_2).bind fun t109 => (impl_LeastBase.l0 k2 l0 (mx x6_2 (wrap64 ((wrap64 (-t108)) - t109))) t104 (wrap64 (x24_2 + 1)) a1_0 a1_1))) = some (r1, r2) := H
        have A18 := Aside0.mk A180
        clear A180
        replace H := Option.bind_eq_some_iff.mp H
        obtain ⟨t108, A190, H⟩ := H
        replace H : ((impl_Cam_at.f l0 x24_2).bind fun t109 => (impl_LeastBase.l0 k2 l0 (mx x6_2 (wrap64 ((wrap64 (-t108)) - t109))) t104 (wrap64 (x24_2 + 1)) a1_0 a1_1)) = some (r1, r2) := H
        have A19 := Aside0.mk A190
        clear A190
        replace H := Option.bind_eq_some_iff.mp H
        obtain ⟨t109, A200, H⟩ := H
        replace H : (impl_LeastBase.l0 k2 l0 (mx x6_2 (wrap64 ((wrap64 (-t108)) - t109))) t104 (wrap64 (x24_2 + 1)) a1_0 a1_1) = some (r1, r2) := H
        have A20 := Aside0.mk A200
        clear A200
        obtain ⟨ji21, hji21⟩ : ∃ j_ : Int, (mx x6_2 (wrap64 ((wrap64 (-t108)) - t109))) = j_ := ⟨_, rfl⟩
        replace H : (impl_LeastBase.l0 k2 l0 ji21 t104 (wrap64 (x24_2 + 1)) a1_0 a1_1) = some (r1, r2) := by first | (rw [hji21] at H; exact H) | (simp only [hji21] at H ⊢; exact H)
        (try rw [hji21] at A16)
        (try rw [hji21] at A17)
        (try rw [hji21] at A18)
        (try rw [hji21] at A19)
        (try rw [hji21] at A20)
        have hji21_ : (if x6_2 < (wrap64 ((wrap64 (-t108)) - t109)) then (wrap64 ((wrap64 (-t108)) - t109)) else x6_2) = ji21 := hji21
        have H' := Aside0.mk H
        clear H
        try go_wp2
        replace BK101 := Aside0.mk (blk_drew BK101.out)
        replace HB := Aside0.mk (below_drew1 HB.out)
        refine start_ (n := 18) (S := fun w' => w'.cell? ⟨gb101, 0, none⟩ = some (.int .i64 a1_0) ∧ w'.cell? ⟨gb101, 1, none⟩ = some (.int .i64 a1_1)) (ds := []) #[false, false, false, false, false, false, false, false, false, false, false, false, false, false, false, false, false, false] (by kernel_rfl) rfl rfl ⟨(blk_cell BK101.out 0).trans rfl, (blk_cell BK101.out 1).trans rfl⟩ (fun hHeld => ?_); refine with_tabW impl_LeastBase.tab9 impl_LeastBase.bits9 (fun HT_ HW_ => ?_)
        generalize wr.drew = w22 at BK101 HB hHeld ⊢
        refine pure_ (i := 0) (N := some 27) (v := ?_) (a' := ?_) #[true, false, false, false, false, false, false, false, false, false, false, false, false, false, false, false, false, false] rfl rfl (any_of HT_.out (by kernel_rfl)) (fun _ _ _ h => h) (Or.inl ⟨by rfl, ?_⟩) ?_ ?_
        rotate_left
        ·intro w'
         go_simp
         with_reducible rfl
        rotate_left
        ·simp only [Act.put, List.setIfInBounds_toArray, List.set_cons_zero, List.set_cons_succ, i64_w, i32_w]
         rfl
        refine pure_ (i := 1) (N := some 28) (v := ?_) (a' := ?_) #[true, true, false, false, false, false, false, false, false, false, false, false, false, false, false, false, false, false] rfl rfl (any_of HT_.out (by kernel_rfl)) (fun _ _ _ h => h) (Or.inl ⟨by rfl, ?_⟩) ?_ ?_
        rotate_left
        ·intro w'
         go_simp
         with_reducible rfl
        rotate_left
        ·simp only [Act.put, List.setIfInBounds_toArray, List.set_cons_zero, List.set_cons_succ, i64_w, i32_w]
         rfl
        refine pure_ (i := 5) (N := some 32) (v := ?_) (a' := ?_) #[true, true, false, false, false, true, false, false, false, false, false, false, false, false, false, false, false, false] rfl rfl (any_of HT_.out (by kernel_rfl)) (fun _ _ _ h => h) (Or.inl ⟨by rfl, ?_⟩) ?_ ?_
        rotate_left
        ·intro w'
         go_simp
         with_reducible rfl
        rotate_left
        ·simp only [Act.put, List.setIfInBounds_toArray, List.set_cons_zero, List.set_cons_succ, i64_w, i32_w]
         rfl
        refine pure_ (i := 9) (N := some 36) (v := ?_) (a' := ?_) #[true, true, false, false, false, true, false, false, false, true, false, false, false, false, false, false, false, false] rfl rfl (any_of HT_.out (by kernel_rfl)) (fun _ _ _ h => h) (Or.inl ⟨by rfl, ?_⟩) ?_ ?_
        rotate_left
        ·intro w'
         go_simp
         with_reducible rfl
        rotate_left
        ·simp only [Act.put, List.setIfInBounds_toArray, List.set_cons_zero, List.set_cons_succ, i64_w, i32_w]
         rfl
        refine pure_ (i := 12) (N := some 39) (v := ?_) (a' := ?_) #[true, true, false, false, false, true, false, false, false, true, false, false, true, false, false, false, false, false] rfl rfl (any_of HT_.out (by kernel_rfl)) (fun _ _ _ h => h) (Or.inl ⟨by rfl, ?_⟩) ?_ ?_
        rotate_left
        ·intro w'
         go_simp
         with_reducible rfl
        rotate_left
        ·simp only [Act.put, List.setIfInBounds_toArray, List.set_cons_zero, List.set_cons_succ, i64_w, i32_w]
         rfl
        refine take_ (i := 10) (N := some 37) (v := ?_) (a' := ?_) #[true, true, false, false, false, true, false, false, false, true, true, false, true, false, false, false, false, false] rfl rfl (take_ofW HT_.out HW_.out (by kernel_rfl)) (fun _ _ _ h => h) (Or.inl ⟨by rfl, ?_⟩) hHeld ?_ ?_
        rotate_left
        ·rintro w' ⟨s0, s1⟩
         go_simp
         with_reducible rfl
        rotate_left
        ·simp only [Act.put, List.setIfInBounds_toArray, List.set_cons_zero, List.set_cons_succ, i64_w, i32_w]
         rfl
        refine take_ (i := 13) (N := some 40) (v := ?_) (a' := ?_) #[true, true, false, false, false, true, false, false, false, true, true, false, true, true, false, false, false, false] rfl rfl (take_ofW HT_.out HW_.out (by kernel_rfl)) (fun _ _ _ h => h) (Or.inl ⟨by rfl, ?_⟩) hHeld ?_ ?_
        rotate_left
        ·rintro w' ⟨s0, s1⟩
         go_simp
         with_reducible rfl
        rotate_left
        ·simp only [Act.put, List.setIfInBounds_toArray, List.set_cons_zero, List.set_cons_succ, i64_w, i32_w]
         rfl
        refine pure_ (i := 14) (N := some 41) (v := ?_) (a' := ?_) #[true, true, false, false, false, true, false, false, false, true, true, false, true, true, true, false, false, false] rfl rfl (any_of HT_.out (by kernel_rfl)) (fun _ _ _ h => h) (Or.inl ⟨by rfl, ?_⟩) ?_ ?_
        rotate_left
        ·intro w'
         go_simp
         with_reducible rfl
        rotate_left
        ·simp only [Act.put, List.setIfInBounds_toArray, List.set_cons_zero, List.set_cons_succ, i64_w, i32_w]
         rfl
        refine one_ (i := 2) (N := some 29) #[true, true, true, false, false, true, false, false, false, true, true, false, true, true, true, false, false, false] rfl rfl (one_of HT_.out (by kernel_rfl)) (by decide) (fun K hK => ?_)
        refine goes_ Try.func121 (by kernel_rfl) rfl #[.slice A0 l0.length c0, .int .i64 x24_2] (by rfl) rfl rfl (by (try simp only [List.map_toArray, List.map_cons, List.map_nil]); first | done | rfl | (simp only [List.length_drop, List.length_take]; rfl)) ?_
        with_reducible refine (impl_Cam_change.calls _ _ l0 x24_2 t105 _ ?side1 ?side2 A16.out).mono ?_
        (case side1 => exact CP (Kd.C_below HR0.out HB.out))
        (case side2 => exact HC0.out)
        rintro e w' ⟨rfl, ⟨nd, rfl⟩⟩
        refine ⟨_, rfl, ?_⟩
        refine hK.out _ _ ⟨(blk_cell BK101.out 0).trans rfl, (blk_cell BK101.out 1).trans rfl⟩ (fun hHeld => ?_)
        clear hK K
        refine norm_ (a' := ?_) ?_ ?_
        rotate_left
        ·show Act.put _ (some 29) _ = _
         simp only [Act.put, List.setIfInBounds_toArray, List.set_cons_zero, List.set_cons_succ, i64_w, i32_w]
         rfl
        refine one_ (i := 3) (N := some 30) #[true, true, true, true, false, true, false, false, false, true, true, false, true, true, true, false, false, false] rfl rfl (one_of HT_.out (by kernel_rfl)) (by decide) (fun K hK => ?_)
        refine goes_ Try.func188 (by kernel_rfl) rfl #[.int .i64 t105] (by rfl) rfl rfl (by (try simp only [List.map_toArray, List.map_cons, List.map_nil]); first | done | rfl | (simp only [List.length_drop, List.length_take]; rfl)) ?_
        with_reducible refine (impl_abs.calls t105 t106 _ A17.out).mono ?_
        rintro e w23 ⟨rfl, hb⟩
        refine ⟨_, rfl, ?_⟩
        replace BK101 := Aside0.mk (blk_below (g := gb101) (o := .cells #[.int .i64 a1_0, .int .i64 a1_1] 93 (0, 0)) (by refine blkP ?_; exact BK101.out) hb)
        replace HB := Aside0.mk (below_step (by repeat (first | exact belowP HB.out | refine belowP (below_set ?_ GE101.out))) hb)
        (try clear hb)
        (try clear hb2)
        (try clear hk)
        (try clear hi)
        refine hK.out _ _ ⟨(blk_cell BK101.out 0).trans rfl, (blk_cell BK101.out 1).trans rfl⟩ (fun hHeld => ?_)
        clear hK K
        refine norm_ (a' := ?_) ?_ ?_
        rotate_left
        ·show Act.put _ (some 30) _ = _
         simp only [Act.put, List.setIfInBounds_toArray, List.set_cons_zero, List.set_cons_succ, i64_w, i32_w]
         rfl
        refine pure_ (i := 4) (N := some 31) (v := ?_) (a' := ?_) #[true, true, true, true, true, true, false, false, false, true, true, false, true, true, true, false, false, false] rfl rfl (any_of HT_.out (by kernel_rfl)) (fun _ _ _ h => h) (Or.inl ⟨by rfl, ?_⟩) ?_ ?_
        rotate_left
        ·intro w'
         go_simp
         with_reducible rfl
        rotate_left
        ·simp only [Act.put, List.setIfInBounds_toArray, List.set_cons_zero, List.set_cons_succ, i64_w, i32_w]
         rfl
        refine one_ (i := 6) (N := some 33) #[true, true, true, true, true, true, true, false, false, true, true, false, true, true, true, false, false, false] rfl rfl (one_of HT_.out (by kernel_rfl)) (by decide) (fun K hK => ?_)
        refine goes_ Try.func127 (by kernel_rfl) rfl #[.slice A0 l0.length c0] (by rfl) rfl rfl (by (try simp only [List.map_toArray, List.map_cons, List.map_nil]); first | done | rfl | (simp only [List.length_drop, List.length_take]; rfl)) ?_
        with_reducible refine (impl_Cam_steps.calls _ _ l0 t107 _ ?side1 ?side2 A18.out).mono ?_
        (case side1 => exact CP (Kd.C_below HR0.out HB.out))
        (case side2 => exact HC0.out)
        rintro e w' ⟨rfl, ⟨nd, rfl⟩⟩
        refine ⟨_, rfl, ?_⟩
        refine hK.out _ _ ⟨(blk_cell BK101.out 0).trans rfl, (blk_cell BK101.out 1).trans rfl⟩ (fun hHeld => ?_)
        clear hK K
        refine norm_ (a' := ?_) ?_ ?_
        rotate_left
        ·show Act.put _ (some 33) _ = _
         simp only [Act.put, List.setIfInBounds_toArray, List.set_cons_zero, List.set_cons_succ, i64_w, i32_w]
         rfl
        refine pure_ (i := 7) (N := some 34) (v := ?_) (a' := ?_) #[true, true, true, true, true, true, true, true, false, true, true, false, true, true, true, false, false, false] rfl rfl (any_of HT_.out (by kernel_rfl)) (fun _ _ _ h => h) (Or.inl ⟨by rfl, ?_⟩) ?_ ?_
        rotate_left
        ·intro w'
         go_simp
         with_reducible rfl
        rotate_left
        ·simp only [Act.put, List.setIfInBounds_toArray, List.set_cons_zero, List.set_cons_succ, i64_w, i32_w]
         rfl
        refine pure_ (i := 8) (N := some 35) (v := ?_) (a' := ?_) #[true, true, true, true, true, true, true, true, true, true, true, false, true, true, true, false, false, false] rfl rfl (any_of HT_.out (by kernel_rfl)) (fun _ _ _ h => h) (Or.inl ⟨by rfl, ?_⟩) ?_ ?_
        rotate_left
        ·intro w'
         go_simp
         with_reducible rfl
        rotate_left
        ·simp only [Act.put, List.setIfInBounds_toArray, List.set_cons_zero, List.set_cons_succ, i64_w, i32_w]
         rfl
        refine pure_ (i := 11) (N := some 38) (v := ?_) (a' := ?_) #[true, true, true, true, true, true, true, true, true, true, true, true, true, true, true, false, false, false] rfl rfl (any_of HT_.out (by kernel_rfl)) (fun _ _ _ h => h) (Or.inl ⟨by rfl, ?_⟩) ?_ ?_
        rotate_left
        ·intro w'
         go_simp
         with_reducible rfl
        rotate_left
        ·simp only [Act.put, List.setIfInBounds_toArray, List.set_cons_zero, List.set_cons_succ, i64_w, i32_w]
         rfl
        refine one_ (i := 15) (N := some 42) #[true, true, true, true, true, true, true, true, true, true, true, true, true, true, true, true, false, false] rfl rfl (one_of HT_.out (by kernel_rfl)) (by decide) (fun K hK => ?_)
        refine goes_ Try.func187 (by kernel_rfl) rfl #[.int .i64 (wrap64 ((wrap64 ((wrap64 ((wrap64 (-t106)) * t107)) * 7)) * a1_1)), .int .i64 (wrap64 (44 * a1_0))] (by rfl) rfl rfl (by (try simp only [List.map_toArray, List.map_cons, List.map_nil]); first | done | rfl | (simp only [List.length_drop, List.length_take]; rfl)) ?_
        with_reducible refine (impl_floorDiv.calls (wrap64 ((wrap64 ((wrap64 ((wrap64 (-t106)) * t107)) * 7)) * a1_1)) (wrap64 (44 * a1_0)) t108 _ A19.out).mono ?_
        rintro e w' ⟨rfl, ⟨nd, rfl⟩⟩
        refine ⟨_, rfl, ?_⟩
        refine hK.out _ _ ⟨(blk_cell BK101.out 0).trans rfl, (blk_cell BK101.out 1).trans rfl⟩ (fun hHeld => ?_)
        clear hK K
        refine norm_ (a' := ?_) ?_ ?_
        rotate_left
        ·show Act.put _ (some 42) _ = _
         simp only [Act.put, List.setIfInBounds_toArray, List.set_cons_zero, List.set_cons_succ, i64_w, i32_w]
         rfl
        refine pure_ (i := 16) (N := some 43) (v := ?_) (a' := ?_) #[true, true, true, true, true, true, true, true, true, true, true, true, true, true, true, true, true, false] rfl rfl (any_of HT_.out (by kernel_rfl)) (fun _ _ _ h => h) (Or.inl ⟨by rfl, ?_⟩) ?_ ?_
        rotate_left
        ·intro w'
         go_simp
         with_reducible rfl
        rotate_left
        ·simp only [Act.put, List.setIfInBounds_toArray, List.set_cons_zero, List.set_cons_succ, i64_w, i32_w]
         rfl
        refine pure_ (i := 17) (N := some 8) (v := ?_) (a' := ?_) #[true, true, true, true, true, true, true, true, true, true, true, true, true, true, true, true, true, true] rfl rfl (any_of HT_.out (by kernel_rfl)) (fun _ _ _ h => h) (Or.inl ⟨by rfl, ?_⟩) ?_ ?_
        rotate_left
        ·intro w'
         go_simp
         with_reducible rfl
        rotate_left
        ·simp only [Act.put, List.setIfInBounds_toArray, List.set_cons_zero, List.set_cons_succ, i64_w, i32_w]
         rfl
        refine done_ (done_of HT_.out (by kernel_rfl)) ?_
        try go_wp2_with (first | ((with_reducible refine gate_callee (f := 129) rfl ?_); refine goesL_ (some 48) rfl rfl Try.func129 (by kernel_rfl) rfl #[.slice A0 l0.length c0, .int .i64 x24_2] rfl (by (try simp only [List.map_toArray, List.map_cons, List.map_nil]); first | done | rfl | (simp only [List.length_drop, List.length_take]; rfl)) ?_; (with_reducible refine (impl_Cam_at.calls _ _ l0 x24_2 t109 _ ?side1 ?side2 A20.out).mono ?_); (case side1 => repeat (first | exact (Kd.C_below HR0.out (by repeat (first | exact belowP HB.out | refine belowP (below_set ?_ GE101.out)))) | (with_reducible refine Kd.C_alloc ?_ _) | (with_reducible refine Kd.C_drewN ?_ _) | (with_reducible refine Kd.C_drew ?_))); (case side2 => exact HC0.out); rintro e w' ⟨rfl, ⟨nd, rfl⟩⟩; refine ⟨_, rfl, ?_⟩))
        go_roundg k2
        case measure => have := HJ2.out; have := HK2.out; omega
        case rel => exact ⟨(ji21), (wrap64 (x24_2 + 1)), (by first | rfl | (simp; done) | (simp only [← hji21] <;> (first | rfl | simp)) | (simp [*]; done)), (by first | rfl | (simp; done) | (simp [*]; done)), H', ⟨by have := HJ2.out; have := HK2.out; omega⟩, ⟨by refine blkP ?_; exact BK101.out⟩, ⟨by repeat (first | (with_reducible first | exact HB.out | apply below_alloc | apply pw_below_drewN | apply below_drew1 | refine below_set ?_ GE101.out) | exact HB.out)⟩⟩
       ·rw [if_neg c15] at H
        have c15b0 : decide (x24_2 < t104) = false := decide_eq_false c15
        clear c15
        by_cases c24 : x6_2 > 20000
        ·rw [if_pos c24] at H
         have c24b0 : decide (20000 < x6_2) = true := decide_eq_true c24
         clear c24
         simp only [Option.some.injEq, Prod.mk.injEq] at H
         obtain ⟨rfl, rfl⟩ := H
         go_wp2
         go_ret2
         exact ⟨by first | rfl | (simp [errW_none, errW_some] <;> rfl) | (simp [*, errW_none, errW_some] <;> rfl), by repeat (first | (with_reducible first | exact HB.out | apply below_alloc | apply pw_below_drewN | apply below_drew1 | refine below_set ?_ GE101.out) | exact HB.out)⟩
        ·rw [if_neg c24] at H
         have c24b0 : decide (20000 < x6_2) = false := decide_eq_false c24
         clear c24
         simp only [Option.some.injEq, Prod.mk.injEq] at H
         obtain ⟨rfl, rfl⟩ := H
         go_wp2
         go_ret2
         exact ⟨by first | rfl | (simp [errW_none, errW_some] <;> rfl) | (simp [*, errW_none, errW_some] <;> rfl), by repeat (first | (with_reducible first | exact HB.out | apply below_alloc | apply pw_below_drewN | apply below_drew1 | refine below_set ?_ GE101.out) | exact HB.out)⟩
set_option maxHeartbeats 8000000 in
set_option maxRecDepth 100000 in
theorem impl_common.calls (k : Nat) (a0 : Int) (a1 : Int) (r : Int) (w : World) (h : impl_common.f k a0 a1 = some r) :
    Calls Try.prog 239 #[.int .i64 a0, .int .i64 a1] w fun e w' => e = .returned (.int .i64 r) ∧ Drawn0 w w' := by
  have H : (impl_common.l0 k a0 a1) = some r := h
  clear h
  have H' := Aside0.mk H
  clear H
  go_enter Try.func239, Try.ntmps239
  go_wp2
  repeat (go_quiet (fail); try go_wp2)
  go_loopg [0, 1] k (fun kq v0 v1 w' => ∃ (x0_1 : Int) (x1_1 : Int), v0 = .int .i64 x0_1 ∧ v1 = .int .i64 x1_1 ∧ Aside0 (impl_common.l0 kq x0_1 x1_1 = some r) ∧ Aside0 (kq ≤ k) ∧ Drawn0 w w')
  case atStart => exact ⟨(a0), (a1), (by first | rfl | (simp; done) | (simp [*]; done)), (by first | rfl | (simp; done) | (simp [*]; done)), H', ⟨Nat.le_refl _⟩, by repeat (first | exact Drawn0.refl _ | apply Drawn0.step)⟩
  case round =>
    clear H'
    try clear c2
    try clear p2
    obtain ⟨x0_1, x1_1, rfl, rfl, HA, HK1, ⟨m1, rfl⟩⟩ := hrel
    cases gk with
    | zero => exact absurd HA.out (by simp [impl_common.l0])
    | succ k1 =>
      have H := HA.out
      clear HA
      simp only [impl_common.l0] at H
      by_cases c3 : x1_1 = 0
      · rw [if_pos c3] at H
        have c3b0 : (x1_1 == 0) = true := beq_iff_eq.mpr c3
        have c3b1 : (x1_1 != 0) = false := bne_eq_false_iff_eq.mpr c3
        clear c3
        obtain rfl := Option.some.inj H
        go_wp2
        repeat (go_quiet (fail); try go_wp2)
        go_ret
        exact ⟨by first | rfl | (simp; done) | (simp [*]; done), by repeat (first | exact Drawn0.refl _ | apply Drawn0.step)⟩
      · rw [if_neg c3] at H
        have c3b0 : (x1_1 == 0) = false := beq_eq_false_iff_ne.mpr c3
        have c3b1 : (x1_1 != 0) = true := bne_iff_ne.mpr c3
        have H' := Aside0.mk H
        clear H
        go_wp2
        repeat (go_quiet (fail); try go_wp2)
        go_roundg k1
        case measure => have := HK1.out; omega
        case rel => exact ⟨(x1_1), (Int.tmod x0_1 x1_1), (by first | rfl | (simp; done) | (simp [*]; done)), (by first | rfl | (simp; done) | (simp [*]; done)), H', ⟨by have := HK1.out; omega⟩, by repeat (first | exact Drawn0.refl _ | apply Drawn0.step)⟩
end Go.Proofs.Ytpjibhedpieafaa.H
