/- Words for walks by hand: a function value, called; small lemmas. -/
import Derived.Test.YtpjibhedpieafaaProg
import Derived.Below
import Derived.Deep.Draws
import Derived.Deep.AppendLies
import Derived.Maps.AppendAt
import Derived.OwnWalk
import Derived.Laws.BytesArg
import Derived.Laws.MakeOwn
import Derived.Laws.OwnMore
import Derived.Deep.OwnRows
import Derived.Tactics
import Derived.Lib.ConvBytes
import Derived.Laws.Slices
import Derived.WalkKit
import Derived.KernelRfl
import Derived.RowKit3
import Derived.Deep.LoopGhost
import Derived.Deep.QuietTactic
import Derived.BigQuiet
import Derived.WideLaws
import Derived.Deep.DeepCutAuto
import Derived.Deep.CutBlock
import Derived.Deep.RegionHeld3
import Derived.Laws.Rows
import Derived.Lib.AppendStr
import Derived.ArgAppend
import Derived.Laws.IdiomCopy
import Derived.OrdersHeld
import Derived.Laws.BitsLemmas
import Derived.RowKit
import Derived.Test.YtpjibhedpieafaaWWords
import Derived.Test.YtpjibhedpieafaaWLast
import Derived.Test.YtpjibhedpieafaaWTab
import Derived.Test.YtpjibhedpieafaaWFour
import Derived.Test.YtpjibhedpieafaaWQPut
import Derived.Test.YtpjibhedpieafaaWApart
import Derived.Test.YtpjibhedpieafaaWArr
import Derived.Test.YtpjibhedpieafaaWZeros
import Derived.Test.YtpjibhedpieafaaWFoot
import Derived.Test.YtpjibhedpieafaaWKept
import Derived.Test.YtpjibhedpieafaaWShare
import Derived.Test.YtpjibhedpieafaaWN
import Derived.Test.YtpjibhedpieafaaWFootNe
import Derived.Test.YtpjibhedpieafaaWAt
import Derived.Test.YtpjibhedpieafaaWEqStruct
import Derived.Test.YtpjibhedpieafaaWRepsOne
import Derived.Test.YtpjibhedpieafaaWInv
import Derived.Test.YtpjibhedpieafaaWInvWords
import Derived.Test.YtpjibhedpieafaaWGuard
import Derived.Test.YtpjibhedpieafaaWNEv
import Derived.Test.YtpjibhedpieafaaWMore
namespace Go.Proofs.Ytpjibhedpieafaa.H
open Go.RowKit Go.Proofs.YtpjibhedpieafaaW.PrintWords Go.Proofs.YtpjibhedpieafaaW.PrintLast Go.Proofs.YtpjibhedpieafaaW.PrintMore

/-- A function value, called. -/
def CallsV (P : Program) (fv : Value) (args : Array Value) (w : World) (R : Ending → World → Prop) : Prop :=
  ∃ f fn first cap, fv = .func (.func f) first cap ∧ P.funcs[f]? = some fn ∧ (fn.name == "runtime.NumGoroutine") = false ∧ fn.body.isSome = true ∧ Calls P f (first ++ args ++ cap) w R

theorem CallsV.mono {P : Program} {fv : Value} {args : Array Value} {w : World} {R R' : Ending → World → Prop} (h : CallsV P fv args w R) (hr : ∀ e w', R e w' → R' e w') : CallsV P fv args w R' := by
  obtain ⟨f, fn, first, cap, e, h1, h2, h3, h4⟩ := h
  exact ⟨f, fn, first, cap, e, h1, h2, h3, h4.mono hr⟩

/-- A call of a function that has no first and no captured arguments, as a function value's. -/
theorem CallsV.of {P : Program} {f : FuncId} {fn : Func} {first cap args all : Array Value} {w : World} {R : Ending → World → Prop} (hf : P.funcs[f]? = some fn) (hn : (fn.name == "runtime.NumGoroutine") = false) (hb : fn.body.isSome = true) (ha : first ++ args ++ cap = all) (h : Calls P f all w R) : CallsV P (.func (.func f) first cap) args w R :=
  ⟨f, fn, first, cap, rfl, hf, hn, hb, ha ▸ h⟩

theorem goesV_ {P : Program} {ops : Array Oper} {Q : Exit → Act → World → Prop} {rest : List Oper} {oi : Oper} {a : Act} {w : World} (N : Option Tmp) (hd : oi.dst = N) (hg : oi.guard = none) {fo : Operand} {cas : Array Operand} {ts : Array TypeId} (args : Array Value)
    (hop : oi.op = .call { callee := .value fo, args := cas, argTypes := ts }) (hargs : cas.map a.eval = args)
    (h : CallsV P (a.eval fo) args w fun e w' => ∃ v, e = .returned v ∧ wpList P ops Q rest (a.put N v) w') : wpList P ops Q (oi :: rest) a w := by
  refine wpList_plain hg fun K hK => ?_
  obtain ⟨f, fn, first, cap, e, hf, hname, hb, h⟩ := h
  have he := enters_ hf hname hb (first ++ args ++ cap) w
  have hrun : (execOp a.eval oi).run P w = .ok (.enter f (first ++ args ++ cap)) w := by
    unfold execOp
    simp only [hop, resolve, e, Deferred.ofValue, hargs]
    simp only [pure_bind]
    rw [Array.append_assoc] at he
    simp [invoke, he]
  unfold Oper.wp
  rw [hrun, Oper.upon_enter]
  refine h.mono fun e w'' hh => ?_
  obtain ⟨v, rfl, hk⟩ := hh
  subst hd
  exact hK _ _ hk

theorem gate_calleeV {P : Program} {ops : Array Oper} {Q : Exit → Act → World → Prop} {rest : List Oper} {o : Oper} {a : Act} {W : World} {t : Tmp} {cas : Array Operand} {ts : Array TypeId} (_ho : o.op = .call { callee := .value (.tmp t), args := cas, argTypes := ts }) (h : wpList P ops Q (o :: rest) a W) : wpList P ops Q (o :: rest) a W := h

theorem ret_int {k : IntKind} {a b : Int} (h : a = b) : Ending.returned (.int k a) = .returned (.int k b) := by rw [h]
theorem ret_int2 {k : IntKind} {a b : Int} {v : Value} (h : a = b) : Ending.returned (.tuple #[.int k a, v]) = .returned (.tuple #[.int k b, v]) := by rw [h]
theorem ret_bool {a b : Bool} (h : a = b) : Ending.returned (.bool a) = .returned (.bool b) := by rw [h]
theorem rd_get (l : List Int) (i : Nat) (h : i < l.length) : rd l i = l[i] := by simp [rd, List.getD, h]
theorem wrap64_id {x : Int} (h1 : -9223372036854775808 ≤ x) (h2 : x ≤ 9223372036854775807) : wrap64 x = x := by unfold wrap64; omega
theorem i16_id {x : Int} (h1 : -32768 ≤ x) (h2 : x ≤ 32767) : IntKind.i16.wrap x = x := by
  unfold IntKind.wrap
  simp only [IntKind.bits, IntKind.signed, Bool.true_and, decide_eq_true_eq, show (2 : Int) ^ 16 = 65536 from rfl, show (2 : Int) ^ (16 - 1) = 32768 from rfl]
  split <;> omega
end Go.Proofs.Ytpjibhedpieafaa.H
