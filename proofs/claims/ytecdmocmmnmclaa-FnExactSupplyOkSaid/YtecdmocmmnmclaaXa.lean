/- The functions of the first law. -/
import Derived.Test.YtecdmocmmnmclaaFw
import Derived.Test.YtecdmocmmnmclaaChecked
import Derived.KernelRfl
namespace Go.Pur
open Go
open Go.Proofs

/-- loop.example/g00071/laws.FnExactSupplyOk -/
def fn3 : IFn := ⟨14, [.tmp 2],
  .seq (.reg false [
    ⟨(some 1), .box (.t 0), [], none⟩,
    ⟨(some 2), .mov (.c (.one (.t (.v (.bool false))))), [], none⟩]) (
  .seq (.reg false [
    ⟨(some 5), .ld true 3 (.t 1), [], none⟩,
    ⟨(some 6), .call 10 [(false, (.t 5))], [0], none⟩,
    ⟨(some 7), .call 9 [(false, (.t 6))], [1], none⟩,
    ⟨(some 3), .mov (.t 7), [2, 0, 1], none⟩]) (
  .seq (.reg false [
    ⟨(some 8), .ld true 3 (.t 1), [], none⟩,
    ⟨(some 9), .call 10 [(false, (.t 8))], [0], none⟩,
    ⟨(some 10), .call 11 [(false, (.t 9))], [1], none⟩,
    ⟨(some 4), .mov (.t 10), [2, 0, 1], none⟩]) (
  .seq (.seq (.reg false [
    ⟨(some 11), .mov (.t 4), [], none⟩,
    ⟨(some 12), .mov (.t 3), [], none⟩,
    ⟨(some 13), .eqb true (.t 11) (.t 12), [0, 1], none⟩]) (
  .cond (.t 13) (.seq (.reg false [
     ⟨(some 2), .mov (.c (.one (.t (.v (.bool false))))), [], none⟩]) (
   .ret))
  (.skip))) (
  .seq (.reg false [
    ⟨(some 2), .mov (.c (.one (.t (.v (.bool true))))), [], none⟩]) (
  .ret)))))⟩

/-- loop.example/g00071/spec.SupplyOk -/
def fn9 : IFn := ⟨18, [.tmp 2],
  .seq (.reg false [
    ⟨(some 1), .box (.t 0), [], none⟩,
    ⟨(some 2), .mov (.c (.one (.t (.v (.bool false))))), [], none⟩]) (
  .seq (.reg false [
    ⟨(some 3), .fa 1 (.t 1), [], none⟩,
    ⟨(some 4), .ld false 1 (.t 3), [0], none⟩,
    ⟨(some 5), .call 30 [(false, (.t 4)), (false, (.c (.one (.t (.v (.int .i64 0)))))), (false, (.c (.one (.t (.v (.int .i64 100000))))))], [1], none⟩,
    ⟨(some 6), .mov (.t 5), [2], none⟩,
    ⟨(some 7), .fa 0 (.t 1), [3], (some (6, true))⟩,
    ⟨(some 8), .ld false 1 (.t 7), [4, 3], (some (6, true))⟩,
    ⟨(some 9), .fa 1 (.t 1), [3], (some (6, true))⟩,
    ⟨(some 10), .ld false 1 (.t 9), [6, 3], (some (6, true))⟩,
    ⟨(some 11), .call 30 [(false, (.t 8)), (false, (.c (.one (.t (.v (.int .i64 0)))))), (false, (.t 10))], [5, 7, 3], (some (6, true))⟩,
    ⟨(some 12), .pick (.t 6) (.t 11) (.c (.one (.t (.v (.bool false))))), [3, 8], none⟩,
    ⟨(some 13), .mov (.t 12), [9, 8], none⟩,
    ⟨(some 14), .fa 2 (.t 1), [10], (some (13, true))⟩,
    ⟨(some 15), .ld false 1 (.t 14), [11, 10], (some (13, true))⟩,
    ⟨(some 16), .call 30 [(false, (.t 15)), (false, (.c (.one (.t (.v (.int .i64 0)))))), (false, (.c (.one (.t (.v (.int .i64 100000))))))], [12, 10], (some (13, true))⟩,
    ⟨(some 17), .pick (.t 13) (.t 16) (.c (.one (.t (.v (.bool false))))), [10, 13], none⟩,
    ⟨(some 2), .mov (.t 17), [14, 13, 0, 1, 2, 3, 4, 5, 6, 7, 8, 9, 10, 11, 12], none⟩]) (
  .ret))⟩

/-- loop.example/g00071/laws.toSupply -/
def fn10 : IFn := ⟨14, [.cell 2 true 3],
  .seq (.reg false [
    ⟨(some 1), .box (.t 0), [], none⟩,
    ⟨(some 2), .alc [(.t (.v (.int .i64 0))), (.t (.v (.int .i64 0))), (.t (.v (.int .i64 0)))], [], none⟩]) (
  .seq (.reg false [
    ⟨(some 3), .alc [(.t (.v (.int .i64 0))), (.t (.v (.int .i64 0))), (.t (.v (.int .i64 0)))], [], none⟩]) (
  .seq (.reg false [
    ⟨(some 4), .fa 0 (.t 1), [], none⟩,
    ⟨(some 5), .ld false 1 (.t 4), [0], none⟩,
    ⟨(some 6), .fa 0 (.t 3), [0, 1], none⟩,
    ⟨none, .st 1 (.t 6) (.t 5), [2, 1, 0], none⟩]) (
  .seq (.reg false [
    ⟨(some 7), .fa 1 (.t 1), [], none⟩,
    ⟨(some 8), .ld false 1 (.t 7), [0], none⟩,
    ⟨(some 9), .fa 1 (.t 3), [0, 1], none⟩,
    ⟨none, .st 1 (.t 9) (.t 8), [2, 1, 0], none⟩]) (
  .seq (.reg false [
    ⟨(some 10), .fa 2 (.t 1), [], none⟩,
    ⟨(some 11), .ld false 1 (.t 10), [0], none⟩,
    ⟨(some 12), .fa 2 (.t 3), [0, 1], none⟩,
    ⟨none, .st 1 (.t 12) (.t 11), [2, 1, 0], none⟩]) (
  .seq (.reg false [
    ⟨(some 13), .ld true 3 (.t 3), [], none⟩,
    ⟨none, .st 3 (.t 2) (.t 13), [0], none⟩]) (
  .ret))))))⟩

/-- loop.example/g00071/impl.SupplyOk -/
def fn11 : IFn := ⟨5, [.tmp 2],
  .seq (.reg false [
    ⟨(some 1), .box (.t 0), [], none⟩,
    ⟨(some 2), .mov (.c (.one (.t (.v (.bool false))))), [], none⟩]) (
  .seq (.reg false [
    ⟨(some 3), .ld true 3 (.t 1), [], none⟩,
    ⟨(some 4), .call 31 [(false, (.t 3))], [0], none⟩,
    ⟨(some 2), .mov (.t 4), [1, 0], none⟩]) (
  .ret))⟩

/-- loop.example/g00071/spec.l1In -/
def fn30 : IFn := ⟨15, [.tmp 6],
  .seq (.reg false [
    ⟨(some 6), .mov (.c (.one (.t (.v (.bool false))))), [], none⟩]) (
  .seq (.reg false [
    ⟨(some 7), .mov (.t 0), [], none⟩,
    ⟨(some 8), .mov (.t 1), [], none⟩,
    ⟨(some 9), .bin .geq (.t 7) (.t 8), [0, 1], none⟩,
    ⟨(some 10), .mov (.t 9), [2], none⟩,
    ⟨(some 11), .mov (.t 0), [3], (some (10, true))⟩,
    ⟨(some 12), .mov (.t 2), [3], (some (10, true))⟩,
    ⟨(some 13), .bin .leq (.t 11) (.t 12), [4, 5, 3], (some (10, true))⟩,
    ⟨(some 14), .pick (.t 10) (.t 13) (.c (.one (.t (.v (.bool false))))), [3, 6], none⟩,
    ⟨(some 6), .mov (.t 14), [7, 3, 0, 1, 2, 4, 5, 6], none⟩]) (
  .ret))⟩

/-- loop.example/g00071/impl.isSupply -/
def fn31 : IFn := ⟨18, [.tmp 2],
  .seq (.reg false [
    ⟨(some 1), .box (.t 0), [], none⟩,
    ⟨(some 2), .mov (.c (.one (.t (.v (.bool false))))), [], none⟩]) (
  .seq (.reg false [
    ⟨(some 3), .fa 1 (.t 1), [], none⟩,
    ⟨(some 4), .ld false 1 (.t 3), [0], none⟩,
    ⟨(some 5), .call 32 [(false, (.t 4)), (false, (.c (.one (.t (.v (.int .i64 0)))))), (false, (.c (.one (.t (.v (.int .i64 100000))))))], [1], none⟩,
    ⟨(some 6), .mov (.t 5), [2], none⟩,
    ⟨(some 7), .fa 0 (.t 1), [3], (some (6, true))⟩,
    ⟨(some 8), .ld false 1 (.t 7), [4, 3], (some (6, true))⟩,
    ⟨(some 9), .fa 1 (.t 1), [3], (some (6, true))⟩,
    ⟨(some 10), .ld false 1 (.t 9), [6, 3], (some (6, true))⟩,
    ⟨(some 11), .call 32 [(false, (.t 8)), (false, (.c (.one (.t (.v (.int .i64 0)))))), (false, (.t 10))], [5, 7, 3], (some (6, true))⟩,
    ⟨(some 12), .pick (.t 6) (.t 11) (.c (.one (.t (.v (.bool false))))), [3, 8], none⟩,
    ⟨(some 13), .mov (.t 12), [9, 8], none⟩,
    ⟨(some 14), .fa 2 (.t 1), [10], (some (13, true))⟩,
    ⟨(some 15), .ld false 1 (.t 14), [11, 10], (some (13, true))⟩,
    ⟨(some 16), .call 32 [(false, (.t 15)), (false, (.c (.one (.t (.v (.int .i64 0)))))), (false, (.c (.one (.t (.v (.int .i64 100000))))))], [12, 10], (some (13, true))⟩,
    ⟨(some 17), .pick (.t 13) (.t 16) (.c (.one (.t (.v (.bool false))))), [10, 13], none⟩,
    ⟨(some 2), .mov (.t 17), [14, 13, 0, 1, 2, 3, 4, 5, 6, 7, 8, 9, 10, 11, 12], none⟩]) (
  .ret))⟩

/-- loop.example/g00071/impl.in -/
def fn32 : IFn := ⟨15, [.tmp 6],
  .seq (.reg false [
    ⟨(some 6), .mov (.c (.one (.t (.v (.bool false))))), [], none⟩]) (
  .seq (.reg false [
    ⟨(some 7), .mov (.t 0), [], none⟩,
    ⟨(some 8), .mov (.t 1), [], none⟩,
    ⟨(some 9), .bin .geq (.t 7) (.t 8), [0, 1], none⟩,
    ⟨(some 10), .mov (.t 9), [2], none⟩,
    ⟨(some 11), .mov (.t 0), [3], (some (10, true))⟩,
    ⟨(some 12), .mov (.t 2), [3], (some (10, true))⟩,
    ⟨(some 13), .bin .leq (.t 11) (.t 12), [4, 5, 3], (some (10, true))⟩,
    ⟨(some 14), .pick (.t 10) (.t 13) (.c (.one (.t (.v (.bool false))))), [3, 6], none⟩,
    ⟨(some 6), .mov (.t 14), [7, 3, 0, 1, 2, 4, 5, 6], none⟩]) (
  .ret))⟩


def tabFns : Nat → Option IFn
  | 3 => some fn3
  | 9 => some fn9
  | 10 => some fn10
  | 11 => some fn11
  | 30 => some fn30
  | 31 => some fn31
  | 32 => some fn32
  | _ => none
theorem ok3 : okIFn Try.prog 3 fn3 = true := by kernel_rfl
theorem ok9 : okIFn Try.prog 9 fn9 = true := by kernel_rfl
theorem ok10 : okIFn Try.prog 10 fn10 = true := by kernel_rfl
theorem ok11 : okIFn Try.prog 11 fn11 = true := by kernel_rfl
theorem ok30 : okIFn Try.prog 30 fn30 = true := by kernel_rfl
theorem ok31 : okIFn Try.prog 31 fn31 = true := by kernel_rfl
theorem ok32 : okIFn Try.prog 32 fn32 = true := by kernel_rfl
end Go.Pur
