import Derived.Test.YtecdmocmmnmclaaXa
namespace Go.Pur
open Go
open Go.Proofs
set_option linter.unusedSimpArgs false

theorem ev30 (ef : EF) (k : Nat) (x lo hi : Int) : evFn ef k fn30 [AV.int .i64 x, AV.int .i64 lo, AV.int .i64 hi] [] = some ([AV.bool (decide (x ≥ lo) && decide (x ≤ hi))], []) := by
  by_cases h1 : lo ≤ x <;> by_cases h2 : x ≤ hi <;>
  simp [evFn, fn30, evC, runReg, runOps, indexed, stepG, stepU, stepSkip, evOp, Opd.get, entryEnv, upd, putDst, putWr, outA, out1, HM.val, HM.names, AV.int, AV.bool, AV.one, AV.bool?, AV.flat?, Ent.bool?, flatBin, isShift, intBin, h1, h2, finish, resOf, HM.mapM, HM.bind, collect, collectFuel, AV.ren, Cell.ren, Cell.renL, AV.refs, Cell.refsL, Cell.refs, heapOf, entryHeap]
theorem ev32 (ef : EF) (k : Nat) (x lo hi : Int) : evFn ef k fn32 [AV.int .i64 x, AV.int .i64 lo, AV.int .i64 hi] [] = some ([AV.bool (decide (x ≥ lo) && decide (x ≤ hi))], []) := by
  by_cases h1 : lo ≤ x <;> by_cases h2 : x ≤ hi <;>
  simp [evFn, fn32, evC, runReg, runOps, indexed, stepG, stepU, stepSkip, evOp, Opd.get, entryEnv, upd, putDst, putWr, outA, out1, HM.val, HM.names, AV.int, AV.bool, AV.one, AV.bool?, AV.flat?, Ent.bool?, flatBin, isShift, intBin, h1, h2, finish, resOf, HM.mapM, HM.bind, collect, collectFuel, AV.ren, Cell.ren, Cell.renL, AV.refs, Cell.refsL, Cell.refs, heapOf, entryHeap]

def tab : Tab := ⟨tabFns, fun _ => none⟩

abbrev sup (a b c : Int) : AV := ⟨true, [.t (.v (.int .i64 a)), .t (.v (.int .i64 b)), .t (.v (.int .i64 c))]⟩
abbrev inB (x lo hi : Int) : Bool := decide (x ≥ lo) && decide (x ≤ hi)
abbrev supOk (a b c : Int) : Bool := inB b 0 100000 && (inB a 0 b && inB c 0 100000)

theorem ev10 (ef : EF) (k : Nat) (a b c : Int) : evFn ef k fn10 [sup a b c] [] = some ([sup a b c], []) := by
  simp [evFn, fn10, evC, runReg, runOps, indexed, stepG, stepU, stepSkip, evOp, Opd.get, Opd.full, Cell.isDef, entryEnv, upd, putDst, putWr, outA, out1, HM.val, HM.names, AV.int, AV.bool, AV.one, AV.cell?, AV.bool?, AV.flat?, Ent.bool?, flatBin, isShift, intBin, finish, resOf, HM.mapM, HM.bind, collect, collectFuel, AV.ren, Cell.ren, Cell.renL, AV.refs, Cell.refsL, Cell.refs, heapOf, entryHeap]


theorem ev9 (ef : EF) (k : Nat) (h30 : ∀ x lo hi, ef 30 [AV.int .i64 x, AV.int .i64 lo, AV.int .i64 hi] [] = some ([AV.bool (inB x lo hi)], [])) (a b c : Int) : evFn ef k fn9 [sup a b c] [] = some ([AV.bool (supOk a b c)], []) := by
  simp only [AV.int, AV.bool] at h30
  cases h1 : inB b 0 100000 <;> cases h2 : inB a 0 b <;> cases h3 : inB c 0 100000 <;>
  simp [evFn, fn9, supOk, h1, h2, h3, h30, evC, runReg, runOps, indexed, stepG, stepU, stepSkip, evOp, Opd.get, Opd.full, Cell.isDef, entryEnv, upd, putDst, putWr, outA, out1, HM.val, HM.names, AV.int, AV.bool, AV.one, AV.cell?, AV.bool?, AV.flat?, Ent.bool?, flatBin, isShift, intBin, finish, resOf, HM.mapM, HM.bind, collect, collectFuel, AV.ren, Cell.ren, Cell.renL, AV.refs, Cell.refsL, Cell.refs, heapOf, entryHeap, doCall, argOf, Cell.snap, snapDepth, Ent.ofRes, newsOf, Cell.freshC]
theorem ev31 (ef : EF) (k : Nat) (h30 : ∀ x lo hi, ef 32 [AV.int .i64 x, AV.int .i64 lo, AV.int .i64 hi] [] = some ([AV.bool (inB x lo hi)], [])) (a b c : Int) : evFn ef k fn31 [sup a b c] [] = some ([AV.bool (supOk a b c)], []) := by
  simp only [AV.int, AV.bool] at h30
  cases h1 : inB b 0 100000 <;> cases h2 : inB a 0 b <;> cases h3 : inB c 0 100000 <;>
  simp [evFn, fn31, supOk, h1, h2, h3, h30, evC, runReg, runOps, indexed, stepG, stepU, stepSkip, evOp, Opd.get, Opd.full, Cell.isDef, entryEnv, upd, putDst, putWr, outA, out1, HM.val, HM.names, AV.int, AV.bool, AV.one, AV.cell?, AV.bool?, AV.flat?, Ent.bool?, flatBin, isShift, intBin, finish, resOf, HM.mapM, HM.bind, collect, collectFuel, AV.ren, Cell.ren, Cell.renL, AV.refs, Cell.refsL, Cell.refs, heapOf, entryHeap, doCall, argOf, Cell.snap, snapDepth, Ent.ofRes, newsOf, Cell.freshC]
theorem ev11 (ef : EF) (k : Nat) (h31 : ∀ a b c, ef 31 [sup a b c] [] = some ([AV.bool (supOk a b c)], [])) (a b c : Int) : evFn ef k fn11 [sup a b c] [] = some ([AV.bool (supOk a b c)], []) := by
  simp only [sup, AV.int, AV.bool] at h31 ⊢
  simp [evFn, fn11, h31, evC, runReg, runOps, indexed, stepG, stepU, stepSkip, evOp, Opd.get, Opd.full, Cell.isDef, entryEnv, upd, putDst, putWr, outA, out1, HM.val, HM.names, AV.int, AV.bool, AV.one, AV.cell?, AV.bool?, AV.flat?, Ent.bool?, flatBin, isShift, intBin, finish, resOf, HM.mapM, HM.bind, collect, collectFuel, AV.ren, Cell.ren, Cell.renL, AV.refs, Cell.refsL, Cell.refs, heapOf, entryHeap, doCall, argOf, Cell.snap, snapDepth, Ent.ofRes, newsOf, Cell.freshC]
theorem ev3 (ef : EF) (k : Nat) (h10 : ∀ a b c, ef 10 [sup a b c] [] = some ([sup a b c], [])) (h9 : ∀ a b c, ef 9 [sup a b c] [] = some ([AV.bool (supOk a b c)], [])) (h11 : ∀ a b c, ef 11 [sup a b c] [] = some ([AV.bool (supOk a b c)], [])) (a b c : Int) :
    evFn ef k fn3 [sup a b c] [] = some ([AV.bool true], []) := by
  simp only [sup, AV.int, AV.bool] at h9 h10 h11 ⊢
  simp [evFn, fn3, h9, h10, h11, evC, runReg, runOps, indexed, stepG, stepU, stepSkip, evOp, Opd.get, Opd.full, Cell.isDef, entryEnv, upd, putDst, putWr, outA, out1, HM.val, HM.names, AV.int, AV.bool, AV.one, AV.cell?, AV.bool?, AV.flat?, Ent.bool?, flatBin, isShift, intBin, finish, resOf, HM.mapM, HM.bind, collect, collectFuel, AV.ren, Cell.ren, Cell.renL, AV.refs, Cell.refsL, Cell.refs, heapOf, entryHeap, doCall, argOf, Cell.snap, snapDepth, Ent.ofRes, newsOf, Cell.freshC]

end Go.Pur
