/- The functions of the program, in the evaluator's language (printed by a program of this workplace). -/
import Derived.Test.YtecdmocmmnmclaaFy
import Derived.Test.YtecdmocmmnmclaaChecked
import Derived.KernelRfl
namespace Go.Pur
open Go
open Go.Proofs
set_option linter.defProp false
abbrev i_main_main : FuncId := 0
abbrev i_gosem_cut : FuncId := 1
abbrev i_gosem_cut_init : FuncId := 2
abbrev i_laws_FnExactSupplyOk : FuncId := 3
abbrev i_laws_FnExactSpend : FuncId := 4
abbrev i_laws_FnExactRested : FuncId := 5
abbrev i_laws_FnExactRolloutOk : FuncId := 6
abbrev i_laws_FnExactCounts : FuncId := 7
abbrev i_laws_FnExactDue : FuncId := 8
abbrev i_spec_SupplyOk : FuncId := 9
abbrev i_laws_toSupply : FuncId := 10
abbrev i_impl_SupplyOk : FuncId := 11
abbrev i_spec_Spend : FuncId := 12
abbrev i_impl_Spend : FuncId := 13
abbrev i_laws_eqSupply : FuncId := 14
abbrev i_spec_Rested : FuncId := 15
abbrev i_impl_Rested : FuncId := 16
abbrev i_laws_szRollout : FuncId := 17
abbrev i_spec_RolloutOk : FuncId := 18
abbrev i_laws_toRollout : FuncId := 19
abbrev i_impl_RolloutOk : FuncId := 20
abbrev i_laws_eqRollout : FuncId := 21
abbrev i_laws_szFleet : FuncId := 22
abbrev i_spec_Counts : FuncId := 23
abbrev i_laws_toFleet : FuncId := 24
abbrev i_impl_Counts : FuncId := 25
abbrev i_laws_eqIntA5 : FuncId := 26
abbrev i_laws_eqFleet : FuncId := 27
abbrev i_spec_Due : FuncId := 28
abbrev i_impl_Due : FuncId := 29
abbrev i_spec_l1In : FuncId := 30
abbrev i_impl_isSupply : FuncId := 31
abbrev i_impl_in : FuncId := 32
abbrev i_spec_l4Min : FuncId := 33
abbrev i_impl_rested : FuncId := 34
abbrev i_laws_szIntS : FuncId := 35
abbrev i_laws_toIntS : FuncId := 36
abbrev i_impl_isRollout : FuncId := 37
abbrev i_laws_eqIntS : FuncId := 38
abbrev i_runtime_boundsError_Error : FuncId := 39
abbrev i_runtime_boundsError_RuntimeError : FuncId := 40
abbrev i_runtime_errorString_Error : FuncId := 41
abbrev i_runtime_errorString_RuntimeError : FuncId := 42
abbrev i_runtime_plainError_Error : FuncId := 43
abbrev i_runtime_plainError_RuntimeError : FuncId := 44
abbrev i_runtime_errorAddressString_Error : FuncId := 45
abbrev i_runtime_errorAddressString_RuntimeError : FuncId := 46
abbrev i_runtime_TypeAssertionError_Error : FuncId := 47
abbrev i_runtime_TypeAssertionError_RuntimeError : FuncId := 48
abbrev i_runtime_PanicNilError_Error : FuncId := 49
abbrev i_runtime_PanicNilError_RuntimeError : FuncId := 50
abbrev i_abi_Type_Align : FuncId := 51
abbrev i_maps_unhashableTypeError_Error : FuncId := 52
abbrev i_maps_unhashableTypeError_RuntimeError : FuncId := 53
abbrev i_abi_Kind_String : FuncId := 54

def fn_gosem_cut_init : IFn := ⟨1, [],
  .r [.d 0 (.call i_gosem_cut [])]⟩

def fn_laws_FnExactSupplyOk : IFn := ⟨14, [.tmp 2],
  .seq (.r [.d 1 (.box (.t 0)),
    .d 2 (.mov (.b false))]) (
  .seq (.r [.d 5 (.ld true 3 (.t 1)),
    .d 6 (.call i_laws_toSupply [(false, (.t 5))]),
    .d 7 (.call i_spec_SupplyOk [(false, (.t 6))]),
    .d 3 (.mov (.t 7))]) (
  .seq (.r [.d 8 (.ld true 3 (.t 1)),
    .d 9 (.call i_laws_toSupply [(false, (.t 8))]),
    .d 10 (.call i_impl_SupplyOk [(false, (.t 9))]),
    .d 4 (.mov (.t 10))]) (
  .seq (.seq (.r [.d 11 (.mov (.t 4)),
    .d 12 (.mov (.t 3)),
    .d 13 (.eqb true (.t 11) (.t 12))]) (
  .cond (.t 13) (.seq (.r [.d 2 (.mov (.b false))]) (
   .retn [2]))
  (.skip))) (
  .seq (.r [.d 2 (.mov (.b true))]) (
  .retn [2])))))⟩

def fn_laws_FnExactSpend : IFn := ⟨32, [.tmp 4],
  .seq (.r [.d 2 (.box (.t 0)),
    .d 4 (.mov (.b false))]) (
  .seq (.r [.d 10 (.ld true 3 (.t 2)),
    .d 11 (.call i_laws_toSupply [(false, (.t 10))]),
    .d 12 (.mov (.t 1)),
    .d 13 (.call i_spec_Spend [(false, (.t 11)), (false, (.t 12))]),
    .d 9 (.mov (.t 13)),
    .d 14 (.ext 0 (.t 9)),
    .d 15 (.ext 1 (.t 9)),
    .d 5 (.alc [(.t (.v (.int .i64 0))), (.t (.v (.int .i64 0))), (.t (.v (.int .i64 0)))]),
    .s (.st 3 (.t 5) (.t 14)),
    .d 6 (.mov (.t 15))]) (
  .seq (.r [.d 17 (.ld true 3 (.t 2)),
    .d 18 (.call i_laws_toSupply [(false, (.t 17))]),
    .d 19 (.mov (.t 1)),
    .d 20 (.call i_impl_Spend [(false, (.t 18)), (false, (.t 19))]),
    .d 16 (.mov (.t 20)),
    .d 21 (.ext 0 (.t 16)),
    .d 22 (.ext 1 (.t 16)),
    .d 7 (.alc [(.t (.v (.int .i64 0))), (.t (.v (.int .i64 0))), (.t (.v (.int .i64 0)))]),
    .s (.st 3 (.t 7) (.t 21)),
    .d 8 (.mov (.t 22))]) (
  .seq (.seq (.r [.d 23 (.ld true 3 (.t 7)),
    .d 24 (.ld true 3 (.t 5)),
    .d 25 (.call i_laws_eqSupply [(false, (.t 23)), (false, (.t 24))]),
    .d 26 (.un .not (.t 25)),
    .d 27 (.mov (.t 26)),
    .g 28 27 false (.mov (.t 8)),
    .g 29 27 false (.mov (.t 6)),
    .g 30 27 false (.eqb true (.t 28) (.t 29)),
    .d 31 (.pick (.t 27) (.b true) (.t 30))]) (
  .cond (.t 31) (.seq (.r [.d 4 (.mov (.b false))]) (
   .retn [4]))
  (.skip))) (
  .seq (.r [.d 4 (.mov (.b true))]) (
  .retn [4])))))⟩

def fn_laws_FnExactRested : IFn := ⟨19, [.tmp 4],
  .seq (.r [.d 2 (.box (.t 0)),
    .d 4 (.mov (.b false))]) (
  .seq (.r [.d 7 (.ld true 3 (.t 2)),
    .d 8 (.call i_laws_toSupply [(false, (.t 7))]),
    .d 9 (.mov (.t 1)),
    .d 10 (.call i_spec_Rested [(false, (.t 8)), (false, (.t 9))]),
    .d 5 (.alc [(.t (.v (.int .i64 0))), (.t (.v (.int .i64 0))), (.t (.v (.int .i64 0)))]),
    .s (.st 3 (.t 5) (.t 10))]) (
  .seq (.r [.d 11 (.ld true 3 (.t 2)),
    .d 12 (.call i_laws_toSupply [(false, (.t 11))]),
    .d 13 (.mov (.t 1)),
    .d 14 (.call i_impl_Rested [(false, (.t 12)), (false, (.t 13))]),
    .d 6 (.alc [(.t (.v (.int .i64 0))), (.t (.v (.int .i64 0))), (.t (.v (.int .i64 0)))]),
    .s (.st 3 (.t 6) (.t 14))]) (
  .seq (.seq (.r [.d 15 (.ld true 3 (.t 6)),
    .d 16 (.ld true 3 (.t 5)),
    .d 17 (.call i_laws_eqSupply [(false, (.t 15)), (false, (.t 16))]),
    .d 18 (.un .not (.t 17))]) (
  .cond (.t 18) (.seq (.r [.d 4 (.mov (.b false))]) (
   .retn [4]))
  (.skip))) (
  .seq (.r [.d 4 (.mov (.b true))]) (
  .retn [4])))))⟩

def fn_laws_FnExactRolloutOk : IFn := ⟨27, [.tmp 2],
  .seq (.r [.d 1 (.box (.t 0)),
    .d 2 (.mov (.b false))]) (
  .seq (.r [.d 3 (.mov (.i 1048576))]) (
  .seq (.r [.d 7 (.ld true 2 (.t 1)),
    .d 8 (.mov (.t 3)),
    .d 9 (.call i_laws_szRollout [(false, (.t 7)), (false, (.t 8))]),
    .d 3 (.mov (.t 9))]) (
  .seq (.seq (.r [.d 10 (.mov (.t 3)),
    .d 11 (.bin .lss (.t 10) (.i 0))]) (
  .cond (.t 11) (.seq (.r [.d 2 (.mov (.b true))]) (
   .retn [2]))
  (.skip))) (
  .seq (.r [.d 12 (.ld true 2 (.t 1)),
    .d 13 (.call i_laws_toRollout [(false, (.t 12))]),
    .d 14 (.call i_spec_RolloutOk [(false, (.t 13))]),
    .d 4 (.mov (.t 14))]) (
  .seq (.r [.d 15 (.ld true 2 (.t 1)),
    .d 16 (.call i_laws_toRollout [(false, (.t 15))]),
    .d 5 (.alc [(.nils 1), (.t (.v (.int .i64 0)))]),
    .s (.st 2 (.t 5) (.t 16))]) (
  .seq (.r [.d 17 (.ld true 2 (.t 5)),
    .d 18 (.call i_impl_RolloutOk [(false, (.t 17))]),
    .d 6 (.mov (.t 18))]) (
  .seq (.seq (.r [.d 19 (.mov (.t 6)),
    .d 20 (.mov (.t 4)),
    .d 21 (.eqb true (.t 19) (.t 20))]) (
  .cond (.t 21) (.seq (.r [.d 2 (.mov (.b false))]) (
   .retn [2]))
  (.skip))) (
  .seq (.seq (.w [.a 22 (.ld true 2 (.t 5)) [],
    .a 23 (.ld true 2 (.t 1)) [],
    .a 24 (.call i_laws_toRollout [(false, (.t 23))]) [1],
    .a 25 (.call i_laws_eqRollout [(false, (.t 22)), (false, (.t 24))]) [0, 2],
    .a 26 (.un .not (.t 25)) [3]]) (
  .cond (.t 26) (.seq (.r [.d 2 (.mov (.b false))]) (
   .retn [2]))
  (.skip))) (
  .seq (.r [.d 2 (.mov (.b true))]) (
  .retn [2]))))))))))⟩

def fn_laws_FnExactCounts : IFn := ⟨28, [.tmp 2],
  .seq (.r [.d 1 (.box (.t 0)),
    .d 2 (.mov (.b false))]) (
  .seq (.r [.d 3 (.mov (.i 1048576))]) (
  .seq (.r [.d 7 (.ld true 3 (.t 1)),
    .d 8 (.mov (.t 3)),
    .d 9 (.call i_laws_szFleet [(false, (.t 7)), (false, (.t 8))]),
    .d 3 (.mov (.t 9))]) (
  .seq (.seq (.r [.d 10 (.mov (.t 3)),
    .d 11 (.bin .lss (.t 10) (.i 0))]) (
  .cond (.t 11) (.seq (.r [.d 2 (.mov (.b true))]) (
   .retn [2]))
  (.skip))) (
  .seq (.r [.d 12 (.ld true 3 (.t 1)),
    .d 13 (.call i_laws_toFleet [(false, (.t 12))]),
    .d 14 (.call i_spec_Counts [(false, (.t 13))]),
    .d 4 (.alcA 1 5 [(.v (.int .i64 0))]),
    .s (.st 5 (.t 4) (.t 14))]) (
  .seq (.r [.d 15 (.ld true 3 (.t 1)),
    .d 16 (.call i_laws_toFleet [(false, (.t 15))]),
    .d 5 (.alc [(.nils 1), (.t (.v (.int .i64 0))), (.t (.v (.bool false)))]),
    .s (.st 3 (.t 5) (.t 16))]) (
  .seq (.r [.d 17 (.ld true 3 (.t 5)),
    .d 18 (.call i_impl_Counts [(false, (.t 17))]),
    .d 6 (.alcA 1 5 [(.v (.int .i64 0))]),
    .s (.st 5 (.t 6) (.t 18))]) (
  .seq (.seq (.r [.d 19 (.ld true 5 (.t 6)),
    .d 20 (.ld true 5 (.t 4)),
    .d 21 (.call i_laws_eqIntA5 [(false, (.t 19)), (false, (.t 20))]),
    .d 22 (.un .not (.t 21))]) (
  .cond (.t 22) (.seq (.r [.d 2 (.mov (.b false))]) (
   .retn [2]))
  (.skip))) (
  .seq (.seq (.w [.a 23 (.ld true 3 (.t 5)) [],
    .a 24 (.ld true 3 (.t 1)) [],
    .a 25 (.call i_laws_toFleet [(false, (.t 24))]) [1],
    .a 26 (.call i_laws_eqFleet [(false, (.t 23)), (false, (.t 25))]) [0, 2],
    .a 27 (.un .not (.t 26)) [3]]) (
  .cond (.t 27) (.seq (.r [.d 2 (.mov (.b false))]) (
   .retn [2]))
  (.skip))) (
  .seq (.r [.d 2 (.mov (.b true))]) (
  .retn [2]))))))))))⟩

def fn_laws_FnExactDue : IFn := ⟨35, [.tmp 6],
  .seq (.r [.d 3 (.box (.t 0)),
    .d 6 (.mov (.b false))]) (
  .seq (.r [.d 7 (.mov (.i 1048576))]) (
  .seq (.r [.d 11 (.ld true 2 (.t 3)),
    .d 12 (.mov (.t 7)),
    .d 13 (.call i_laws_szRollout [(false, (.t 11)), (false, (.t 12))]),
    .d 7 (.mov (.t 13))]) (
  .seq (.seq (.r [.d 14 (.mov (.t 7)),
    .d 15 (.bin .lss (.t 14) (.i 0))]) (
  .cond (.t 15) (.seq (.r [.d 6 (.mov (.b true))]) (
   .retn [6]))
  (.skip))) (
  .seq (.r [.d 16 (.ld true 2 (.t 3)),
    .d 17 (.call i_laws_toRollout [(false, (.t 16))]),
    .d 18 (.mov (.t 1)),
    .d 19 (.mov (.t 2)),
    .d 20 (.call i_spec_Due [(false, (.t 17)), (false, (.t 18)), (false, (.t 19))]),
    .d 8 (.mov (.t 20))]) (
  .seq (.r [.d 21 (.ld true 2 (.t 3)),
    .d 22 (.call i_laws_toRollout [(false, (.t 21))]),
    .d 9 (.alc [(.nils 1), (.t (.v (.int .i64 0)))]),
    .s (.st 2 (.t 9) (.t 22))]) (
  .seq (.r [.d 23 (.ld true 2 (.t 9)),
    .d 24 (.mov (.t 1)),
    .d 25 (.mov (.t 2)),
    .d 26 (.call i_impl_Due [(false, (.t 23)), (false, (.t 24)), (false, (.t 25))]),
    .d 10 (.mov (.t 26))]) (
  .seq (.seq (.r [.d 27 (.mov (.t 10)),
    .d 28 (.mov (.t 8)),
    .d 29 (.bin .neq (.t 27) (.t 28))]) (
  .cond (.t 29) (.seq (.r [.d 6 (.mov (.b false))]) (
   .retn [6]))
  (.skip))) (
  .seq (.seq (.w [.a 30 (.ld true 2 (.t 9)) [],
    .a 31 (.ld true 2 (.t 3)) [],
    .a 32 (.call i_laws_toRollout [(false, (.t 31))]) [1],
    .a 33 (.call i_laws_eqRollout [(false, (.t 30)), (false, (.t 32))]) [0, 2],
    .a 34 (.un .not (.t 33)) [3]]) (
  .cond (.t 34) (.seq (.r [.d 6 (.mov (.b false))]) (
   .retn [6]))
  (.skip))) (
  .seq (.r [.d 6 (.mov (.b true))]) (
  .retn [6]))))))))))⟩

def fn_spec_SupplyOk : IFn := ⟨18, [.tmp 2],
  .seq (.r [.d 1 (.box (.t 0)),
    .d 2 (.mov (.b false))]) (
  .seq (.r [.d 3 (.fa 1 (.t 1)),
    .d 4 (.ld false 1 (.t 3)),
    .d 5 (.call i_spec_l1In [(false, (.t 4)), (false, (.i 0)), (false, (.i 100000))]),
    .d 6 (.mov (.t 5)),
    .g 7 6 true (.fa 0 (.t 1)),
    .g 8 6 true (.ld false 1 (.t 7)),
    .g 9 6 true (.fa 1 (.t 1)),
    .g 10 6 true (.ld false 1 (.t 9)),
    .g 11 6 true (.call i_spec_l1In [(false, (.t 8)), (false, (.i 0)), (false, (.t 10))]),
    .d 12 (.pick (.t 6) (.t 11) (.b false)),
    .d 13 (.mov (.t 12)),
    .g 14 13 true (.fa 2 (.t 1)),
    .g 15 13 true (.ld false 1 (.t 14)),
    .g 16 13 true (.call i_spec_l1In [(false, (.t 15)), (false, (.i 0)), (false, (.i 100000))]),
    .d 17 (.pick (.t 13) (.t 16) (.b false)),
    .d 2 (.mov (.t 17))]) (
  .retn [2]))⟩

def fn_laws_toSupply : IFn := ⟨14, [.cell 2 true 3],
  .seq (.r [.d 1 (.box (.t 0)),
    .d 2 (.alc [(.t (.v (.int .i64 0))), (.t (.v (.int .i64 0))), (.t (.v (.int .i64 0)))])]) (
  .seq (.r [.d 3 (.alc [(.t (.v (.int .i64 0))), (.t (.v (.int .i64 0))), (.t (.v (.int .i64 0)))])]) (
  .seq (.r [.d 4 (.fa 0 (.t 1)),
    .d 5 (.ld false 1 (.t 4)),
    .d 6 (.fa 0 (.t 3)),
    .s (.st 1 (.t 6) (.t 5))]) (
  .seq (.r [.d 7 (.fa 1 (.t 1)),
    .d 8 (.ld false 1 (.t 7)),
    .d 9 (.fa 1 (.t 3)),
    .s (.st 1 (.t 9) (.t 8))]) (
  .seq (.r [.d 10 (.fa 2 (.t 1)),
    .d 11 (.ld false 1 (.t 10)),
    .d 12 (.fa 2 (.t 3)),
    .s (.st 1 (.t 12) (.t 11))]) (
  .seq (.r [.d 13 (.ld true 3 (.t 3)),
    .s (.st 3 (.t 2) (.t 13))]) (
  .retn [2]))))))⟩

def fn_impl_SupplyOk : IFn := ⟨5, [.tmp 2],
  .seq (.r [.d 1 (.box (.t 0)),
    .d 2 (.mov (.b false))]) (
  .seq (.r [.d 3 (.ld true 3 (.t 1)),
    .d 4 (.call i_impl_isSupply [(false, (.t 3))]),
    .d 2 (.mov (.t 4))]) (
  .retn [2]))⟩

def fn_spec_Spend : IFn := ⟨29, [.cell 4 true 3, .tmp 5],
  .seq (.r [.d 2 (.box (.t 0)),
    .d 4 (.alc [(.t (.v (.int .i64 0))), (.t (.v (.int .i64 0))), (.t (.v (.int .i64 0)))]),
    .d 5 (.mov (.b false))]) (
  .seq (.seq (.r [.d 6 (.ld true 3 (.t 2)),
    .d 7 (.call i_spec_SupplyOk [(false, (.t 6))]),
    .d 8 (.un .not (.t 7)),
    .d 9 (.mov (.t 8)),
    .g 10 9 false (.mov (.t 1)),
    .g 11 9 false (.bin .lss (.t 10) (.i 0)),
    .d 12 (.pick (.t 9) (.b true) (.t 11)),
    .d 13 (.mov (.t 12)),
    .g 14 13 false (.mov (.t 1)),
    .g 15 13 false (.fa 0 (.t 2)),
    .g 16 13 false (.ld false 1 (.t 15)),
    .g 17 13 false (.bin .gtr (.t 14) (.t 16)),
    .d 18 (.pick (.t 13) (.b true) (.t 17))]) (
  .cond (.t 18) (.seq (.r [.d 19 (.ld true 3 (.t 2)),
     .s (.st 3 (.t 4) (.t 19)),
     .d 5 (.mov (.b false))]) (
   .retn [4, 5]))
  (.skip))) (
  .seq (.r [.d 20 (.fa 0 (.t 2)),
    .d 21 (.ld false 1 (.t 20)),
    .d 22 (.mov (.t 1)),
    .d 23 (.bin .sub (.t 21) (.t 22)),
    .d 24 (.fa 1 (.t 2)),
    .d 25 (.ld false 1 (.t 24)),
    .d 26 (.fa 2 (.t 2)),
    .d 27 (.ld false 1 (.t 26)),
    .d 28 (.bld [(.t (.v (.int .i64 0))), (.t (.v (.int .i64 0))), (.t (.v (.int .i64 0)))] [(0, 1, (.t 23)), (1, 1, (.t 25)), (2, 1, (.t 27))]),
    .s (.st 3 (.t 4) (.t 28)),
    .d 5 (.mov (.b true))]) (
  .retn [4, 5])))⟩

def fn_impl_Spend : IFn := ⟨23, [.cell 4 true 3, .tmp 5],
  .seq (.r [.d 2 (.box (.t 0)),
    .d 4 (.alc [(.t (.v (.int .i64 0))), (.t (.v (.int .i64 0))), (.t (.v (.int .i64 0)))]),
    .d 5 (.mov (.b false))]) (
  .seq (.seq (.r [.d 6 (.ld true 3 (.t 2)),
    .d 7 (.call i_impl_isSupply [(false, (.t 6))]),
    .d 8 (.un .not (.t 7)),
    .d 9 (.mov (.t 8)),
    .g 10 9 false (.mov (.t 1)),
    .g 11 9 false (.fa 0 (.t 2)),
    .g 12 9 false (.ld false 1 (.t 11)),
    .g 13 9 false (.call i_impl_in [(false, (.t 10)), (false, (.i 0)), (false, (.t 12))]),
    .g 14 9 false (.un .not (.t 13)),
    .d 15 (.pick (.t 9) (.b true) (.t 14))]) (
  .cond (.t 15) (.seq (.r [.d 16 (.ld true 3 (.t 2)),
     .s (.st 3 (.t 4) (.t 16)),
     .d 5 (.mov (.b false))]) (
   .retn [4, 5]))
  (.skip))) (
  .seq (.r [.d 17 (.fa 0 (.t 2)),
    .d 18 (.ld false 1 (.t 17)),
    .d 19 (.mov (.t 1)),
    .d 20 (.bin .sub (.t 18) (.t 19)),
    .d 21 (.fa 0 (.t 2)),
    .s (.st 1 (.t 21) (.t 20))]) (
  .seq (.r [.d 22 (.ld true 3 (.t 2)),
    .s (.st 3 (.t 4) (.t 22)),
    .d 5 (.mov (.b true))]) (
  .retn [4, 5]))))⟩

def fn_laws_eqSupply : IFn := ⟨20, [.tmp 4],
  .seq (.r [.d 2 (.box (.t 0)),
    .d 3 (.box (.t 1)),
    .d 4 (.mov (.b false))]) (
  .seq (.seq (.r [.d 5 (.fa 0 (.t 2)),
    .d 6 (.ld false 1 (.t 5)),
    .d 7 (.fa 0 (.t 3)),
    .d 8 (.ld false 1 (.t 7)),
    .d 9 (.bin .neq (.t 6) (.t 8))]) (
  .cond (.t 9) (.seq (.r [.d 4 (.mov (.b false))]) (
   .retn [4]))
  (.skip))) (
  .seq (.seq (.r [.d 10 (.fa 1 (.t 2)),
    .d 11 (.ld false 1 (.t 10)),
    .d 12 (.fa 1 (.t 3)),
    .d 13 (.ld false 1 (.t 12)),
    .d 14 (.bin .neq (.t 11) (.t 13))]) (
  .cond (.t 14) (.seq (.r [.d 4 (.mov (.b false))]) (
   .retn [4]))
  (.skip))) (
  .seq (.seq (.r [.d 15 (.fa 2 (.t 2)),
    .d 16 (.ld false 1 (.t 15)),
    .d 17 (.fa 2 (.t 3)),
    .d 18 (.ld false 1 (.t 17)),
    .d 19 (.bin .neq (.t 16) (.t 18))]) (
  .cond (.t 19) (.seq (.r [.d 4 (.mov (.b false))]) (
   .retn [4]))
  (.skip))) (
  .seq (.r [.d 4 (.mov (.b true))]) (
  .retn [4])))))⟩

def b0_spec_Rested : IC :=
  .seq (.seq (.r [.d 12 (.mov (.t 6)),
    .d 13 (.mov (.t 1)),
    .d 14 (.bin .lss (.t 12) (.t 13)),
    .d 15 (.mov (.t 14)),
    .g 16 15 true (.fa 0 (.t 5)),
    .g 17 15 true (.ld false 1 (.t 16)),
    .g 18 15 true (.fa 1 (.t 5)),
    .g 19 15 true (.ld false 1 (.t 18)),
    .g 20 15 true (.bin .lss (.t 17) (.t 19)),
    .d 21 (.pick (.t 15) (.t 20) (.b false)),
    .d 22 (.mov (.t 21)),
    .g 23 22 true (.fa 2 (.t 5)),
    .g 24 22 true (.ld false 1 (.t 23)),
    .g 25 22 true (.bin .gtr (.t 24) (.i 0)),
    .d 26 (.pick (.t 22) (.t 25) (.b false))]) (
  .cond (.t 26) (.skip)
  (.exit 0))) (
  .seq (.blk 1 (
  .r [.d 29 (.fa 0 (.t 5)),
     .d 30 (.ld false 1 (.t 29)),
     .d 31 (.fa 2 (.t 5)),
     .d 32 (.ld false 1 (.t 31)),
     .d 33 (.bin .add (.t 30) (.t 32)),
     .d 34 (.fa 1 (.t 5)),
     .d 35 (.ld false 1 (.t 34)),
     .d 36 (.call i_spec_l4Min [(false, (.t 33)), (false, (.t 35))]),
     .d 37 (.fa 0 (.t 5)),
     .s (.st 1 (.t 37) (.t 36))])) (
  .r [.d 27 (.mov (.t 6)),
    .d 28 (.bin .add (.t 27) (.i 1)),
    .d 6 (.mov (.t 28))]))
@[simp] def B0_spec_Rested := evS_eq b0_spec_Rested.eq_1
def fn_spec_Rested : IFn := ⟨39, [.cell 4 true 3],
  .seq (.r [.d 2 (.box (.t 0)),
    .d 4 (.alc [(.t (.v (.int .i64 0))), (.t (.v (.int .i64 0))), (.t (.v (.int .i64 0)))])]) (
  .seq (.r [.d 7 (.ld true 3 (.t 2)),
    .d 5 (.alc [(.t (.v (.int .i64 0))), (.t (.v (.int .i64 0))), (.t (.v (.int .i64 0)))]),
    .s (.st 3 (.t 5) (.t 7))]) (
  .seq (.seq (.r [.d 8 (.ld true 3 (.t 2)),
    .d 9 (.call i_spec_SupplyOk [(false, (.t 8))]),
    .d 10 (.un .not (.t 9))]) (
  .cond (.t 10) (.seq (.r [.d 11 (.ld true 3 (.t 5)),
     .s (.st 3 (.t 4) (.t 11))]) (
   .retn [4]))
  (.skip))) (
  .seq (.seq (.r [.d 6 (.mov (.i 0))]) (
  .nrm [4, 5] (.blk 0 (
  .loop [1, 4, 5, 6] b0_spec_Rested)))) (
  .seq (.r [.d 38 (.ld true 3 (.t 5)),
    .s (.st 3 (.t 4) (.t 38))]) (
  .retn [4])))))⟩

def fn_impl_Rested : IFn := ⟨16, [.cell 4 true 3],
  .seq (.r [.d 2 (.box (.t 0)),
    .d 4 (.alc [(.t (.v (.int .i64 0))), (.t (.v (.int .i64 0))), (.t (.v (.int .i64 0)))])]) (
  .seq (.seq (.r [.d 5 (.ld true 3 (.t 2)),
    .d 6 (.call i_impl_isSupply [(false, (.t 5))]),
    .d 7 (.un .not (.t 6)),
    .d 8 (.mov (.t 7)),
    .g 9 8 false (.mov (.t 1)),
    .g 10 8 false (.bin .lss (.t 9) (.i 0)),
    .d 11 (.pick (.t 8) (.b true) (.t 10))]) (
  .cond (.t 11) (.seq (.r [.d 12 (.ld true 3 (.t 2)),
     .s (.st 3 (.t 4) (.t 12))]) (
   .retn [4]))
  (.skip))) (
  .seq (.r [.d 13 (.ld true 3 (.t 2)),
    .d 14 (.mov (.t 1)),
    .d 15 (.call i_impl_rested [(false, (.t 13)), (false, (.t 14))]),
    .s (.st 3 (.t 4) (.t 15))]) (
  .retn [4])))⟩

def fn_laws_szRollout : IFn := ⟨12, [.tmp 4],
  .seq (.r [.d 2 (.box (.t 0)),
    .d 4 (.mov (.i 0))]) (
  .seq (.r [.d 5 (.fa 0 (.t 2)),
    .d 6 (.ld false 1 (.t 5)),
    .d 7 (.mov (.t 1)),
    .d 8 (.call i_laws_szIntS [(false, (.t 6)), (false, (.t 7))]),
    .d 1 (.mov (.t 8))]) (
  .seq (.seq (.r [.d 9 (.mov (.t 1)),
    .d 10 (.bin .lss (.t 9) (.i 0))]) (
  .cond (.t 10) (.seq (.r [.d 4 (.mov (.i (-1)))]) (
   .retn [4]))
  (.skip))) (
  .seq (.r [.d 11 (.mov (.t 1)),
    .d 4 (.mov (.t 11))]) (
  .retn [4]))))⟩

def b0_spec_RolloutOk : IC :=
  .seq (.seq (.r [.d 4 (.mov (.t 3)),
    .d 5 (.fa 0 (.t 1)),
    .d 6 (.ld false 1 (.t 5)),
    .d 7 (.len (.t 6)),
    .d 8 (.bin .lss (.t 4) (.t 7))]) (
  .cond (.t 8) (.skip)
  (.exit 0))) (
  .seq (.blk 1 (
  .seq (.q [] [.a 11 (.fa 0 (.t 1)) [],
     .a 12 (.ld false 1 (.t 11)) [0],
     .a 13 (.mov (.t 3)) [],
     .a 14 (.ia none 1 (.t 12) (.t 13)) [1, 2],
     .a 15 (.ld false 1 (.t 14)) [3],
     .a 16 (.call i_spec_l1In [(false, (.t 15)), (false, (.i 1)), (false, (.i 100))]) [4],
     .a 17 (.un .not (.t 16)) [5],
     .a 18 (.mov (.t 17)) [6, 5],
     .ga 19 18 false (.mov (.t 3)) [7],
     .ga 20 18 false (.bin .gtr (.t 19) (.i 0)) [8, 7],
     .ga 21 18 false (.mov (.t 20)) [9, 7],
     .ga 22 21 true (.fa 0 (.t 1)) [10],
     .ga 23 21 true (.ld false 1 (.t 22)) [11, 10],
     .ga 24 21 true (.mov (.t 3)) [10],
     .ga 25 21 true (.bin .sub (.t 24) (.i 1)) [13, 10],
     .ga 26 21 true (.ia none 1 (.t 23) (.t 25)) [12, 14, 10],
     .ga 27 21 true (.ld false 1 (.t 26)) [15, 10],
     .ga 28 21 true (.fa 0 (.t 1)) [10],
     .ga 29 21 true (.ld false 1 (.t 28)) [17, 10],
     .ga 30 21 true (.mov (.t 3)) [10],
     .ga 31 21 true (.ia none 1 (.t 29) (.t 30)) [18, 19, 10],
     .ga 32 21 true (.ld false 1 (.t 31)) [20, 10],
     .ga 33 21 true (.bin .geq (.t 27) (.t 32)) [16, 21, 10],
     .ga 34 18 false (.pick (.t 21) (.t 33) (.b false)) [10, 22, 7],
     .a 35 (.pick (.t 18) (.b true) (.t 34)) [7, 23]]) (
   .cond (.t 35) (.seq (.r [.d 2 (.mov (.b false))]) (
    .retn [2]))
   (.skip)))) (
  .r [.d 9 (.mov (.t 3)),
    .d 10 (.bin .add (.t 9) (.i 1)),
    .d 3 (.mov (.t 10))]))
@[simp] def B0_spec_RolloutOk := evS_eq b0_spec_RolloutOk.eq_1
def fn_spec_RolloutOk : IFn := ⟨45, [.tmp 2],
  .seq (.r [.d 1 (.box (.t 0)),
    .d 2 (.mov (.b false))]) (
  .seq (.seq (.r [.d 3 (.mov (.i 0))]) (
  .nrm [1] (.blk 0 (
  .loop [1, 3] b0_spec_RolloutOk)))) (
  .seq (.r [.d 36 (.fa 0 (.t 1)),
    .d 37 (.ld false 1 (.t 36)),
    .d 38 (.len (.t 37)),
    .d 39 (.call i_spec_l1In [(false, (.t 38)), (false, (.i 1)), (false, (.i 6))]),
    .d 40 (.mov (.t 39)),
    .g 41 40 true (.fa 1 (.t 1)),
    .g 42 40 true (.ld false 1 (.t 41)),
    .g 43 40 true (.call i_spec_l1In [(false, (.t 42)), (false, (.i 0)), (false, (.i 100))]),
    .d 44 (.pick (.t 40) (.t 43) (.b false)),
    .d 2 (.mov (.t 44))]) (
  .retn [2])))⟩

def fn_laws_toRollout : IFn := ⟨12, [.cell 2 true 2],
  .seq (.r [.d 1 (.box (.t 0)),
    .d 2 (.alc [(.nils 1), (.t (.v (.int .i64 0)))])]) (
  .seq (.r [.d 3 (.alc [(.nils 1), (.t (.v (.int .i64 0)))])]) (
  .seq (.r [.d 4 (.fa 0 (.t 1)),
    .d 5 (.ld false 1 (.t 4)),
    .d 6 (.call i_laws_toIntS [(false, (.t 5))]),
    .d 7 (.fa 0 (.t 3)),
    .s (.st 1 (.t 7) (.t 6))]) (
  .seq (.r [.d 8 (.fa 1 (.t 1)),
    .d 9 (.ld false 1 (.t 8)),
    .d 10 (.fa 1 (.t 3)),
    .s (.st 1 (.t 10) (.t 9))]) (
  .seq (.r [.d 11 (.ld true 2 (.t 3)),
    .s (.st 2 (.t 2) (.t 11))]) (
  .retn [2])))))⟩

def fn_impl_RolloutOk : IFn := ⟨5, [.tmp 2],
  .seq (.r [.d 1 (.box (.t 0)),
    .d 2 (.mov (.b false))]) (
  .seq (.r [.d 3 (.ld true 2 (.t 1)),
    .d 4 (.call i_impl_isRollout [(false, (.t 3))]),
    .d 2 (.mov (.t 4))]) (
  .retn [2]))⟩

def fn_laws_eqRollout : IFn := ⟨16, [.tmp 4],
  .seq (.r [.d 2 (.box (.t 0)),
    .d 3 (.box (.t 1)),
    .d 4 (.mov (.b false))]) (
  .seq (.seq (.r [.d 5 (.fa 0 (.t 2)),
    .d 6 (.ld false 1 (.t 5)),
    .d 7 (.fa 0 (.t 3)),
    .d 8 (.ld false 1 (.t 7)),
    .d 9 (.call i_laws_eqIntS [(false, (.t 6)), (false, (.t 8))]),
    .d 10 (.un .not (.t 9))]) (
  .cond (.t 10) (.seq (.r [.d 4 (.mov (.b false))]) (
   .retn [4]))
  (.skip))) (
  .seq (.seq (.r [.d 11 (.fa 1 (.t 2)),
    .d 12 (.ld false 1 (.t 11)),
    .d 13 (.fa 1 (.t 3)),
    .d 14 (.ld false 1 (.t 13)),
    .d 15 (.bin .neq (.t 12) (.t 14))]) (
  .cond (.t 15) (.seq (.r [.d 4 (.mov (.b false))]) (
   .retn [4]))
  (.skip))) (
  .seq (.r [.d 4 (.mov (.b true))]) (
  .retn [4]))))⟩

def fn_laws_szFleet : IFn := ⟨12, [.tmp 4],
  .seq (.r [.d 2 (.box (.t 0)),
    .d 4 (.mov (.i 0))]) (
  .seq (.r [.d 5 (.fa 0 (.t 2)),
    .d 6 (.ld false 1 (.t 5)),
    .d 7 (.mov (.t 1)),
    .d 8 (.call i_laws_szIntS [(false, (.t 6)), (false, (.t 7))]),
    .d 1 (.mov (.t 8))]) (
  .seq (.seq (.r [.d 9 (.mov (.t 1)),
    .d 10 (.bin .lss (.t 9) (.i 0))]) (
  .cond (.t 10) (.seq (.r [.d 4 (.mov (.i (-1)))]) (
   .retn [4]))
  (.skip))) (
  .seq (.r [.d 11 (.mov (.t 1)),
    .d 4 (.mov (.t 11))]) (
  .retn [4]))))⟩

def b0_spec_Counts : IC :=
  .seq (.seq (.r [.d 6 (.mov (.t 4)),
    .d 7 (.fa 0 (.t 1)),
    .d 8 (.ld false 1 (.t 7)),
    .d 9 (.len (.t 8)),
    .d 10 (.bin .lss (.t 6) (.t 9))]) (
  .cond (.t 10) (.skip)
  (.exit 0))) (
  .seq (.blk 1 (
  .seq (.r [.d 13 (.fa 0 (.t 1)),
     .d 14 (.ld false 1 (.t 13)),
     .d 15 (.mov (.t 4)),
     .d 16 (.ia none 1 (.t 14) (.t 15)),
     .d 17 (.ld false 1 (.t 16)),
     .d 18 (.call i_spec_l1In [(false, (.t 17)), (false, (.i 0)), (false, (.i 4))])]) (
   .cond (.t 18) (.q [14] [.a 19 (.fa 0 (.t 1)) [],
      .a 20 (.ld false 1 (.t 19)) [0],
      .a 21 (.mov (.t 4)) [],
      .a 22 (.ia none 1 (.t 20) (.t 21)) [1, 2],
      .a 23 (.ld false 1 (.t 22)) [3],
      .a 24 (.fa 0 (.t 1)) [],
      .a 25 (.ld false 1 (.t 24)) [5],
      .a 26 (.mov (.t 4)) [],
      .a 27 (.ia none 1 (.t 25) (.t 26)) [6, 7],
      .a 28 (.ld false 1 (.t 27)) [8],
      .a 29 (.ia (some 5) 1 (.t 3) (.t 28)) [9],
      .a 30 (.ld false 1 (.t 29)) [10],
      .a 31 (.bin .add (.t 30) (.i 1)) [11],
      .a 32 (.ia (some 5) 1 (.t 3) (.t 23)) [4, 0, 1, 2, 3, 5, 6, 7, 8, 9, 10, 11, 12],
      .as (.st 1 (.t 32) (.t 31)) [13, 12, 0, 1, 2, 3, 4, 5, 6, 7, 8, 9, 10, 11]])
   (.skip)))) (
  .r [.d 11 (.mov (.t 4)),
    .d 12 (.bin .add (.t 11) (.i 1)),
    .d 4 (.mov (.t 12))]))
@[simp] def B0_spec_Counts := evS_eq b0_spec_Counts.eq_1
def fn_spec_Counts : IFn := ⟨34, [.cell 2 true 5],
  .seq (.r [.d 1 (.box (.t 0)),
    .d 2 (.alcA 1 5 [(.v (.int .i64 0))])]) (
  .seq (.r [.d 5 (.bld [(.t (.v (.int .i64 0))), (.t (.v (.int .i64 0))), (.t (.v (.int .i64 0))), (.t (.v (.int .i64 0))), (.t (.v (.int .i64 0)))] []),
    .d 3 (.alcA 1 5 [(.v (.int .i64 0))]),
    .s (.st 5 (.t 3) (.t 5))]) (
  .seq (.seq (.r [.d 4 (.mov (.i 0))]) (
  .nrm [2, 3] (.blk 0 (
  .loop [1, 2, 3, 4] b0_spec_Counts)))) (
  .seq (.r [.d 33 (.ld true 5 (.t 3)),
    .s (.st 5 (.t 2) (.t 33))]) (
  .retn [2]))))⟩

def fn_laws_toFleet : IFn := ⟨15, [.cell 2 true 3],
  .seq (.r [.d 1 (.box (.t 0)),
    .d 2 (.alc [(.nils 1), (.t (.v (.int .i64 0))), (.t (.v (.bool false)))])]) (
  .seq (.r [.d 3 (.alc [(.nils 1), (.t (.v (.int .i64 0))), (.t (.v (.bool false)))])]) (
  .seq (.r [.d 4 (.fa 0 (.t 1)),
    .d 5 (.ld false 1 (.t 4)),
    .d 6 (.call i_laws_toIntS [(false, (.t 5))]),
    .d 7 (.fa 0 (.t 3)),
    .s (.st 1 (.t 7) (.t 6))]) (
  .seq (.r [.d 8 (.fa 1 (.t 1)),
    .d 9 (.ld false 1 (.t 8)),
    .d 10 (.fa 1 (.t 3)),
    .s (.st 1 (.t 10) (.t 9))]) (
  .seq (.r [.d 11 (.fa 2 (.t 1)),
    .d 12 (.ld false 1 (.t 11)),
    .d 13 (.fa 2 (.t 3)),
    .s (.st 1 (.t 13) (.t 12))]) (
  .seq (.r [.d 14 (.ld true 3 (.t 3)),
    .s (.st 3 (.t 2) (.t 14))]) (
  .retn [2]))))))⟩

def b0_impl_Counts : IC :=
  .seq (.r [.d 11 (.bin .lss (.t 10) (.t 9))]) (
  .seq (.cond (.t 11) (.skip)
  (.exit 0)) (
  .seq (.blk 1 (
  .seq (.r [.d 12 (.ia none 1 (.t 8) (.t 10)),
     .d 13 (.ld false 1 (.t 12)),
     .d 5 (.mov (.t 13))]) (
   .seq (.r [.d 14 (.mov (.t 5)),
     .d 15 (.call i_impl_in [(false, (.t 14)), (false, (.i 0)), (false, (.i 4))])]) (
   .cond (.t 15) (.r [.d 16 (.mov (.t 5)),
      .d 17 (.ia (some 5) 1 (.t 3) (.t 16)),
      .d 18 (.ld false 1 (.t 17)),
      .d 19 (.bin .add (.t 18) (.i 1)),
      .d 20 (.ia (some 5) 1 (.t 3) (.t 16)),
      .s (.st 1 (.t 20) (.t 19))])
   (.skip))))) (
  .r [.d 21 (.bin .add (.t 10) (.i 1)),
    .d 10 (.mov (.t 21))])))
@[simp] def B0_impl_Counts := evS_eq b0_impl_Counts.eq_1
def fn_impl_Counts : IFn := ⟨23, [.cell 2 true 5],
  .seq (.r [.d 1 (.box (.t 0)),
    .d 2 (.alcA 1 5 [(.v (.int .i64 0))])]) (
  .seq (.r [.d 6 (.bld [(.t (.v (.int .i64 0))), (.t (.v (.int .i64 0))), (.t (.v (.int .i64 0))), (.t (.v (.int .i64 0))), (.t (.v (.int .i64 0)))] []),
    .d 3 (.alcA 1 5 [(.v (.int .i64 0))]),
    .s (.st 5 (.t 3) (.t 6))]) (
  .seq (.seq (.r [.d 7 (.fa 0 (.t 1)),
    .d 8 (.ld false 1 (.t 7)),
    .d 9 (.len (.t 8)),
    .d 10 (.mov (.i 0))]) (
  .nrm [2, 3] (.blk 0 (
  .loop [2, 3, 8, 9, 10] b0_impl_Counts)))) (
  .seq (.r [.d 22 (.ld true 5 (.t 3)),
    .s (.st 5 (.t 2) (.t 22))]) (
  .retn [2]))))⟩

def b0_laws_eqIntA5 : IC :=
  .seq (.seq (.r [.d 6 (.mov (.t 5)),
    .d 7 (.bin .lss (.t 6) (.i 5))]) (
  .cond (.t 7) (.skip)
  (.exit 0))) (
  .seq (.blk 1 (
  .seq (.q [] [.a 10 (.mov (.t 5)) [],
     .a 11 (.ia (some 5) 1 (.t 2) (.t 10)) [0],
     .a 12 (.ld false 1 (.t 11)) [1],
     .a 13 (.mov (.t 5)) [],
     .a 14 (.ia (some 5) 1 (.t 3) (.t 13)) [3],
     .a 15 (.ld false 1 (.t 14)) [4],
     .a 16 (.bin .neq (.t 12) (.t 15)) [2, 5]]) (
   .cond (.t 16) (.seq (.r [.d 4 (.mov (.b false))]) (
    .retn [4]))
   (.skip)))) (
  .r [.d 8 (.mov (.t 5)),
    .d 9 (.bin .add (.t 8) (.i 1)),
    .d 5 (.mov (.t 9))]))
@[simp] def B0_laws_eqIntA5 := evS_eq b0_laws_eqIntA5.eq_1
def fn_laws_eqIntA5 : IFn := ⟨17, [.tmp 4],
  .seq (.r [.d 2 (.boxA 1 (.t 0)),
    .d 3 (.boxA 1 (.t 1)),
    .d 4 (.mov (.b false))]) (
  .seq (.seq (.r [.d 5 (.mov (.i 0))]) (
  .nrm [] (.blk 0 (
  .loop [2, 3, 5] b0_laws_eqIntA5)))) (
  .seq (.r [.d 4 (.mov (.b true))]) (
  .retn [4])))⟩

def fn_laws_eqFleet : IFn := ⟨21, [.tmp 4],
  .seq (.r [.d 2 (.box (.t 0)),
    .d 3 (.box (.t 1)),
    .d 4 (.mov (.b false))]) (
  .seq (.seq (.r [.d 5 (.fa 0 (.t 2)),
    .d 6 (.ld false 1 (.t 5)),
    .d 7 (.fa 0 (.t 3)),
    .d 8 (.ld false 1 (.t 7)),
    .d 9 (.call i_laws_eqIntS [(false, (.t 6)), (false, (.t 8))]),
    .d 10 (.un .not (.t 9))]) (
  .cond (.t 10) (.seq (.r [.d 4 (.mov (.b false))]) (
   .retn [4]))
  (.skip))) (
  .seq (.seq (.r [.d 11 (.fa 1 (.t 2)),
    .d 12 (.ld false 1 (.t 11)),
    .d 13 (.fa 1 (.t 3)),
    .d 14 (.ld false 1 (.t 13)),
    .d 15 (.bin .neq (.t 12) (.t 14))]) (
  .cond (.t 15) (.seq (.r [.d 4 (.mov (.b false))]) (
   .retn [4]))
  (.skip))) (
  .seq (.seq (.r [.d 16 (.fa 2 (.t 2)),
    .d 17 (.ld false 1 (.t 16)),
    .d 18 (.fa 2 (.t 3)),
    .d 19 (.ld false 1 (.t 18)),
    .d 20 (.eqb true (.t 17) (.t 19))]) (
  .cond (.t 20) (.seq (.r [.d 4 (.mov (.b false))]) (
   .retn [4]))
  (.skip))) (
  .seq (.r [.d 4 (.mov (.b true))]) (
  .retn [4])))))⟩

def fn_spec_Due : IFn := ⟨32, [.tmp 6],
  .seq (.r [.d 3 (.box (.t 0)),
    .d 6 (.mov (.i 0))]) (
  .seq (.seq (.r [.d 7 (.ld true 2 (.t 3)),
    .d 8 (.call i_spec_RolloutOk [(false, (.t 7))]),
    .d 9 (.un .not (.t 8)),
    .d 10 (.mov (.t 9)),
    .g 11 10 false (.mov (.t 1)),
    .g 12 10 false (.call i_spec_l1In [(false, (.t 11)), (false, (.i 0)), (false, (.i 60))]),
    .g 13 10 false (.un .not (.t 12)),
    .d 14 (.pick (.t 10) (.b true) (.t 13)),
    .d 15 (.mov (.t 14)),
    .g 16 15 false (.mov (.t 2)),
    .g 17 15 false (.fa 0 (.t 3)),
    .g 18 15 false (.ld false 1 (.t 17)),
    .g 19 15 false (.len (.t 18)),
    .g 20 15 false (.bin .sub (.t 19) (.i 1)),
    .g 21 15 false (.call i_spec_l1In [(false, (.t 16)), (false, (.i 0)), (false, (.t 20))]),
    .g 22 15 false (.un .not (.t 21)),
    .d 23 (.pick (.t 15) (.b true) (.t 22))]) (
  .cond (.t 23) (.seq (.r [.d 6 (.mov (.i 0))]) (
   .retn [6]))
  (.skip))) (
  .seq (.r [.d 24 (.mov (.t 1)),
    .d 25 (.fa 0 (.t 3)),
    .d 26 (.ld false 1 (.t 25)),
    .d 27 (.mov (.t 2)),
    .d 28 (.ia none 1 (.t 26) (.t 27)),
    .d 29 (.ld false 1 (.t 28)),
    .d 30 (.bin .mul (.t 24) (.t 29)),
    .d 31 (.bin .quo (.t 30) (.i 100)),
    .d 6 (.mov (.t 31))]) (
  .retn [6])))⟩

def fn_impl_Due : IFn := ⟨32, [.tmp 6],
  .seq (.r [.d 3 (.box (.t 0)),
    .d 6 (.mov (.i 0))]) (
  .seq (.seq (.r [.d 7 (.ld true 2 (.t 3)),
    .d 8 (.call i_impl_isRollout [(false, (.t 7))]),
    .d 9 (.un .not (.t 8)),
    .d 10 (.mov (.t 9)),
    .g 11 10 false (.mov (.t 1)),
    .g 12 10 false (.call i_impl_in [(false, (.t 11)), (false, (.i 0)), (false, (.i 60))]),
    .g 13 10 false (.un .not (.t 12)),
    .d 14 (.pick (.t 10) (.b true) (.t 13)),
    .d 15 (.mov (.t 14)),
    .g 16 15 false (.mov (.t 2)),
    .g 17 15 false (.fa 0 (.t 3)),
    .g 18 15 false (.ld false 1 (.t 17)),
    .g 19 15 false (.len (.t 18)),
    .g 20 15 false (.bin .sub (.t 19) (.i 1)),
    .g 21 15 false (.call i_impl_in [(false, (.t 16)), (false, (.i 0)), (false, (.t 20))]),
    .g 22 15 false (.un .not (.t 21)),
    .d 23 (.pick (.t 15) (.b true) (.t 22))]) (
  .cond (.t 23) (.seq (.r [.d 6 (.mov (.i 0))]) (
   .retn [6]))
  (.skip))) (
  .seq (.r [.d 24 (.mov (.t 1)),
    .d 25 (.fa 0 (.t 3)),
    .d 26 (.ld false 1 (.t 25)),
    .d 27 (.mov (.t 2)),
    .d 28 (.ia none 1 (.t 26) (.t 27)),
    .d 29 (.ld false 1 (.t 28)),
    .d 30 (.bin .mul (.t 24) (.t 29)),
    .d 31 (.bin .quo (.t 30) (.i 100)),
    .d 6 (.mov (.t 31))]) (
  .retn [6])))⟩

def fn_spec_l1In : IFn := ⟨15, [.tmp 6],
  .seq (.r [.d 6 (.mov (.b false))]) (
  .seq (.r [.d 7 (.mov (.t 0)),
    .d 8 (.mov (.t 1)),
    .d 9 (.bin .geq (.t 7) (.t 8)),
    .d 10 (.mov (.t 9)),
    .g 11 10 true (.mov (.t 0)),
    .g 12 10 true (.mov (.t 2)),
    .g 13 10 true (.bin .leq (.t 11) (.t 12)),
    .d 14 (.pick (.t 10) (.t 13) (.b false)),
    .d 6 (.mov (.t 14))]) (
  .retn [6]))⟩

def fn_impl_isSupply : IFn := ⟨18, [.tmp 2],
  .seq (.r [.d 1 (.box (.t 0)),
    .d 2 (.mov (.b false))]) (
  .seq (.r [.d 3 (.fa 1 (.t 1)),
    .d 4 (.ld false 1 (.t 3)),
    .d 5 (.call i_impl_in [(false, (.t 4)), (false, (.i 0)), (false, (.i 100000))]),
    .d 6 (.mov (.t 5)),
    .g 7 6 true (.fa 0 (.t 1)),
    .g 8 6 true (.ld false 1 (.t 7)),
    .g 9 6 true (.fa 1 (.t 1)),
    .g 10 6 true (.ld false 1 (.t 9)),
    .g 11 6 true (.call i_impl_in [(false, (.t 8)), (false, (.i 0)), (false, (.t 10))]),
    .d 12 (.pick (.t 6) (.t 11) (.b false)),
    .d 13 (.mov (.t 12)),
    .g 14 13 true (.fa 2 (.t 1)),
    .g 15 13 true (.ld false 1 (.t 14)),
    .g 16 13 true (.call i_impl_in [(false, (.t 15)), (false, (.i 0)), (false, (.i 100000))]),
    .d 17 (.pick (.t 13) (.t 16) (.b false)),
    .d 2 (.mov (.t 17))]) (
  .retn [2]))⟩

def fn_impl_in : IFn := ⟨15, [.tmp 6],
  .seq (.r [.d 6 (.mov (.b false))]) (
  .seq (.r [.d 7 (.mov (.t 0)),
    .d 8 (.mov (.t 1)),
    .d 9 (.bin .geq (.t 7) (.t 8)),
    .d 10 (.mov (.t 9)),
    .g 11 10 true (.mov (.t 0)),
    .g 12 10 true (.mov (.t 2)),
    .g 13 10 true (.bin .leq (.t 11) (.t 12)),
    .d 14 (.pick (.t 10) (.t 13) (.b false)),
    .d 6 (.mov (.t 14))]) (
  .retn [6]))⟩

def fn_spec_l4Min : IFn := ⟨10, [.tmp 4],
  .seq (.r [.d 4 (.mov (.i 0))]) (
  .seq (.seq (.r [.d 5 (.mov (.t 0)),
    .d 6 (.mov (.t 1)),
    .d 7 (.bin .lss (.t 5) (.t 6))]) (
  .cond (.t 7) (.seq (.r [.d 8 (.mov (.t 0)),
     .d 4 (.mov (.t 8))]) (
   .retn [4]))
  (.skip))) (
  .seq (.r [.d 9 (.mov (.t 1)),
    .d 4 (.mov (.t 9))]) (
  .retn [4])))⟩

def fn_impl_rested : IFn := ⟨21, [.cell 4 true 3],
  .seq (.r [.d 2 (.box (.t 0)),
    .d 4 (.alc [(.t (.v (.int .i64 0))), (.t (.v (.int .i64 0))), (.t (.v (.int .i64 0)))])]) (
  .seq (.seq (.r [.d 5 (.fa 2 (.t 2)),
    .d 6 (.ld false 1 (.t 5)),
    .d 7 (.bin .gtr (.t 6) (.i 0))]) (
  .cond (.t 7) (.r [.d 8 (.fa 1 (.t 2)),
     .d 9 (.ld false 1 (.t 8)),
     .d 10 (.fa 0 (.t 2)),
     .d 11 (.ld false 1 (.t 10)),
     .d 12 (.fa 2 (.t 2)),
     .d 13 (.ld false 1 (.t 12)),
     .d 14 (.mov (.t 1)),
     .d 15 (.mnx false (.t 14) (.i 100000)),
     .d 16 (.bin .mul (.t 13) (.t 15)),
     .d 17 (.bin .add (.t 11) (.t 16)),
     .d 18 (.mnx false (.t 9) (.t 17)),
     .d 19 (.fa 0 (.t 2)),
     .s (.st 1 (.t 19) (.t 18))])
  (.skip))) (
  .seq (.r [.d 20 (.ld true 3 (.t 2)),
    .s (.st 3 (.t 4) (.t 20))]) (
  .retn [4])))⟩

def fn_laws_szIntS : IFn := ⟨12, [.tmp 4],
  .seq (.r [.d 4 (.mov (.i 0))]) (
  .seq (.r [.d 5 (.mov (.t 1)),
    .d 6 (.mov (.t 0)),
    .d 7 (.len (.t 6)),
    .d 8 (.bin .sub (.t 5) (.t 7)),
    .d 1 (.mov (.t 8))]) (
  .seq (.seq (.r [.d 9 (.mov (.t 1)),
    .d 10 (.bin .lss (.t 9) (.i 0))]) (
  .cond (.t 10) (.seq (.r [.d 4 (.mov (.i (-1)))]) (
   .retn [4]))
  (.skip))) (
  .seq (.r [.d 11 (.mov (.t 1)),
    .d 4 (.mov (.t 11))]) (
  .retn [4]))))⟩

def b0_laws_toIntS : IC :=
  .seq (.seq (.r [.d 8 (.mov (.t 4)),
    .d 9 (.mov (.t 0)),
    .d 10 (.len (.t 9)),
    .d 11 (.bin .lss (.t 8) (.t 10))]) (
  .cond (.t 11) (.skip)
  (.exit 0))) (
  .seq (.blk 1 (
  .r [.d 14 (.mov (.t 3)),
     .d 15 (.mov (.t 4)),
     .d 16 (.mov (.t 0)),
     .d 17 (.mov (.t 4)),
     .d 18 (.ia none 1 (.t 16) (.t 17)),
     .d 19 (.ld false 1 (.t 18)),
     .d 20 (.ia none 1 (.t 14) (.t 15)),
     .s (.st 1 (.t 20) (.t 19))])) (
  .r [.d 12 (.mov (.t 4)),
    .d 13 (.bin .add (.t 12) (.i 1)),
    .d 4 (.mov (.t 13))]))
@[simp] def B0_laws_toIntS := evS_eq b0_laws_toIntS.eq_1
def fn_laws_toIntS : IFn := ⟨22, [.tmp 2],
  .seq (.r [.d 2 (.mov (.c (.one (.nils 1))))]) (
  .seq (.r [.d 5 (.mov (.t 0)),
    .d 6 (.len (.t 5)),
    .d 7 (.ms 1 [(.v (.int .i64 0))] (.t 6) (.t 6)),
    .d 3 (.mov (.t 7))]) (
  .seq (.seq (.r [.d 4 (.mov (.i 0))]) (
  .nrm [3] (.blk 0 (
  .loop [0, 3, 4] b0_laws_toIntS)))) (
  .seq (.r [.d 21 (.mov (.t 3)),
    .d 2 (.mov (.t 21))]) (
  .retn [2]))))⟩

def b0_impl_isRollout : IC :=
  .seq (.r [.d 20 (.bin .lss (.t 19) (.t 18))]) (
  .seq (.cond (.t 20) (.skip)
  (.exit 0)) (
  .seq (.blk 1 (
  .seq (.r [.d 21 (.mov (.t 19)),
     .d 22 (.ia none 1 (.t 17) (.t 19)),
     .d 23 (.ld false 1 (.t 22)),
     .d 3 (.mov (.t 21)),
     .d 4 (.mov (.t 23))]) (
   .seq (.r [.d 24 (.mov (.t 4)),
     .d 25 (.call i_impl_in [(false, (.t 24)), (false, (.i 1)), (false, (.i 100))]),
     .d 26 (.un .not (.t 25)),
     .d 27 (.mov (.t 26)),
     .g 28 27 false (.mov (.t 3)),
     .g 29 27 false (.bin .gtr (.t 28) (.i 0)),
     .g 30 27 false (.mov (.t 29)),
     .g 31 30 true (.mov (.t 4)),
     .g 32 30 true (.fa 0 (.t 1)),
     .g 33 30 true (.ld false 1 (.t 32)),
     .g 34 30 true (.mov (.t 3)),
     .g 35 30 true (.bin .sub (.t 34) (.i 1)),
     .g 36 30 true (.ia none 1 (.t 33) (.t 35)),
     .g 37 30 true (.ld false 1 (.t 36)),
     .g 38 30 true (.bin .leq (.t 31) (.t 37)),
     .g 39 27 false (.pick (.t 30) (.t 38) (.b false)),
     .d 40 (.pick (.t 27) (.b true) (.t 39))]) (
   .cond (.t 40) (.seq (.r [.d 2 (.mov (.b false))]) (
    .retn [2]))
   (.skip))))) (
  .r [.d 41 (.bin .add (.t 19) (.i 1)),
    .d 19 (.mov (.t 41))])))
@[simp] def B0_impl_isRollout := evS_eq b0_impl_isRollout.eq_1
def fn_impl_isRollout : IFn := ⟨42, [.tmp 2],
  .seq (.r [.d 1 (.box (.t 0)),
    .d 2 (.mov (.b false))]) (
  .seq (.seq (.r [.d 5 (.fa 0 (.t 1)),
    .d 6 (.ld false 1 (.t 5)),
    .d 7 (.len (.t 6)),
    .d 8 (.call i_impl_in [(false, (.t 7)), (false, (.i 1)), (false, (.i 6))]),
    .d 9 (.un .not (.t 8)),
    .d 10 (.mov (.t 9)),
    .g 11 10 false (.fa 1 (.t 1)),
    .g 12 10 false (.ld false 1 (.t 11)),
    .g 13 10 false (.call i_impl_in [(false, (.t 12)), (false, (.i 0)), (false, (.i 100))]),
    .g 14 10 false (.un .not (.t 13)),
    .d 15 (.pick (.t 10) (.b true) (.t 14))]) (
  .cond (.t 15) (.seq (.r [.d 2 (.mov (.b false))]) (
   .retn [2]))
  (.skip))) (
  .seq (.seq (.r [.d 16 (.fa 0 (.t 1)),
    .d 17 (.ld false 1 (.t 16)),
    .d 18 (.len (.t 17)),
    .d 19 (.mov (.i 0))]) (
  .nrm [] (.blk 0 (
  .loop [1, 17, 18, 19] b0_impl_isRollout)))) (
  .seq (.r [.d 2 (.mov (.b true))]) (
  .retn [2]))))⟩

def b0_laws_eqIntS : IC :=
  .seq (.seq (.r [.d 11 (.mov (.t 5)),
    .d 12 (.mov (.t 0)),
    .d 13 (.len (.t 12)),
    .d 14 (.bin .lss (.t 11) (.t 13))]) (
  .cond (.t 14) (.skip)
  (.exit 0))) (
  .seq (.blk 1 (
  .seq (.q [] [.a 17 (.mov (.t 0)) [],
     .a 18 (.mov (.t 5)) [],
     .a 19 (.ia none 1 (.t 17) (.t 18)) [0, 1],
     .a 20 (.ld false 1 (.t 19)) [2],
     .a 21 (.mov (.t 1)) [],
     .a 22 (.mov (.t 5)) [],
     .a 23 (.ia none 1 (.t 21) (.t 22)) [4, 5],
     .a 24 (.ld false 1 (.t 23)) [6],
     .a 25 (.bin .neq (.t 20) (.t 24)) [3, 7]]) (
   .cond (.t 25) (.seq (.r [.d 4 (.mov (.b false))]) (
    .retn [4]))
   (.skip)))) (
  .r [.d 15 (.mov (.t 5)),
    .d 16 (.bin .add (.t 15) (.i 1)),
    .d 5 (.mov (.t 16))]))
@[simp] def B0_laws_eqIntS := evS_eq b0_laws_eqIntS.eq_1
def fn_laws_eqIntS : IFn := ⟨26, [.tmp 4],
  .seq (.r [.d 4 (.mov (.b false))]) (
  .seq (.seq (.r [.d 6 (.mov (.t 0)),
    .d 7 (.len (.t 6)),
    .d 8 (.mov (.t 1)),
    .d 9 (.len (.t 8)),
    .d 10 (.bin .neq (.t 7) (.t 9))]) (
  .cond (.t 10) (.seq (.r [.d 4 (.mov (.b false))]) (
   .retn [4]))
  (.skip))) (
  .seq (.seq (.r [.d 5 (.mov (.i 0))]) (
  .nrm [] (.blk 0 (
  .loop [0, 1, 5] b0_laws_eqIntS)))) (
  .seq (.r [.d 4 (.mov (.b true))]) (
  .retn [4]))))⟩

def fnL : List (Nat × IFn) := [(i_gosem_cut_init, fn_gosem_cut_init),
  (i_laws_FnExactSupplyOk, fn_laws_FnExactSupplyOk),
  (i_laws_FnExactSpend, fn_laws_FnExactSpend),
  (i_laws_FnExactRested, fn_laws_FnExactRested),
  (i_laws_FnExactRolloutOk, fn_laws_FnExactRolloutOk),
  (i_laws_FnExactCounts, fn_laws_FnExactCounts),
  (i_laws_FnExactDue, fn_laws_FnExactDue),
  (i_spec_SupplyOk, fn_spec_SupplyOk),
  (i_laws_toSupply, fn_laws_toSupply),
  (i_impl_SupplyOk, fn_impl_SupplyOk),
  (i_spec_Spend, fn_spec_Spend),
  (i_impl_Spend, fn_impl_Spend),
  (i_laws_eqSupply, fn_laws_eqSupply),
  (i_spec_Rested, fn_spec_Rested),
  (i_impl_Rested, fn_impl_Rested),
  (i_laws_szRollout, fn_laws_szRollout),
  (i_spec_RolloutOk, fn_spec_RolloutOk),
  (i_laws_toRollout, fn_laws_toRollout),
  (i_impl_RolloutOk, fn_impl_RolloutOk),
  (i_laws_eqRollout, fn_laws_eqRollout),
  (i_laws_szFleet, fn_laws_szFleet),
  (i_spec_Counts, fn_spec_Counts),
  (i_laws_toFleet, fn_laws_toFleet),
  (i_impl_Counts, fn_impl_Counts),
  (i_laws_eqIntA5, fn_laws_eqIntA5),
  (i_laws_eqFleet, fn_laws_eqFleet),
  (i_spec_Due, fn_spec_Due),
  (i_impl_Due, fn_impl_Due),
  (i_spec_l1In, fn_spec_l1In),
  (i_impl_isSupply, fn_impl_isSupply),
  (i_impl_in, fn_impl_in),
  (i_spec_l4Min, fn_spec_l4Min),
  (i_impl_rested, fn_impl_rested),
  (i_laws_szIntS, fn_laws_szIntS),
  (i_laws_toIntS, fn_laws_toIntS),
  (i_impl_isRollout, fn_impl_isRollout),
  (i_laws_eqIntS, fn_laws_eqIntS)]
def tab : Tab := ⟨fun f => fnL.lookup f, fun _ => none⟩
theorem allOk : fnL.all (fun p => okIFn Try.prog p.1 p.2) = true := by kernel_rfl
theorem L_gosem_cut_init : tab.fns i_gosem_cut_init = some fn_gosem_cut_init := rfl
theorem L_laws_FnExactSupplyOk : tab.fns i_laws_FnExactSupplyOk = some fn_laws_FnExactSupplyOk := rfl
theorem L_laws_FnExactSpend : tab.fns i_laws_FnExactSpend = some fn_laws_FnExactSpend := rfl
theorem L_laws_FnExactRested : tab.fns i_laws_FnExactRested = some fn_laws_FnExactRested := rfl
theorem L_laws_FnExactRolloutOk : tab.fns i_laws_FnExactRolloutOk = some fn_laws_FnExactRolloutOk := rfl
theorem L_laws_FnExactCounts : tab.fns i_laws_FnExactCounts = some fn_laws_FnExactCounts := rfl
theorem L_laws_FnExactDue : tab.fns i_laws_FnExactDue = some fn_laws_FnExactDue := rfl
theorem L_spec_SupplyOk : tab.fns i_spec_SupplyOk = some fn_spec_SupplyOk := rfl
theorem L_laws_toSupply : tab.fns i_laws_toSupply = some fn_laws_toSupply := rfl
theorem L_impl_SupplyOk : tab.fns i_impl_SupplyOk = some fn_impl_SupplyOk := rfl
theorem L_spec_Spend : tab.fns i_spec_Spend = some fn_spec_Spend := rfl
theorem L_impl_Spend : tab.fns i_impl_Spend = some fn_impl_Spend := rfl
theorem L_laws_eqSupply : tab.fns i_laws_eqSupply = some fn_laws_eqSupply := rfl
theorem L_spec_Rested : tab.fns i_spec_Rested = some fn_spec_Rested := rfl
theorem L_impl_Rested : tab.fns i_impl_Rested = some fn_impl_Rested := rfl
theorem L_laws_szRollout : tab.fns i_laws_szRollout = some fn_laws_szRollout := rfl
theorem L_spec_RolloutOk : tab.fns i_spec_RolloutOk = some fn_spec_RolloutOk := rfl
theorem L_laws_toRollout : tab.fns i_laws_toRollout = some fn_laws_toRollout := rfl
theorem L_impl_RolloutOk : tab.fns i_impl_RolloutOk = some fn_impl_RolloutOk := rfl
theorem L_laws_eqRollout : tab.fns i_laws_eqRollout = some fn_laws_eqRollout := rfl
theorem L_laws_szFleet : tab.fns i_laws_szFleet = some fn_laws_szFleet := rfl
theorem L_spec_Counts : tab.fns i_spec_Counts = some fn_spec_Counts := rfl
theorem L_laws_toFleet : tab.fns i_laws_toFleet = some fn_laws_toFleet := rfl
theorem L_impl_Counts : tab.fns i_impl_Counts = some fn_impl_Counts := rfl
theorem L_laws_eqIntA5 : tab.fns i_laws_eqIntA5 = some fn_laws_eqIntA5 := rfl
theorem L_laws_eqFleet : tab.fns i_laws_eqFleet = some fn_laws_eqFleet := rfl
theorem L_spec_Due : tab.fns i_spec_Due = some fn_spec_Due := rfl
theorem L_impl_Due : tab.fns i_impl_Due = some fn_impl_Due := rfl
theorem L_spec_l1In : tab.fns i_spec_l1In = some fn_spec_l1In := rfl
theorem L_impl_isSupply : tab.fns i_impl_isSupply = some fn_impl_isSupply := rfl
theorem L_impl_in : tab.fns i_impl_in = some fn_impl_in := rfl
theorem L_spec_l4Min : tab.fns i_spec_l4Min = some fn_spec_l4Min := rfl
theorem L_impl_rested : tab.fns i_impl_rested = some fn_impl_rested := rfl
theorem L_laws_szIntS : tab.fns i_laws_szIntS = some fn_laws_szIntS := rfl
theorem L_laws_toIntS : tab.fns i_laws_toIntS = some fn_laws_toIntS := rfl
theorem L_impl_isRollout : tab.fns i_impl_isRollout = some fn_impl_isRollout := rfl
theorem L_laws_eqIntS : tab.fns i_laws_eqIntS = some fn_laws_eqIntS := rfl
end Go.Pur
