/- MADE BY mkf.py: for each Go function its shallow text, definitionally the evaluator's reading of its code. -/
import Derived.Test.YtpooknfdodimdaaGreatDoorAl16
import Derived.Test.YtpooknfdodimdaaGreatDoorProg
import Derived.KernelRfl
set_option linter.unusedVariables false
set_option maxRecDepth 100000
namespace Go.Al
open Go.Proofs
noncomputable abbrev PP : Program := Tryz.prog
namespace N
abbrev main_main : Nat := 0
abbrev gosem_cut : Nat := 1
abbrev gosem_cut_init : Nat := 2
abbrev laws_FnExactReadObject : Nat := 3
abbrev spec_ReadObject : Nat := 4
abbrev laws_toByteS : Nat := 5
abbrev impl_ReadObject : Nat := 6
abbrev laws_eqObject : Nat := 7
abbrev laws_eqByteS : Nat := 8
abbrev laws_markByteS : Nat := 9
abbrev laws_markObject : Nat := 10
abbrev laws_heldObject : Nat := 11
abbrev spec_l04Read : Nat := 12
abbrev impl_isShort_byte : Nat := 13
abbrev impl_readObject : Nat := 14
abbrev laws_eqNeedS : Nat := 15
abbrev laws_eqGlobalS : Nat := 16
abbrev laws_eqCodeS : Nat := 17
abbrev laws_markNeedS : Nat := 18
abbrev laws_markGlobalS : Nat := 19
abbrev laws_markCodeS : Nat := 20
abbrev laws_heldNeedS : Nat := 21
abbrev laws_heldGlobalS : Nat := 22
abbrev laws_heldCodeS : Nat := 23
abbrev spec_l03Reader_text : Nat := 24
abbrev spec_l03Reader_eight : Nat := 25
abbrev spec_l03Reader_one : Nat := 26
abbrev spec_ObjectOK : Nat := 27
abbrev impl_reader_head : Nat := 28
abbrev impl_reader_text : Nat := 29
abbrev impl_reader_number : Nat := 30
abbrev impl_reader_code : Nat := 31
abbrev impl_reader_ends : Nat := 32
abbrev impl_ObjectOK : Nat := 33
abbrev laws_eqNeed : Nat := 34
abbrev laws_eqGlobal : Nat := 35
abbrev laws_eqCode : Nat := 36
abbrev laws_markText : Nat := 37
abbrev laws_markInsS : Nat := 38
abbrev laws_heldInsS : Nat := 39
abbrev spec_l02Name : Nat := 40
abbrev spec_l01In : Nat := 41
abbrev spec_l01Place : Nat := 42
abbrev spec_l04Verify : Nat := 43
abbrev impl_reader_take : Nat := 44
abbrev impl_hasPlace : Nat := 45
abbrev impl_isName : Nat := 46
abbrev impl_isPrint : Nat := 47
abbrev impl_within : Nat := 48
abbrev impl_Code_verifies : Nat := 49
abbrev impl_areDifferent : Nat := 50
abbrev impl_areAll_impl_Need : Nat := 51
abbrev impl_ObjectOK_1 : Nat := 52
abbrev laws_eqInsS : Nat := 53
abbrev spec_NameOK : Nat := 54
abbrev spec_IsKey : Nat := 55
abbrev spec_l04Ins : Nat := 56
abbrev spec_l04Effect : Nat := 57
abbrev impl_NameOK : Nat := 58
abbrev impl_IsKey : Nat := 59
abbrev impl_Code_verify : Nat := 60
abbrev slices_Compact_string_string : Nat := 61
abbrev slices_Sorted_string : Nat := 62
abbrev slices_Values_string_string : Nat := 63
abbrev slices_ContainsFunc_impl_Need_impl_Need : Nat := 64
abbrev impl_areAll_impl_Need_1 : Nat := 65
abbrev laws_eqIns : Nat := 66
abbrev spec_l00Word : Nat := 67
abbrev spec_l01Keys : Nat := 68
abbrev spec_l04Signs : Nat := 69
abbrev impl_isLetter : Nat := 70
abbrev impl_areAll_byte : Nat := 71
abbrev impl_isWordByte : Nat := 72
abbrev slices_Contains_string_string : Nat := 73
abbrev impl_keys : Nat := 74
abbrev slices_IndexFunc_impl_Ins_impl_Ins : Nat := 75
abbrev impl_Code_verify_1 : Nat := 76
abbrev impl_Code_isIns : Nat := 77
abbrev impl_Code_flow : Nat := 78
abbrev slices_Collect_string : Nat := 79
abbrev slices_Sort_string_string : Nat := 80
abbrev slices_Values_string_string_1 : Nat := 81
abbrev slices_IndexFunc_impl_Need_impl_Need : Nat := 82
abbrev spec_l00Letter : Nat := 83
abbrev spec_l00Digit : Nat := 84
abbrev slices_ContainsFunc_byte_byte : Nat := 85
abbrev impl_areAll_byte_1 : Nat := 86
abbrev impl_isDigit : Nat := 87
abbrev slices_Index_string_string : Nat := 88
abbrev strings_Fields : Nat := 89
abbrev impl_works : Nat := 90
abbrev impl_isType : Nat := 91
abbrev slices_Repeat_int_int : Nat := 92
abbrev impl_Code_reach : Nat := 93
abbrev slices_AppendSeq_string_string : Nat := 94
abbrev slices_pdqsortOrdered_string : Nat := 95
abbrev math_bits_Len : Nat := 96
abbrev slices_IndexFunc_byte_byte : Nat := 97
abbrev strings_FieldsFunc : Nat := 98
abbrev unicode_IsSpace : Nat := 99
abbrev math_bits_Mul : Nat := 100
abbrev impl_Ins_stacks : Nat := 101
abbrev impl_Ins_follows : Nat := 102
abbrev slices_insertionSortOrdered_string : Nat := 103
abbrev slices_heapSortOrdered_string : Nat := 104
abbrev slices_breakPatternsOrdered_string : Nat := 105
abbrev slices_choosePivotOrdered_string : Nat := 106
abbrev slices_reverseRangeOrdered_string : Nat := 107
abbrev slices_partialInsertionSortOrdered_string : Nat := 108
abbrev cmp_Less_string : Nat := 109
abbrev slices_partitionEqualOrdered_string : Nat := 110
abbrev slices_partitionOrdered_string : Nat := 111
abbrev math_bits_Len32 : Nat := 112
abbrev math_bits_Len64 : Nat := 113
abbrev unicode_isExcludingLatin : Nat := 114
abbrev math_bits_Mul32 : Nat := 115
abbrev math_bits_Mul64 : Nat := 116
abbrev slices_siftDownOrdered_string : Nat := 117
abbrev slices_nextPowerOfTwo : Nat := 118
abbrev slices_xorshift_Next : Nat := 119
abbrev slices_medianAdjacentOrdered_string : Nat := 120
abbrev slices_medianOrdered_string : Nat := 121
abbrev cmp_isNaN_string : Nat := 122
abbrev unicode_is16 : Nat := 123
abbrev unicode_is32 : Nat := 124
abbrev slices_order2Ordered_string : Nat := 125
abbrev runtime_boundsError_Error : Nat := 126
abbrev runtime_boundsError_RuntimeError : Nat := 127
abbrev runtime_errorString_Error : Nat := 128
abbrev runtime_errorString_RuntimeError : Nat := 129
abbrev runtime_plainError_Error : Nat := 130
abbrev runtime_plainError_RuntimeError : Nat := 131
abbrev runtime_errorAddressString_Error : Nat := 132
abbrev runtime_errorAddressString_RuntimeError : Nat := 133
abbrev runtime_TypeAssertionError_Error : Nat := 134
abbrev runtime_TypeAssertionError_RuntimeError : Nat := 135
abbrev runtime_PanicNilError_Error : Nat := 136
abbrev runtime_PanicNilError_RuntimeError : Nat := 137
abbrev internal_abi_Type_Align : Nat := 138
abbrev internal_runtime_maps_unhashableTypeError_Error : Nat := 139
abbrev internal_runtime_maps_unhashableTypeError_RuntimeError : Nat := 140
abbrev impl_Object_bytes : Nat := 141
abbrev impl_Code_bytes : Nat := 142
abbrev impl_Ins_listed : Nat := 143
abbrev internal_abi_Kind_String : Nat := 144
abbrev var_s_door_unicode_White_Space_holds_what_its_initialiser_lays_and_nothing_in_the_loaded_text_writes_it_or_what_it_leads_to_look_11_elder : Nat := 145
abbrev var_s_door_unicode__White_Space_holds_what_its_initialiser_lays_and_nothing_in_the_loaded_text_writes_it_or_what_it_leads_to_look_11_elder : Nat := 146
abbrev var_s_door_gosem_cut_vars_holds_initialisers_alone_see_the_manifest_s_row_cutvarsword_look_11_test_files_too : Nat := 147
abbrev var_s_door_strings_asciiSpace_is_laid_by_its_own_initialiser_plain_data_look_11 : Nat := 148
abbrev var_s_door_the_look_of_gosem_cut_vars_went_over_the_folder_that_the_caller_named_as_the_repository_s_root_look_11 : Nat := 149
abbrev var_s_door_unicode_White_Space_is_laid_by_its_own_initialiser_on_the_list_of_Go_s_own_tables_list_10 : Nat := 150
abbrev var_s_door_unicode__White_Space_is_laid_by_its_own_initialiser_on_the_list_of_Go_s_own_tables_list_10 : Nat := 151
abbrev gosem_cut_vars : Nat := 152
end N
theorem mixed : PP.follows .mixedOrders = true := by kernel_rfl
theorem u_bool : PP.underlying 4 = some .bool := by kernel_rfl
def F.laws_FnExactReadObject (G : Seal) (a0 : AV) (K : KAV) (s0 : AHeap) : Prop :=
JOIN (fun k1 =>
LENL a0 s0 fun v4 s5 =>
BIN PP .gtr 3 v4 (I 1048576) s5 fun v6 s7 =>
IFB v6 (K (Bo true) s7) (k1 [Bo false, v6] s7)) fun xs2 s3 =>
ACalls PP G N.laws_toByteS [a0] s3 fun v8 s9 =>
ACalls PP G N.spec_ReadObject [v8] s9 fun v10 s11 =>
TUP v10 0 s11 fun v12 s13 =>
TUP v10 1 s13 fun v14 s15 =>
NEW [St (bs []), I 0, .nl, .nl, .nl] s15 fun w0_16 s17 =>
STORE 5 w0_16 v12 s17 fun u18 s19 =>
ACalls PP G N.laws_toByteS [a0] s19 fun v20 s21 =>
ACalls PP G N.impl_ReadObject [v20] s21 fun v22 s23 =>
TUP v22 0 s23 fun v24 s25 =>
TUP v22 1 s25 fun v26 s27 =>
NEW [St (bs []), I 0, .nl, .nl, .nl] s27 fun g0_28 s29 =>
STORE 5 g0_28 v24 s29 fun u30 s31 =>
JOIN (fun k32 =>
LOAD (.agg 5) g0_28 s31 fun v35 s36 =>
LOAD (.agg 5) w0_16 s36 fun v37 s38 =>
ACalls PP G N.laws_eqObject [v35, v37] s38 fun v39 s40 =>
UN PP .not v39 s40 fun v41 s42 =>
JOIN (fun k43 => IFG false v41 (BIN PP .neq 3 v26 v14 s42 fun v46 s47 =>
k43 [v26, v14, v46] s47) (k43 [U, U, U] s42)) fun xs44 s45 =>
PICK v41 (Bo true) (nth xs44 2) s45 fun v48 s49 =>
IFB v48 (K (Bo false) s49) (k32 [nth xs2 0, v48] s49)) fun xs33 s34 =>
JOIN (fun k50 =>
ACalls PP G N.laws_toByteS [a0] s34 fun v53 s54 =>
ACalls PP G N.laws_eqByteS [v20, v53] s54 fun v55 s56 =>
UN PP .not v55 s56 fun v57 s58 =>
IFB v57 (K (Bo false) s58) (k50 [nth xs33 0, v57] s58)) fun xs51 s52 =>
ACalls PP G N.laws_markByteS [v20, I 1] s52 fun v59 s60 =>
JOIN (fun k61 =>
BIN PP .lss 3 v59 (I 0) s60 fun v64 s65 =>
JOIN (fun k66 => IFG false v64 (LOAD (.agg 5) g0_28 s65 fun v69 s70 =>
LOAD (.agg 5) w0_16 s70 fun v71 s72 =>
ACalls PP G N.laws_eqObject [v69, v71] s72 fun v73 s74 =>
UN PP .not v73 s74 fun v75 s76 =>
k66 [v69, v71, v73, v75] s76) (k66 [U, U, U, U] s65)) fun xs67 s68 =>
PICK v64 (Bo true) (nth xs67 3) s68 fun v77 s78 =>
JOIN (fun k79 => IFG false v77 (BIN PP .neq 3 v26 v14 s78 fun v82 s83 =>
k79 [v26, v14, v82] s83) (k79 [U, U, U] s78)) fun xs80 s81 =>
PICK v77 (Bo true) (nth xs80 2) s81 fun v84 s85 =>
IFB v84 (K (Bo false) s85) (k61 [nth xs51 0, v84] s85)) fun xs62 s63 =>
LOAD (.agg 5) g0_28 s63 fun v86 s87 =>
ACalls PP G N.laws_markObject [v86, I 1] s87 fun v88 s89 =>
LOAD (.agg 5) g0_28 s89 fun v90 s91 =>
ACalls PP G N.laws_heldObject [v90, I 1] s91 fun v92 s93 =>
JOIN (fun k94 =>
BIN PP .lss 3 v92 (I 0) s93 fun v97 s98 =>
IFB v97 (K (Bo false) s98) (k94 [nth xs62 0, v97] s98)) fun xs95 s96 =>
JOIN (fun k99 =>
BIN PP .neq 3 v92 v88 s96 fun v102 s103 =>
IFB v102 (K (Bo false) s103) (k99 [nth xs95 0, v102] s103)) fun xs100 s101 =>
ACalls PP G N.laws_toByteS [a0] s101 fun v104 s105 =>
ACalls PP G N.impl_ReadObject [v104] s105 fun v106 s107 =>
TUP v106 0 s107 fun v108 s109 =>
TUP v106 1 s109 fun v110 s111 =>
NEW [St (bs []), I 0, .nl, .nl, .nl] s111 fun h0_112 s113 =>
STORE 5 h0_112 v108 s113 fun u114 s115 =>
JOIN (fun k116 =>
LOAD (.agg 5) h0_112 s115 fun v119 s120 =>
LOAD (.agg 5) w0_16 s120 fun v121 s122 =>
ACalls PP G N.laws_eqObject [v119, v121] s122 fun v123 s124 =>
UN PP .not v123 s124 fun v125 s126 =>
JOIN (fun k127 => IFG false v125 (BIN PP .neq 3 v110 v14 s126 fun v130 s131 =>
k127 [v110, v14, v130] s131) (k127 [U, U, U] s126)) fun xs128 s129 =>
PICK v125 (Bo true) (nth xs128 2) s129 fun v132 s133 =>
IFB v132 (K (Bo false) s133) (k116 [nth xs100 0, v132] s133)) fun xs117 s118 =>
LOAD (.agg 5) g0_28 s118 fun v134 s135 =>
ACalls PP G N.laws_heldObject [v134, I 1] s135 fun v136 s137 =>
JOIN (fun k138 =>
BIN PP .lss 3 v136 (I 0) s137 fun v141 s142 =>
IFB v141 (K (Bo false) s142) (k138 [nth xs117 0, v141] s142)) fun xs139 s140 =>
JOIN (fun k143 =>
BIN PP .neq 3 v136 v88 s140 fun v146 s147 =>
IFB v146 (K (Bo false) s147) (k143 [nth xs139 0, v146] s147)) fun xs144 s145 =>
K (Bo true) s145
theorem F.laws_FnExactReadObject_eq (G : Seal) (a0 : AV) (K : KAV) (s0 : AHeap) : F.laws_FnExactReadObject G a0 K s0 = denF PP G { keep := [0, 2, 3, 4, 5, 6, 7, 8, 9, 10, 11, 12, 15, 37, 42, 58, 66, 69, 84, 89, 92] } Tryz.f3 [a0] K s0 := by kernel_rfl
theorem F.laws_FnExactReadObject_ok {G : Seal} {a0 : AV} {Q : KAV} {s0 : AHeap} (h : F.laws_FnExactReadObject G a0 (Fin Q) s0) : ACalls PP G N.laws_FnExactReadObject [a0] s0 Q :=
  acalls_of_den (fn := Tryz.f3) (C := { keep := [0, 2, 3, 4, 5, 6, 7, 8, 9, 10, 11, 12, 15, 37, 42, 58, 66, 69, 84, 89, 92] }) mixed (by kernel_rfl) (by kernel_rfl) (by kernel_rfl) (Eq.mp (F.laws_FnExactReadObject_eq G a0 _ _) h)

def F.spec_ReadObject (G : Seal) (a0 : AV) (K : KAV) (s0 : AHeap) : Prop :=
NEW [St (bs []), I 0, .nl, .nl, .nl] s0 fun v1 s2 =>
JOIN (fun k3 =>
LENL a0 s2 fun v6 s7 =>
BIN PP .gtr 3 v6 (I 65536) s7 fun v8 s9 =>
IFB v8 (BUILD [St (bs []), I 0, .nl, .nl, .nl] [] s9 fun v10 s11 =>
STORE 5 v1 v10 s11 fun u12 s13 =>
LOAD (.agg 5) v1 s13 fun r14 s15 =>
K (.tu [r14, I 2]) s15) (k3 [I 0, v8] s9)) fun xs4 s5 =>
ACalls PP G N.spec_l04Read [a0] s5 fun v16 s17 =>
TUP v16 0 s17 fun v18 s19 =>
TUP v16 1 s19 fun v20 s21 =>
NEW [St (bs []), I 0, .nl, .nl, .nl] s21 fun o_22 s23 =>
STORE 5 o_22 v18 s23 fun u24 s25 =>
JOIN (fun k26 =>
UN PP .not v20 s25 fun v29 s30 =>
IFB v29 (BUILD [St (bs []), I 0, .nl, .nl, .nl] [] s30 fun v31 s32 =>
STORE 5 v1 v31 s32 fun u33 s34 =>
LOAD (.agg 5) v1 s34 fun r35 s36 =>
K (.tu [r35, I 3]) s36) (k26 [nth xs4 0, v29] s30)) fun xs27 s28 =>
LOAD (.agg 5) o_22 s28 fun v37 s38 =>
STORE 5 v1 v37 s38 fun u39 s40 =>
LOAD (.agg 5) v1 s40 fun r41 s42 =>
K (.tu [r41, I 0]) s42
theorem F.spec_ReadObject_eq (G : Seal) (a0 : AV) (K : KAV) (s0 : AHeap) : F.spec_ReadObject G a0 K s0 = denF PP G { keep := [0, 2, 3, 4, 5, 8, 16] } Tryz.f4 [a0] K s0 := by kernel_rfl
theorem F.spec_ReadObject_ok {G : Seal} {a0 : AV} {Q : KAV} {s0 : AHeap} (h : F.spec_ReadObject G a0 (Fin Q) s0) : ACalls PP G N.spec_ReadObject [a0] s0 Q :=
  acalls_of_den (fn := Tryz.f4) (C := { keep := [0, 2, 3, 4, 5, 8, 16] }) mixed (by kernel_rfl) (by kernel_rfl) (by kernel_rfl) (Eq.mp (F.spec_ReadObject_eq G a0 _ _) h)

def F.laws_toByteS (G : Seal) (a0 : AV) (K : KAV) (s0 : AHeap) : Prop :=
LENL a0 s0 fun v1 s2 =>
MAKE 1 [.sc (.int .u8 0)] 1 v1 v1 s2 fun v3 s4 =>
JOIN (fun k5 =>
LOOP (fun rec8 xs9 s10 =>
JOIN (fun k11 =>
LENL a0 s10 fun v14 s15 =>
BIN PP .lss 3 (nth xs9 0) v14 s15 fun v16 s17 =>
IFB v16 (k11 [v16] s17) (k5 [nth xs9 0, v16] s17)) fun xs12 s13 =>
JOIN (fun k18 =>
IA (.slice 1) a0 (nth xs9 0) s13 fun v21 s22 =>
LOAD .one v21 s22 fun v23 s24 =>
IA (.slice 1) v3 (nth xs9 0) s24 fun v25 s26 =>
STORE 1 v25 v23 s26 fun u27 s28 =>
k18 [] s28) fun xs19 s20 =>
BIN PP .add 3 (nth xs9 0) (I 1) s20 fun v29 s30 =>
rec8 [v29, nth xs12 0] s30) [I 0, .un] s4) fun xs6 s7 =>
K v3 s7
theorem F.laws_toByteS_eq (G : Seal) (a0 : AV) (K : KAV) (s0 : AHeap) : F.laws_toByteS G a0 K s0 = denF PP G { keep := [0, 2, 3, 4, 11] } Tryz.f5 [a0] K s0 := by kernel_rfl
theorem F.laws_toByteS_ok {G : Seal} {a0 : AV} {Q : KAV} {s0 : AHeap} (h : F.laws_toByteS G a0 (Fin Q) s0) : ACalls PP G N.laws_toByteS [a0] s0 Q :=
  acalls_of_den (fn := Tryz.f5) (C := { keep := [0, 2, 3, 4, 11] }) mixed (by kernel_rfl) (by kernel_rfl) (by kernel_rfl) (Eq.mp (F.laws_toByteS_eq G a0 _ _) h)

def F.impl_ReadObject (G : Seal) (a0 : AV) (K : KAV) (s0 : AHeap) : Prop :=
NEW [St (bs []), I 0, .nl, .nl, .nl] s0 fun v1 s2 =>
JOIN (fun k3 =>
ACalls PP G N.impl_isShort_byte [a0] s2 fun v6 s7 =>
UN PP .not v6 s7 fun v8 s9 =>
IFB v8 (BUILD [St (bs []), I 0, .nl, .nl, .nl] [] s9 fun v10 s11 =>
STORE 5 v1 v10 s11 fun u12 s13 =>
LOAD (.agg 5) v1 s13 fun r14 s15 =>
K (.tu [r14, I 2]) s15) (k3 [I 0, v8] s9)) fun xs4 s5 =>
CONV .ofBytes a0 s5 fun v16 s17 =>
ACalls PP G N.impl_readObject [v16] s17 fun v18 s19 =>
TUP v18 0 s19 fun v20 s21 =>
TUP v18 1 s21 fun v22 s23 =>
NEW [St (bs []), I 0, .nl, .nl, .nl] s23 fun o_24 s25 =>
STORE 5 o_24 v20 s25 fun u26 s27 =>
JOIN (fun k28 =>
UN PP .not v22 s27 fun v31 s32 =>
IFB v31 (BUILD [St (bs []), I 0, .nl, .nl, .nl] [] s32 fun v33 s34 =>
STORE 5 v1 v33 s34 fun u35 s36 =>
LOAD (.agg 5) v1 s36 fun r37 s38 =>
K (.tu [r37, I 3]) s38) (k28 [nth xs4 0, v31] s32)) fun xs29 s30 =>
LOAD (.agg 5) o_24 s30 fun v39 s40 =>
STORE 5 v1 v39 s40 fun u41 s42 =>
LOAD (.agg 5) v1 s42 fun r43 s44 =>
K (.tu [r43, I 0]) s44
theorem F.impl_ReadObject_eq (G : Seal) (a0 : AV) (K : KAV) (s0 : AHeap) : F.impl_ReadObject G a0 K s0 = denF PP G { keep := [0, 2, 3, 4, 5, 8, 17] } Tryz.f6 [a0] K s0 := by kernel_rfl
theorem F.impl_ReadObject_ok {G : Seal} {a0 : AV} {Q : KAV} {s0 : AHeap} (h : F.impl_ReadObject G a0 (Fin Q) s0) : ACalls PP G N.impl_ReadObject [a0] s0 Q :=
  acalls_of_den (fn := Tryz.f6) (C := { keep := [0, 2, 3, 4, 5, 8, 17] }) mixed (by kernel_rfl) (by kernel_rfl) (by kernel_rfl) (Eq.mp (F.impl_ReadObject_eq G a0 _ _) h)

def F.laws_eqObject (G : Seal) (a0 : AV) (a1 : AV) (K : KAV) (s0 : AHeap) : Prop :=
BOX 5 a0 s0 fun a_1 s2 =>
BOX 5 a1 s2 fun b_3 s4 =>
JOIN (fun k5 =>
FA 0 a_1 s4 fun v8 s9 =>
LOAD .one v8 s9 fun v10 s11 =>
FA 0 b_3 s11 fun v12 s13 =>
LOAD .one v12 s13 fun v14 s15 =>
BIN PP .neq 9 v10 v14 s15 fun v16 s17 =>
IFB v16 (K (Bo false) s17) (k5 [Bo false, v16] s17)) fun xs6 s7 =>
JOIN (fun k18 =>
FA 1 a_1 s7 fun v21 s22 =>
LOAD .one v21 s22 fun v23 s24 =>
FA 1 b_3 s24 fun v25 s26 =>
LOAD .one v25 s26 fun v27 s28 =>
BIN PP .neq 3 v23 v27 s28 fun v29 s30 =>
IFB v29 (K (Bo false) s30) (k18 [nth xs6 0, v29] s30)) fun xs19 s20 =>
JOIN (fun k31 =>
FA 2 a_1 s20 fun v34 s35 =>
LOAD .one v34 s35 fun v36 s37 =>
FA 2 b_3 s37 fun v38 s39 =>
LOAD .one v38 s39 fun v40 s41 =>
ACalls PP G N.laws_eqNeedS [v36, v40] s41 fun v42 s43 =>
UN PP .not v42 s43 fun v44 s45 =>
IFB v44 (K (Bo false) s45) (k31 [nth xs19 0, v44] s45)) fun xs32 s33 =>
JOIN (fun k46 =>
FA 3 a_1 s33 fun v49 s50 =>
LOAD .one v49 s50 fun v51 s52 =>
FA 3 b_3 s52 fun v53 s54 =>
LOAD .one v53 s54 fun v55 s56 =>
ACalls PP G N.laws_eqGlobalS [v51, v55] s56 fun v57 s58 =>
UN PP .not v57 s58 fun v59 s60 =>
IFB v59 (K (Bo false) s60) (k46 [nth xs32 0, v59] s60)) fun xs47 s48 =>
JOIN (fun k61 =>
FA 4 a_1 s48 fun v64 s65 =>
LOAD .one v64 s65 fun v66 s67 =>
FA 4 b_3 s67 fun v68 s69 =>
LOAD .one v68 s69 fun v70 s71 =>
ACalls PP G N.laws_eqCodeS [v66, v70] s71 fun v72 s73 =>
UN PP .not v72 s73 fun v74 s75 =>
IFB v74 (K (Bo false) s75) (k61 [nth xs47 0, v74] s75)) fun xs62 s63 =>
K (Bo true) s63
theorem F.laws_eqObject_eq (G : Seal) (a0 : AV) (a1 : AV) (K : KAV) (s0 : AHeap) : F.laws_eqObject G a0 a1 K s0 = denF PP G { keep := [0, 1, 2, 3, 4, 9, 14, 20, 26, 32] } Tryz.f7 [a0, a1] K s0 := by kernel_rfl
theorem F.laws_eqObject_ok {G : Seal} {a0 : AV} {a1 : AV} {Q : KAV} {s0 : AHeap} (h : F.laws_eqObject G a0 a1 (Fin Q) s0) : ACalls PP G N.laws_eqObject [a0, a1] s0 Q :=
  acalls_of_den (fn := Tryz.f7) (C := { keep := [0, 1, 2, 3, 4, 9, 14, 20, 26, 32] }) mixed (by kernel_rfl) (by kernel_rfl) (by kernel_rfl) (Eq.mp (F.laws_eqObject_eq G a0 a1 _ _) h)

def F.laws_eqByteS (G : Seal) (a0 : AV) (a1 : AV) (K : KAV) (s0 : AHeap) : Prop :=
JOIN (fun k1 =>
LENL a0 s0 fun v4 s5 =>
LENL a1 s5 fun v6 s7 =>
BIN PP .neq 3 v4 v6 s7 fun v8 s9 =>
IFB v8 (K (Bo false) s9) (k1 [Bo false, v8] s9)) fun xs2 s3 =>
JOIN (fun k10 =>
LOOP (fun rec13 xs14 s15 =>
JOIN (fun k16 =>
LENL a0 s15 fun v19 s20 =>
BIN PP .lss 3 (nth xs14 1) v19 s20 fun v21 s22 =>
IFB v21 (k16 [v21] s22) (k10 [nth xs14 0, nth xs14 1, v21, nth xs14 3] s22)) fun xs17 s18 =>
JOIN (fun k23 =>
IA (.slice 1) a0 (nth xs14 1) s18 fun v26 s27 =>
LOAD .one v26 s27 fun v28 s29 =>
IA (.slice 1) a1 (nth xs14 1) s29 fun v30 s31 =>
LOAD .one v30 s31 fun v32 s33 =>
BIN PP .neq 5 v28 v32 s33 fun v34 s35 =>
IFB v34 (K (Bo false) s35) (k23 [nth xs14 0, v34] s35)) fun xs24 s25 =>
BIN PP .add 3 (nth xs14 1) (I 1) s25 fun v36 s37 =>
rec13 [nth xs24 0, v36, nth xs17 0, nth xs24 1] s37) [nth xs2 0, I 0, .un, .un] s3) fun xs11 s12 =>
K (Bo true) s12
theorem F.laws_eqByteS_eq (G : Seal) (a0 : AV) (a1 : AV) (K : KAV) (s0 : AHeap) : F.laws_eqByteS G a0 a1 K s0 = denF PP G { keep := [0, 1, 4, 5, 10, 14, 25] } Tryz.f8 [a0, a1] K s0 := by kernel_rfl
theorem F.laws_eqByteS_ok {G : Seal} {a0 : AV} {a1 : AV} {Q : KAV} {s0 : AHeap} (h : F.laws_eqByteS G a0 a1 (Fin Q) s0) : ACalls PP G N.laws_eqByteS [a0, a1] s0 Q :=
  acalls_of_den (fn := Tryz.f8) (C := { keep := [0, 1, 4, 5, 10, 14, 25] }) mixed (by kernel_rfl) (by kernel_rfl) (by kernel_rfl) (Eq.mp (F.laws_eqByteS_eq G a0 a1 _ _) h)

def F.laws_markByteS (G : Seal) (a0 : AV) (a1 : AV) (K : KAV) (s0 : AHeap) : Prop :=
JOIN (fun k1 =>
LOOP (fun rec4 xs5 s6 =>
JOIN (fun k7 =>
LENL a0 s6 fun v10 s11 =>
BIN PP .lss 3 (nth xs5 1) v10 s11 fun v12 s13 =>
IFB v12 (k7 [v12] s13) (k1 [nth xs5 0, nth xs5 1, v12] s13)) fun xs8 s9 =>
JOIN (fun k14 =>
CONV (.int .u8) (nth xs5 0) s9 fun v17 s18 =>
IA (.slice 1) a0 (nth xs5 1) s18 fun v19 s20 =>
STORE 1 v19 v17 s20 fun u21 s22 =>
BIN PP .add 3 (nth xs5 0) (I 1) s22 fun v23 s24 =>
k14 [v23] s24) fun xs15 s16 =>
BIN PP .add 3 (nth xs5 1) (I 1) s16 fun v25 s26 =>
rec4 [nth xs15 0, v25, nth xs8 0] s26) [a1, I 0, .un] s0) fun xs2 s3 =>
K (nth xs2 0) s3
theorem F.laws_markByteS_eq (G : Seal) (a0 : AV) (a1 : AV) (K : KAV) (s0 : AHeap) : F.laws_markByteS G a0 a1 K s0 = denF PP G { keep := [0, 1, 4, 5, 9] } Tryz.f9 [a0, a1] K s0 := by kernel_rfl
theorem F.laws_markByteS_ok {G : Seal} {a0 : AV} {a1 : AV} {Q : KAV} {s0 : AHeap} (h : F.laws_markByteS G a0 a1 (Fin Q) s0) : ACalls PP G N.laws_markByteS [a0, a1] s0 Q :=
  acalls_of_den (fn := Tryz.f9) (C := { keep := [0, 1, 4, 5, 9] }) mixed (by kernel_rfl) (by kernel_rfl) (by kernel_rfl) (Eq.mp (F.laws_markByteS_eq G a0 a1 _ _) h)

def F.laws_markObject (G : Seal) (a0 : AV) (a1 : AV) (K : KAV) (s0 : AHeap) : Prop :=
BOX 5 a0 s0 fun a_1 s2 =>
FA 2 a_1 s2 fun v3 s4 =>
LOAD .one v3 s4 fun v5 s6 =>
ACalls PP G N.laws_markNeedS [v5, a1] s6 fun v7 s8 =>
FA 3 a_1 s8 fun v9 s10 =>
LOAD .one v9 s10 fun v11 s12 =>
ACalls PP G N.laws_markGlobalS [v11, v7] s12 fun v13 s14 =>
FA 4 a_1 s14 fun v15 s16 =>
LOAD .one v15 s16 fun v17 s18 =>
ACalls PP G N.laws_markCodeS [v17, v13] s18 fun v19 s20 =>
K v19 s20
theorem F.laws_markObject_eq (G : Seal) (a0 : AV) (a1 : AV) (K : KAV) (s0 : AHeap) : F.laws_markObject G a0 a1 K s0 = denF PP G { keep := [0, 1, 2, 4] } Tryz.f10 [a0, a1] K s0 := by kernel_rfl
theorem F.laws_markObject_ok {G : Seal} {a0 : AV} {a1 : AV} {Q : KAV} {s0 : AHeap} (h : F.laws_markObject G a0 a1 (Fin Q) s0) : ACalls PP G N.laws_markObject [a0, a1] s0 Q :=
  acalls_of_den (fn := Tryz.f10) (C := { keep := [0, 1, 2, 4] }) mixed (by kernel_rfl) (by kernel_rfl) (by kernel_rfl) (Eq.mp (F.laws_markObject_eq G a0 a1 _ _) h)

def F.laws_heldObject (G : Seal) (a0 : AV) (a1 : AV) (K : KAV) (s0 : AHeap) : Prop :=
BOX 5 a0 s0 fun a_1 s2 =>
FA 2 a_1 s2 fun v3 s4 =>
LOAD .one v3 s4 fun v5 s6 =>
ACalls PP G N.laws_heldNeedS [v5, a1] s6 fun v7 s8 =>
JOIN (fun k9 =>
BIN PP .lss 3 v7 (I 0) s8 fun v12 s13 =>
IFB v12 (K (I (-1)) s13) (k9 [I 0, v12] s13)) fun xs10 s11 =>
FA 3 a_1 s11 fun v14 s15 =>
LOAD .one v14 s15 fun v16 s17 =>
ACalls PP G N.laws_heldGlobalS [v16, v7] s17 fun v18 s19 =>
JOIN (fun k20 =>
BIN PP .lss 3 v18 (I 0) s19 fun v23 s24 =>
IFB v23 (K (I (-1)) s24) (k20 [nth xs10 0, v23] s24)) fun xs21 s22 =>
FA 4 a_1 s22 fun v25 s26 =>
LOAD .one v25 s26 fun v27 s28 =>
ACalls PP G N.laws_heldCodeS [v27, v18] s28 fun v29 s30 =>
JOIN (fun k31 =>
BIN PP .lss 3 v29 (I 0) s30 fun v34 s35 =>
IFB v34 (K (I (-1)) s35) (k31 [nth xs21 0, v34] s35)) fun xs32 s33 =>
K v29 s33
theorem F.laws_heldObject_eq (G : Seal) (a0 : AV) (a1 : AV) (K : KAV) (s0 : AHeap) : F.laws_heldObject G a0 a1 K s0 = denF PP G { keep := [0, 1, 2, 4, 10, 16, 22] } Tryz.f11 [a0, a1] K s0 := by kernel_rfl
theorem F.laws_heldObject_ok {G : Seal} {a0 : AV} {a1 : AV} {Q : KAV} {s0 : AHeap} (h : F.laws_heldObject G a0 a1 (Fin Q) s0) : ACalls PP G N.laws_heldObject [a0, a1] s0 Q :=
  acalls_of_den (fn := Tryz.f11) (C := { keep := [0, 1, 2, 4, 10, 16, 22] }) mixed (by kernel_rfl) (by kernel_rfl) (by kernel_rfl) (Eq.mp (F.laws_heldObject_eq G a0 a1 _ _) h)

def F.spec_l04Read (G : Seal) (a0 : AV) (K : KAV) (s0 : AHeap) : Prop :=
NEW [St (bs []), I 0, .nl, .nl, .nl] s0 fun v1 s2 =>
BUILD [.nl, I 0, Bo false] [(0, 1, a0)] s2 fun v3 s4 =>
BOX 3 v3 s4 fun v5 s6 =>
JOIN (fun k7 =>
LENL a0 s6 fun v10 s11 =>
BIN PP .lss 3 v10 (I 3) s11 fun v12 s13 =>
JOIN (fun k14 => IFG false v12 (CUTL 1 a0 none (some (I 3)) s13 fun v17 s18 =>
CONV .ofBytes v17 s18 fun v19 s20 =>
BIN PP .neq 9 v19 (St (bs [79, 79, 49])) s20 fun v21 s22 =>
k14 [a0, v17, v19, v21] s22) (k14 [U, U, U, U] s13)) fun xs15 s16 =>
PICK v12 (Bo true) (nth xs15 3) s16 fun v23 s24 =>
IFB v23 (BUILD [St (bs []), I 0, .nl, .nl, .nl] [] s24 fun v25 s26 =>
STORE 5 v1 v25 s26 fun u27 s28 =>
LOAD (.agg 5) v1 s28 fun r29 s30 =>
K (.tu [r29, Bo false]) s30) (k7 [Bo false, v23] s24)) fun xs8 s9 =>
NILCK v5 s9 fun v31 s32 =>
FA 1 v31 s32 fun v33 s34 =>
STORE 1 v33 (I 3) s34 fun u35 s36 =>
ACalls PP G N.spec_l03Reader_text [v5] s36 fun v37 s38 =>
ACalls PP G N.spec_l03Reader_eight [v5] s38 fun v39 s40 =>
BUILD [St (bs []), I 0, .nl, .nl, .nl] [(0, 1, v37), (1, 1, v39)] s40 fun v41 s42 =>
NEW [St (bs []), I 0, .nl, .nl, .nl] s42 fun o_43 s44 =>
STORE 5 o_43 v41 s44 fun u45 s46 =>
JOIN (fun k47 =>
ACalls PP G N.spec_l03Reader_one [v5] s46 fun v50 s51 =>
LOOP (fun rec52 xs53 s54 =>
JOIN (fun k55 =>
BIN PP .gtr 3 (nth xs53 0) (I 0) s54 fun v58 s59 =>
JOIN (fun k60 => IFG true v58 (NILCK v5 s59 fun v63 s64 =>
FA 2 v63 s64 fun v65 s66 =>
LOAD .one v65 s66 fun v67 s68 =>
UN PP .not v67 s68 fun v69 s70 =>
k60 [v5, v63, v65, v67, v69] s70) (k60 [U, U, U, U, U] s59)) fun xs61 s62 =>
PICK v58 (nth xs61 4) (Bo false) s62 fun v71 s72 =>
IFB v71 (k55 [v71] s72) (k47 [nth xs53 0, v71] s72)) fun xs56 s57 =>
JOIN (fun k73 =>
FA 2 o_43 s57 fun v76 s77 =>
LOAD .one v76 s77 fun v78 s79 =>
ACalls PP G N.spec_l03Reader_text [v5] s79 fun v80 s81 =>
(LOAD .one v76 s81 (SAMEV v78 s81)) ∧
(ACalls PP G N.spec_l03Reader_eight [v5] s81 fun v82 s83 =>
(LOAD .one v76 s83 (SAMEV v78 s83)) ∧
(BUILD [St (bs []), I 0] [(0, 1, v80), (1, 1, v82)] s83 fun v84 s85 =>
LIT false 2 [v84] s85 fun v86 s87 =>
(LOAD .one v76 s87 (SAMEV v78 s87)) ∧
(APPL false 2 24 v78 v86 s87 fun v88 s89 =>
FA 2 o_43 s89 fun v90 s91 =>
STORE 1 v90 v88 s91 fun u92 s93 =>
k73 [] s93)))) fun xs74 s75 =>
BIN PP .sub 3 (nth xs53 0) (I 1) s75 fun v94 s95 =>
rec52 [v94, nth xs56 0] s95) [v50, .un] s51) fun xs48 s49 =>
JOIN (fun k96 =>
ACalls PP G N.spec_l03Reader_one [v5] s49 fun v99 s100 =>
LOOP (fun rec101 xs102 s103 =>
JOIN (fun k104 =>
BIN PP .gtr 3 (nth xs102 0) (I 0) s103 fun v107 s108 =>
JOIN (fun k109 => IFG true v107 (NILCK v5 s108 fun v112 s113 =>
FA 2 v112 s113 fun v114 s115 =>
LOAD .one v114 s115 fun v116 s117 =>
UN PP .not v116 s117 fun v118 s119 =>
k109 [v5, v112, v114, v116, v118] s119) (k109 [U, U, U, U, U] s108)) fun xs110 s111 =>
PICK v107 (nth xs110 4) (Bo false) s111 fun v120 s121 =>
IFB v120 (k104 [v120] s121) (k96 [nth xs102 0, v120] s121)) fun xs105 s106 =>
JOIN (fun k122 =>
FA 3 o_43 s106 fun v125 s126 =>
LOAD .one v125 s126 fun v127 s128 =>
ACalls PP G N.spec_l03Reader_text [v5] s128 fun v129 s130 =>
(LOAD .one v125 s130 (SAMEV v127 s130)) ∧
(ACalls PP G N.spec_l03Reader_one [v5] s130 fun v131 s132 =>
(LOAD .one v125 s132 (SAMEV v127 s132)) ∧
(BUILD [St (bs []), I 0] [(0, 1, v129), (1, 1, v131)] s132 fun v133 s134 =>
LIT false 2 [v133] s134 fun v135 s136 =>
(LOAD .one v125 s136 (SAMEV v127 s136)) ∧
(APPL false 2 24 v127 v135 s136 fun v137 s138 =>
FA 3 o_43 s138 fun v139 s140 =>
STORE 1 v139 v137 s140 fun u141 s142 =>
k122 [] s142)))) fun xs123 s124 =>
BIN PP .sub 3 (nth xs102 0) (I 1) s124 fun v143 s144 =>
rec101 [v143, nth xs105 0] s144) [v99, .un] s100) fun xs97 s98 =>
JOIN (fun k145 =>
ACalls PP G N.spec_l03Reader_one [v5] s98 fun v148 s149 =>
LOOP (fun rec150 xs151 s152 =>
JOIN (fun k153 =>
BIN PP .gtr 3 (nth xs151 0) (I 0) s152 fun v156 s157 =>
JOIN (fun k158 => IFG true v156 (NILCK v5 s157 fun v161 s162 =>
FA 2 v161 s162 fun v163 s164 =>
LOAD .one v163 s164 fun v165 s166 =>
UN PP .not v165 s166 fun v167 s168 =>
k158 [v5, v161, v163, v165, v167] s168) (k158 [U, U, U, U, U] s157)) fun xs159 s160 =>
PICK v156 (nth xs159 4) (Bo false) s160 fun v169 s170 =>
IFB v169 (k153 [v169] s170) (k145 [nth xs151 0, nth xs151 1, nth xs151 2, nth xs151 3, v169, nth xs151 5, nth xs151 6] s170)) fun xs154 s155 =>
JOIN (fun k171 =>
ACalls PP G N.spec_l03Reader_text [v5] s155 fun v174 s175 =>
ACalls PP G N.spec_l03Reader_one [v5] s175 fun v176 s177 =>
BUILD [St (bs []), I 0, I 0, I 0, .nl] [(0, 1, v174), (1, 1, v176)] s177 fun v178 s179 =>
NEW [St (bs []), I 0, I 0, I 0, .nl] s179 fun c_180 s181 =>
STORE 5 c_180 v178 s181 fun u182 s183 =>
ACalls PP G N.spec_l03Reader_one [v5] s183 fun v184 s185 =>
BIN PP .mul 3 v184 (I 256) s185 fun v186 s187 =>
FA 2 c_180 s187 fun v188 s189 =>
STORE 1 v188 v186 s189 fun u190 s191 =>
FA 2 c_180 s191 fun v192 s193 =>
LOAD .one v192 s193 fun v194 s195 =>
ACalls PP G N.spec_l03Reader_one [v5] s195 fun v196 s197 =>
(LOAD .one v192 s197 (SAMEV v194 s197)) ∧
(BIN PP .add 3 v194 v196 s197 fun v198 s199 =>
FA 2 c_180 s199 fun v200 s201 =>
STORE 1 v200 v198 s201 fun u202 s203 =>
ACalls PP G N.spec_l03Reader_one [v5] s203 fun v204 s205 =>
FA 3 c_180 s205 fun v206 s207 =>
STORE 1 v206 v204 s207 fun u208 s209 =>
ACalls PP G N.spec_l03Reader_one [v5] s209 fun v210 s211 =>
BIN PP .mul 3 v210 (I 256) s211 fun v212 s213 =>
ACalls PP G N.spec_l03Reader_one [v5] s213 fun v214 s215 =>
BIN PP .add 3 v212 v214 s215 fun v216 s217 =>
JOIN (fun k218 =>
LOOP (fun rec221 xs222 s223 =>
JOIN (fun k224 =>
BIN PP .gtr 3 (nth xs222 0) (I 0) s223 fun v227 s228 =>
JOIN (fun k229 => IFG true v227 (NILCK v5 s228 fun v232 s233 =>
FA 2 v232 s233 fun v234 s235 =>
LOAD .one v234 s235 fun v236 s237 =>
UN PP .not v236 s237 fun v238 s239 =>
k229 [v5, v232, v234, v236, v238] s239) (k229 [U, U, U, U, U] s228)) fun xs230 s231 =>
PICK v227 (nth xs230 4) (Bo false) s231 fun v240 s241 =>
IFB v240 (k224 [v240] s241) (k218 [nth xs222 0, nth xs222 1, v240, nth xs222 3] s241)) fun xs225 s226 =>
JOIN (fun k242 =>
ACalls PP G N.spec_l03Reader_one [v5] s226 fun v245 s246 =>
ACalls PP G N.spec_l03Reader_eight [v5] s246 fun v247 s248 =>
BUILD [I 0, I 0, I 0, St (bs []), St (bs [])] [(0, 1, v245), (1, 1, v247)] s248 fun v249 s250 =>
NEW [I 0, I 0, I 0, St (bs []), St (bs [])] s250 fun x_251 s252 =>
STORE 5 x_251 v249 s252 fun u253 s254 =>
JOIN (fun k255 =>
FA 0 x_251 s254 fun v258 s259 =>
LOAD .one v258 s259 fun v260 s261 =>
BIN PP .eql 3 v260 (I 3) s261 fun v262 s263 =>
JOIN (fun k264 => IFG false v262 (FA 0 x_251 s263 fun v267 s268 =>
LOAD .one v267 s268 fun v269 s270 =>
BIN PP .eql 3 v269 (I 13) s270 fun v271 s272 =>
k264 [v267, v269, v271] s272) (k264 [U, U, U] s263)) fun xs265 s266 =>
PICK v262 (Bo true) (nth xs265 2) s266 fun v273 s274 =>
IFB v273 (ACalls PP G N.spec_l03Reader_one [v5] s274 fun v275 s276 =>
FA 2 x_251 s276 fun v277 s278 =>
STORE 1 v277 v275 s278 fun u279 s280 =>
ACalls PP G N.spec_l03Reader_text [v5] s280 fun v281 s282 =>
FA 3 x_251 s282 fun v283 s284 =>
STORE 1 v283 v281 s284 fun u285 s286 =>
ACalls PP G N.spec_l03Reader_text [v5] s286 fun v287 s288 =>
FA 4 x_251 s288 fun v289 s290 =>
STORE 1 v289 v287 s290 fun u291 s292 =>
k255 [v273] s292) (k255 [v273] s274)) fun xs256 s257 =>
FA 4 c_180 s257 fun v293 s294 =>
LOAD .one v293 s294 fun v295 s296 =>
LOAD (.agg 5) x_251 s296 fun v297 s298 =>
LIT false 5 [v297] s298 fun v299 s300 =>
APPL false 5 56 v295 v299 s300 fun v301 s302 =>
FA 4 c_180 s302 fun v303 s304 =>
STORE 1 v303 v301 s304 fun u305 s306 =>
k242 [x_251, nth xs256 0] s306) fun xs243 s244 =>
BIN PP .sub 3 (nth xs222 0) (I 1) s244 fun v307 s308 =>
rec221 [v307, nth xs243 0, nth xs225 0, nth xs243 1] s308) [v216, nth xs151 3, nth xs151 5, nth xs151 6] s217) fun xs219 s220 =>
FA 4 o_43 s220 fun v309 s310 =>
LOAD .one v309 s310 fun v311 s312 =>
LOAD (.agg 5) c_180 s312 fun v313 s314 =>
LIT false 5 [v313] s314 fun v315 s316 =>
APPL false 5 64 v311 v315 s316 fun v317 s318 =>
FA 4 o_43 s318 fun v319 s320 =>
STORE 1 v319 v317 s320 fun u321 s322 =>
k171 [c_180, nth xs219 0, nth xs219 1, nth xs219 2, nth xs219 3] s322)) fun xs172 s173 =>
BIN PP .sub 3 (nth xs151 0) (I 1) s173 fun v323 s324 =>
rec150 [v323, nth xs172 0, nth xs172 1, nth xs172 2, nth xs154 0, nth xs172 3, nth xs172 4] s324) [v148, .un, .un, .un, .un, .un, .un] s149) fun xs146 s147 =>
LOAD (.agg 5) o_43 s147 fun v325 s326 =>
NILCK v5 s326 fun v327 s328 =>
FA 2 v327 s328 fun v329 s330 =>
LOAD .one v329 s330 fun v331 s332 =>
UN PP .not v331 s332 fun v333 s334 =>
JOIN (fun k335 => IFG true v333 (k335 [v5] s334) (k335 [U] s334)) fun xs336 s337 =>
JOIN (fun k338 => IFG true v333 (NILCK (nth xs336 0) s337 fun v341 s342 =>
k338 [v341] s342) (k338 [U] s337)) fun xs339 s340 =>
JOIN (fun k343 => IFG true v333 (FA 1 (nth xs339 0) s340 fun v346 s347 =>
k343 [v346] s347) (k343 [U] s340)) fun xs344 s345 =>
JOIN (fun k348 => IFG true v333 (LOAD .one (nth xs344 0) s345 fun v351 s352 =>
k348 [v351] s352) (k348 [U] s345)) fun xs349 s350 =>
JOIN (fun k353 => IFG true v333 (k353 [a0] s350) (k353 [U] s350)) fun xs354 s355 =>
JOIN (fun k356 => IFG true v333 (LENL (nth xs354 0) s355 fun v359 s360 =>
k356 [v359] s360) (k356 [U] s355)) fun xs357 s358 =>
JOIN (fun k361 => IFG true v333 (BIN PP .eql 3 (nth xs349 0) (nth xs357 0) s358 fun v364 s365 =>
k361 [v364] s365) (k361 [U] s358)) fun xs362 s363 =>
PICK v333 (nth xs362 0) (Bo false) s363 fun v366 s367 =>
JOIN (fun k368 => IFG true v366 (LOAD (.agg 5) o_43 s367 fun v371 s372 =>
k368 [v371] s372) (k368 [U] s367)) fun xs369 s370 =>
JOIN (fun k373 => IFG true v366 (ACalls PP G N.spec_ObjectOK [nth xs369 0] s370 fun v376 s377 =>
k373 [v376] s377) (k373 [U] s370)) fun xs374 s375 =>
(LOAD (.agg 5) o_43 s375 (SAMEV v325 s375)) ∧
(PICK v366 (nth xs374 0) (Bo false) s375 fun v378 s379 =>
STORE 5 v1 v325 s379 fun u380 s381 =>
LOAD (.agg 5) v1 s381 fun r382 s383 =>
K (.tu [r382, v378]) s383)
theorem F.spec_l04Read_eq (G : Seal) (a0 : AV) (K : KAV) (s0 : AHeap) : F.spec_l04Read G a0 K s0 = denF PP G { keep := [0, 2, 3, 4, 5, 6, 7, 8, 9, 10, 11, 23, 43, 66, 89, 125, 140] } Tryz.f12 [a0] K s0 := by kernel_rfl
theorem F.spec_l04Read_ok {G : Seal} {a0 : AV} {Q : KAV} {s0 : AHeap} (h : F.spec_l04Read G a0 (Fin Q) s0) : ACalls PP G N.spec_l04Read [a0] s0 Q :=
  acalls_of_den (fn := Tryz.f12) (C := { keep := [0, 2, 3, 4, 5, 6, 7, 8, 9, 10, 11, 23, 43, 66, 89, 125, 140] }) mixed (by kernel_rfl) (by kernel_rfl) (by kernel_rfl) (Eq.mp (F.spec_l04Read_eq G a0 _ _) h)

def F.impl_isShort_byte (G : Seal) (a0 : AV) (K : KAV) (s0 : AHeap) : Prop :=
LENL a0 s0 fun v1 s2 =>
BIN PP .leq 3 v1 (I 65536) s2 fun v3 s4 =>
K v3 s4
theorem F.impl_isShort_byte_eq (G : Seal) (a0 : AV) (K : KAV) (s0 : AHeap) : F.impl_isShort_byte G a0 K s0 = denF PP G { keep := [0, 2] } Tryz.f13 [a0] K s0 := by kernel_rfl
theorem F.impl_isShort_byte_ok {G : Seal} {a0 : AV} {Q : KAV} {s0 : AHeap} (h : F.impl_isShort_byte G a0 (Fin Q) s0) : ACalls PP G N.impl_isShort_byte [a0] s0 Q :=
  acalls_of_den (fn := Tryz.f13) (C := { keep := [0, 2] }) mixed (by kernel_rfl) (by kernel_rfl) (by kernel_rfl) (Eq.mp (F.impl_isShort_byte_eq G a0 _ _) h)

def F.impl_readObject (G : Seal) (a0 : AV) (K : KAV) (s0 : AHeap) : Prop :=
NEW [St (bs []), I 0, .nl, .nl, .nl] s0 fun v1 s2 =>
BUILD [St (bs []), I 0, Bo false] [(0, 1, a0)] s2 fun v3 s4 =>
BOX 3 v3 s4 fun v5 s6 =>
ACalls PP G N.impl_reader_head [v5, St (bs [79, 79, 49])] s6 fun v7 s8 =>
ACalls PP G N.impl_reader_text [v5] s8 fun v9 s10 =>
ACalls PP G N.impl_reader_number [v5, I 8] s10 fun v11 s12 =>
BUILD [St (bs []), I 0, .nl, .nl, .nl] [(0, 1, v9), (1, 1, v11)] s12 fun v13 s14 =>
NEW [St (bs []), I 0, .nl, .nl, .nl] s14 fun o_15 s16 =>
STORE 5 o_15 v13 s16 fun u17 s18 =>
JOIN (fun k19 =>
ACalls PP G N.impl_reader_number [v5, I 1] s18 fun v22 s23 =>
LOOP (fun rec24 xs25 s26 =>
BIN PP .lss 3 (nth xs25 0) v22 s26 fun v27 s28 =>
JOIN (fun k29 =>
IFB v27 (k29 [] s28) (k19 [v22, nth xs25 0, v27] s28)) fun xs30 s31 =>
JOIN (fun k32 =>
FA 2 o_15 s31 fun v35 s36 =>
LOAD .one v35 s36 fun v37 s38 =>
ACalls PP G N.impl_reader_text [v5] s38 fun v39 s40 =>
(LOAD .one v35 s40 (SAMEV v37 s40)) ∧
(ACalls PP G N.impl_reader_number [v5, I 8] s40 fun v41 s42 =>
(LOAD .one v35 s42 (SAMEV v37 s42)) ∧
(BUILD [St (bs []), I 0] [(0, 1, v39), (1, 1, v41)] s42 fun v43 s44 =>
LIT false 2 [v43] s44 fun v45 s46 =>
(LOAD .one v35 s46 (SAMEV v37 s46)) ∧
(APPL true 2 24 v37 v45 s46 fun v47 s48 =>
FA 2 o_15 s48 fun v49 s50 =>
STORE 1 v49 v47 s50 fun u51 s52 =>
k32 [] s52)))) fun xs33 s34 =>
BIN PP .add 3 (nth xs25 0) (I 1) s34 fun v53 s54 =>
rec24 [v53, v27] s54) [I 0, .un] s23) fun xs20 s21 =>
JOIN (fun k55 =>
ACalls PP G N.impl_reader_number [v5, I 1] s21 fun v58 s59 =>
LOOP (fun rec60 xs61 s62 =>
BIN PP .lss 3 (nth xs61 0) v58 s62 fun v63 s64 =>
JOIN (fun k65 =>
IFB v63 (k65 [] s64) (k55 [v58, nth xs61 0, v63] s64)) fun xs66 s67 =>
JOIN (fun k68 =>
FA 3 o_15 s67 fun v71 s72 =>
LOAD .one v71 s72 fun v73 s74 =>
ACalls PP G N.impl_reader_text [v5] s74 fun v75 s76 =>
(LOAD .one v71 s76 (SAMEV v73 s76)) ∧
(ACalls PP G N.impl_reader_number [v5, I 1] s76 fun v77 s78 =>
(LOAD .one v71 s78 (SAMEV v73 s78)) ∧
(BUILD [St (bs []), I 0] [(0, 1, v75), (1, 1, v77)] s78 fun v79 s80 =>
LIT false 2 [v79] s80 fun v81 s82 =>
(LOAD .one v71 s82 (SAMEV v73 s82)) ∧
(APPL true 2 24 v73 v81 s82 fun v83 s84 =>
FA 3 o_15 s84 fun v85 s86 =>
STORE 1 v85 v83 s86 fun u87 s88 =>
k68 [] s88)))) fun xs69 s70 =>
BIN PP .add 3 (nth xs61 0) (I 1) s70 fun v89 s90 =>
rec60 [v89, v63] s90) [I 0, .un] s59) fun xs56 s57 =>
JOIN (fun k91 =>
ACalls PP G N.impl_reader_number [v5, I 1] s57 fun v94 s95 =>
LOOP (fun rec96 xs97 s98 =>
BIN PP .lss 3 (nth xs97 0) v94 s98 fun v99 s100 =>
JOIN (fun k101 =>
IFB v99 (k101 [] s100) (k91 [v94, nth xs97 0, v99] s100)) fun xs102 s103 =>
JOIN (fun k104 =>
FA 4 o_15 s103 fun v107 s108 =>
LOAD .one v107 s108 fun v109 s110 =>
ACalls PP G N.impl_reader_code [v5] s110 fun v111 s112 =>
(LOAD .one v107 s112 (SAMEV v109 s112)) ∧
(LIT false 5 [v111] s112 fun v113 s114 =>
(LOAD .one v107 s114 (SAMEV v109 s114)) ∧
(APPL true 5 64 v109 v113 s114 fun v115 s116 =>
FA 4 o_15 s116 fun v117 s118 =>
STORE 1 v117 v115 s118 fun u119 s120 =>
k104 [] s120))) fun xs105 s106 =>
BIN PP .add 3 (nth xs97 0) (I 1) s106 fun v121 s122 =>
rec96 [v121, v99] s122) [I 0, .un] s95) fun xs92 s93 =>
LOAD (.agg 5) o_15 s93 fun v123 s124 =>
ACalls PP G N.impl_reader_ends [v5] s124 fun v125 s126 =>
(LOAD (.agg 5) o_15 s126 (SAMEV v123 s126)) ∧
(JOIN (fun k127 => IFG true v125 (LOAD (.agg 5) o_15 s126 fun v130 s131 =>
k127 [v130] s131) (k127 [U] s126)) fun xs128 s129 =>
JOIN (fun k132 => IFG true v125 (ACalls PP G N.impl_ObjectOK [nth xs128 0] s129 fun v135 s136 =>
k132 [v135] s136) (k132 [U] s129)) fun xs133 s134 =>
(LOAD (.agg 5) o_15 s134 (SAMEV v123 s134)) ∧
(PICK v125 (nth xs133 0) (Bo false) s134 fun v137 s138 =>
STORE 5 v1 v123 s138 fun u139 s140 =>
LOAD (.agg 5) v1 s140 fun r141 s142 =>
K (.tu [r141, v137]) s142))
theorem F.impl_readObject_eq (G : Seal) (a0 : AV) (K : KAV) (s0 : AHeap) : F.impl_readObject G a0 K s0 = denF PP G { keep := [0, 2, 3, 4, 5, 17, 18, 19, 32, 33, 34, 47, 48, 49], own := [28, 43, 55] } Tryz.f14 [a0] K s0 := by kernel_rfl
theorem F.impl_readObject_ok {G : Seal} {a0 : AV} {Q : KAV} {s0 : AHeap} (h : F.impl_readObject G a0 (Fin Q) s0) : ACalls PP G N.impl_readObject [a0] s0 Q :=
  acalls_of_den (fn := Tryz.f14) (C := { keep := [0, 2, 3, 4, 5, 17, 18, 19, 32, 33, 34, 47, 48, 49], own := [28, 43, 55] }) mixed (by kernel_rfl) (by kernel_rfl) (by kernel_rfl) (Eq.mp (F.impl_readObject_eq G a0 _ _) h)

def F.laws_eqNeedS (G : Seal) (a0 : AV) (a1 : AV) (K : KAV) (s0 : AHeap) : Prop :=
JOIN (fun k1 =>
LENL a0 s0 fun v4 s5 =>
LENL a1 s5 fun v6 s7 =>
BIN PP .neq 3 v4 v6 s7 fun v8 s9 =>
IFB v8 (K (Bo false) s9) (k1 [Bo false, v8] s9)) fun xs2 s3 =>
JOIN (fun k10 =>
LOOP (fun rec13 xs14 s15 =>
JOIN (fun k16 =>
LENL a0 s15 fun v19 s20 =>
BIN PP .lss 3 (nth xs14 1) v19 s20 fun v21 s22 =>
IFB v21 (k16 [v21] s22) (k10 [nth xs14 0, nth xs14 1, v21, nth xs14 3] s22)) fun xs17 s18 =>
JOIN (fun k23 =>
IA (.slice 2) a0 (nth xs14 1) s18 fun v26 s27 =>
LOAD (.agg 2) v26 s27 fun v28 s29 =>
IA (.slice 2) a1 (nth xs14 1) s29 fun v30 s31 =>
LOAD (.agg 2) v30 s31 fun v32 s33 =>
ACalls PP G N.laws_eqNeed [v28, v32] s33 fun v34 s35 =>
UN PP .not v34 s35 fun v36 s37 =>
IFB v36 (K (Bo false) s37) (k23 [nth xs14 0, v36] s37)) fun xs24 s25 =>
BIN PP .add 3 (nth xs14 1) (I 1) s25 fun v38 s39 =>
rec13 [nth xs24 0, v38, nth xs17 0, nth xs24 1] s39) [nth xs2 0, I 0, .un, .un] s3) fun xs11 s12 =>
K (Bo true) s12
theorem F.laws_eqNeedS_eq (G : Seal) (a0 : AV) (a1 : AV) (K : KAV) (s0 : AHeap) : F.laws_eqNeedS G a0 a1 K s0 = denF PP G { keep := [0, 1, 4, 5, 10, 14, 26] } Tryz.f15 [a0, a1] K s0 := by kernel_rfl
theorem F.laws_eqNeedS_ok {G : Seal} {a0 : AV} {a1 : AV} {Q : KAV} {s0 : AHeap} (h : F.laws_eqNeedS G a0 a1 (Fin Q) s0) : ACalls PP G N.laws_eqNeedS [a0, a1] s0 Q :=
  acalls_of_den (fn := Tryz.f15) (C := { keep := [0, 1, 4, 5, 10, 14, 26] }) mixed (by kernel_rfl) (by kernel_rfl) (by kernel_rfl) (Eq.mp (F.laws_eqNeedS_eq G a0 a1 _ _) h)

def F.laws_eqGlobalS (G : Seal) (a0 : AV) (a1 : AV) (K : KAV) (s0 : AHeap) : Prop :=
JOIN (fun k1 =>
LENL a0 s0 fun v4 s5 =>
LENL a1 s5 fun v6 s7 =>
BIN PP .neq 3 v4 v6 s7 fun v8 s9 =>
IFB v8 (K (Bo false) s9) (k1 [Bo false, v8] s9)) fun xs2 s3 =>
JOIN (fun k10 =>
LOOP (fun rec13 xs14 s15 =>
JOIN (fun k16 =>
LENL a0 s15 fun v19 s20 =>
BIN PP .lss 3 (nth xs14 1) v19 s20 fun v21 s22 =>
IFB v21 (k16 [v21] s22) (k10 [nth xs14 0, nth xs14 1, v21, nth xs14 3] s22)) fun xs17 s18 =>
JOIN (fun k23 =>
IA (.slice 2) a0 (nth xs14 1) s18 fun v26 s27 =>
LOAD (.agg 2) v26 s27 fun v28 s29 =>
IA (.slice 2) a1 (nth xs14 1) s29 fun v30 s31 =>
LOAD (.agg 2) v30 s31 fun v32 s33 =>
ACalls PP G N.laws_eqGlobal [v28, v32] s33 fun v34 s35 =>
UN PP .not v34 s35 fun v36 s37 =>
IFB v36 (K (Bo false) s37) (k23 [nth xs14 0, v36] s37)) fun xs24 s25 =>
BIN PP .add 3 (nth xs14 1) (I 1) s25 fun v38 s39 =>
rec13 [nth xs24 0, v38, nth xs17 0, nth xs24 1] s39) [nth xs2 0, I 0, .un, .un] s3) fun xs11 s12 =>
K (Bo true) s12
theorem F.laws_eqGlobalS_eq (G : Seal) (a0 : AV) (a1 : AV) (K : KAV) (s0 : AHeap) : F.laws_eqGlobalS G a0 a1 K s0 = denF PP G { keep := [0, 1, 4, 5, 10, 14, 26] } Tryz.f16 [a0, a1] K s0 := by kernel_rfl
theorem F.laws_eqGlobalS_ok {G : Seal} {a0 : AV} {a1 : AV} {Q : KAV} {s0 : AHeap} (h : F.laws_eqGlobalS G a0 a1 (Fin Q) s0) : ACalls PP G N.laws_eqGlobalS [a0, a1] s0 Q :=
  acalls_of_den (fn := Tryz.f16) (C := { keep := [0, 1, 4, 5, 10, 14, 26] }) mixed (by kernel_rfl) (by kernel_rfl) (by kernel_rfl) (Eq.mp (F.laws_eqGlobalS_eq G a0 a1 _ _) h)

def F.laws_eqCodeS (G : Seal) (a0 : AV) (a1 : AV) (K : KAV) (s0 : AHeap) : Prop :=
JOIN (fun k1 =>
LENL a0 s0 fun v4 s5 =>
LENL a1 s5 fun v6 s7 =>
BIN PP .neq 3 v4 v6 s7 fun v8 s9 =>
IFB v8 (K (Bo false) s9) (k1 [Bo false, v8] s9)) fun xs2 s3 =>
JOIN (fun k10 =>
LOOP (fun rec13 xs14 s15 =>
JOIN (fun k16 =>
LENL a0 s15 fun v19 s20 =>
BIN PP .lss 3 (nth xs14 1) v19 s20 fun v21 s22 =>
IFB v21 (k16 [v21] s22) (k10 [nth xs14 0, nth xs14 1, v21, nth xs14 3] s22)) fun xs17 s18 =>
JOIN (fun k23 =>
IA (.slice 5) a0 (nth xs14 1) s18 fun v26 s27 =>
LOAD (.agg 5) v26 s27 fun v28 s29 =>
IA (.slice 5) a1 (nth xs14 1) s29 fun v30 s31 =>
LOAD (.agg 5) v30 s31 fun v32 s33 =>
ACalls PP G N.laws_eqCode [v28, v32] s33 fun v34 s35 =>
UN PP .not v34 s35 fun v36 s37 =>
IFB v36 (K (Bo false) s37) (k23 [nth xs14 0, v36] s37)) fun xs24 s25 =>
BIN PP .add 3 (nth xs14 1) (I 1) s25 fun v38 s39 =>
rec13 [nth xs24 0, v38, nth xs17 0, nth xs24 1] s39) [nth xs2 0, I 0, .un, .un] s3) fun xs11 s12 =>
K (Bo true) s12
theorem F.laws_eqCodeS_eq (G : Seal) (a0 : AV) (a1 : AV) (K : KAV) (s0 : AHeap) : F.laws_eqCodeS G a0 a1 K s0 = denF PP G { keep := [0, 1, 4, 5, 10, 14, 26] } Tryz.f17 [a0, a1] K s0 := by kernel_rfl
theorem F.laws_eqCodeS_ok {G : Seal} {a0 : AV} {a1 : AV} {Q : KAV} {s0 : AHeap} (h : F.laws_eqCodeS G a0 a1 (Fin Q) s0) : ACalls PP G N.laws_eqCodeS [a0, a1] s0 Q :=
  acalls_of_den (fn := Tryz.f17) (C := { keep := [0, 1, 4, 5, 10, 14, 26] }) mixed (by kernel_rfl) (by kernel_rfl) (by kernel_rfl) (Eq.mp (F.laws_eqCodeS_eq G a0 a1 _ _) h)

def F.laws_markNeedS (G : Seal) (a0 : AV) (a1 : AV) (K : KAV) (s0 : AHeap) : Prop :=
JOIN (fun k1 =>
LOOP (fun rec4 xs5 s6 =>
JOIN (fun k7 =>
LENL a0 s6 fun v10 s11 =>
BIN PP .lss 3 (nth xs5 1) v10 s11 fun v12 s13 =>
IFB v12 (k7 [v12] s13) (k1 [nth xs5 0, nth xs5 1, v12] s13)) fun xs8 s9 =>
JOIN (fun k14 =>
ACalls PP G N.laws_markText [nth xs5 0] s9 fun v17 s18 =>
IA (.slice 2) a0 (nth xs5 1) s18 fun v19 s20 =>
FA 0 v19 s20 fun v21 s22 =>
STORE 1 v21 v17 s22 fun u23 s24 =>
BIN PP .add 3 (nth xs5 0) (I 1) s24 fun v25 s26 =>
IA (.slice 2) a0 (nth xs5 1) s26 fun v27 s28 =>
FA 1 v27 s28 fun v29 s30 =>
STORE 1 v29 v25 s30 fun u31 s32 =>
BIN PP .add 3 v25 (I 1) s32 fun v33 s34 =>
k14 [v33] s34) fun xs15 s16 =>
BIN PP .add 3 (nth xs5 1) (I 1) s16 fun v35 s36 =>
rec4 [nth xs15 0, v35, nth xs8 0] s36) [a1, I 0, .un] s0) fun xs2 s3 =>
K (nth xs2 0) s3
theorem F.laws_markNeedS_eq (G : Seal) (a0 : AV) (a1 : AV) (K : KAV) (s0 : AHeap) : F.laws_markNeedS G a0 a1 K s0 = denF PP G { keep := [0, 1, 4, 5, 9] } Tryz.f18 [a0, a1] K s0 := by kernel_rfl
theorem F.laws_markNeedS_ok {G : Seal} {a0 : AV} {a1 : AV} {Q : KAV} {s0 : AHeap} (h : F.laws_markNeedS G a0 a1 (Fin Q) s0) : ACalls PP G N.laws_markNeedS [a0, a1] s0 Q :=
  acalls_of_den (fn := Tryz.f18) (C := { keep := [0, 1, 4, 5, 9] }) mixed (by kernel_rfl) (by kernel_rfl) (by kernel_rfl) (Eq.mp (F.laws_markNeedS_eq G a0 a1 _ _) h)

def F.laws_markGlobalS (G : Seal) (a0 : AV) (a1 : AV) (K : KAV) (s0 : AHeap) : Prop :=
JOIN (fun k1 =>
LOOP (fun rec4 xs5 s6 =>
JOIN (fun k7 =>
LENL a0 s6 fun v10 s11 =>
BIN PP .lss 3 (nth xs5 1) v10 s11 fun v12 s13 =>
IFB v12 (k7 [v12] s13) (k1 [nth xs5 0, nth xs5 1, v12] s13)) fun xs8 s9 =>
JOIN (fun k14 =>
ACalls PP G N.laws_markText [nth xs5 0] s9 fun v17 s18 =>
IA (.slice 2) a0 (nth xs5 1) s18 fun v19 s20 =>
FA 0 v19 s20 fun v21 s22 =>
STORE 1 v21 v17 s22 fun u23 s24 =>
BIN PP .add 3 (nth xs5 0) (I 1) s24 fun v25 s26 =>
IA (.slice 2) a0 (nth xs5 1) s26 fun v27 s28 =>
FA 1 v27 s28 fun v29 s30 =>
STORE 1 v29 v25 s30 fun u31 s32 =>
BIN PP .add 3 v25 (I 1) s32 fun v33 s34 =>
k14 [v33] s34) fun xs15 s16 =>
BIN PP .add 3 (nth xs5 1) (I 1) s16 fun v35 s36 =>
rec4 [nth xs15 0, v35, nth xs8 0] s36) [a1, I 0, .un] s0) fun xs2 s3 =>
K (nth xs2 0) s3
theorem F.laws_markGlobalS_eq (G : Seal) (a0 : AV) (a1 : AV) (K : KAV) (s0 : AHeap) : F.laws_markGlobalS G a0 a1 K s0 = denF PP G { keep := [0, 1, 4, 5, 9] } Tryz.f19 [a0, a1] K s0 := by kernel_rfl
theorem F.laws_markGlobalS_ok {G : Seal} {a0 : AV} {a1 : AV} {Q : KAV} {s0 : AHeap} (h : F.laws_markGlobalS G a0 a1 (Fin Q) s0) : ACalls PP G N.laws_markGlobalS [a0, a1] s0 Q :=
  acalls_of_den (fn := Tryz.f19) (C := { keep := [0, 1, 4, 5, 9] }) mixed (by kernel_rfl) (by kernel_rfl) (by kernel_rfl) (Eq.mp (F.laws_markGlobalS_eq G a0 a1 _ _) h)

def F.laws_markCodeS (G : Seal) (a0 : AV) (a1 : AV) (K : KAV) (s0 : AHeap) : Prop :=
JOIN (fun k1 =>
LOOP (fun rec4 xs5 s6 =>
JOIN (fun k7 =>
LENL a0 s6 fun v10 s11 =>
BIN PP .lss 3 (nth xs5 1) v10 s11 fun v12 s13 =>
IFB v12 (k7 [v12] s13) (k1 [nth xs5 0, nth xs5 1, v12] s13)) fun xs8 s9 =>
JOIN (fun k14 =>
ACalls PP G N.laws_markText [nth xs5 0] s9 fun v17 s18 =>
IA (.slice 5) a0 (nth xs5 1) s18 fun v19 s20 =>
FA 0 v19 s20 fun v21 s22 =>
STORE 1 v21 v17 s22 fun u23 s24 =>
BIN PP .add 3 (nth xs5 0) (I 1) s24 fun v25 s26 =>
IA (.slice 5) a0 (nth xs5 1) s26 fun v27 s28 =>
FA 1 v27 s28 fun v29 s30 =>
STORE 1 v29 v25 s30 fun u31 s32 =>
BIN PP .add 3 v25 (I 1) s32 fun v33 s34 =>
IA (.slice 5) a0 (nth xs5 1) s34 fun v35 s36 =>
FA 2 v35 s36 fun v37 s38 =>
STORE 1 v37 v33 s38 fun u39 s40 =>
BIN PP .add 3 v33 (I 1) s40 fun v41 s42 =>
IA (.slice 5) a0 (nth xs5 1) s42 fun v43 s44 =>
FA 3 v43 s44 fun v45 s46 =>
STORE 1 v45 v41 s46 fun u47 s48 =>
BIN PP .add 3 v41 (I 1) s48 fun v49 s50 =>
IA (.slice 5) a0 (nth xs5 1) s50 fun v51 s52 =>
FA 4 v51 s52 fun v53 s54 =>
LOAD .one v53 s54 fun v55 s56 =>
ACalls PP G N.laws_markInsS [v55, v49] s56 fun v57 s58 =>
k14 [v57] s58) fun xs15 s16 =>
BIN PP .add 3 (nth xs5 1) (I 1) s16 fun v59 s60 =>
rec4 [nth xs15 0, v59, nth xs8 0] s60) [a1, I 0, .un] s0) fun xs2 s3 =>
K (nth xs2 0) s3
theorem F.laws_markCodeS_eq (G : Seal) (a0 : AV) (a1 : AV) (K : KAV) (s0 : AHeap) : F.laws_markCodeS G a0 a1 K s0 = denF PP G { keep := [0, 1, 4, 5, 9] } Tryz.f20 [a0, a1] K s0 := by kernel_rfl
theorem F.laws_markCodeS_ok {G : Seal} {a0 : AV} {a1 : AV} {Q : KAV} {s0 : AHeap} (h : F.laws_markCodeS G a0 a1 (Fin Q) s0) : ACalls PP G N.laws_markCodeS [a0, a1] s0 Q :=
  acalls_of_den (fn := Tryz.f20) (C := { keep := [0, 1, 4, 5, 9] }) mixed (by kernel_rfl) (by kernel_rfl) (by kernel_rfl) (Eq.mp (F.laws_markCodeS_eq G a0 a1 _ _) h)

def F.laws_heldNeedS (G : Seal) (a0 : AV) (a1 : AV) (K : KAV) (s0 : AHeap) : Prop :=
JOIN (fun k1 =>
LOOP (fun rec4 xs5 s6 =>
JOIN (fun k7 =>
LENL a0 s6 fun v10 s11 =>
BIN PP .lss 3 (nth xs5 2) v10 s11 fun v12 s13 =>
IFB v12 (k7 [v12] s13) (k1 [nth xs5 0, nth xs5 1, nth xs5 2, v12, nth xs5 4, nth xs5 5] s13)) fun xs8 s9 =>
JOIN (fun k14 =>
JOIN (fun k17 =>
IA (.slice 2) a0 (nth xs5 2) s9 fun v20 s21 =>
FA 0 v20 s21 fun v22 s23 =>
LOAD .one v22 s23 fun v24 s25 =>
ACalls PP G N.laws_markText [nth xs5 0] s25 fun v26 s27 =>
(LOAD .one v22 s27 (SAMEV v24 s27)) ∧
(BIN PP .neq 9 v24 v26 s27 fun v28 s29 =>
IFB v28 (K (I (-1)) s29) (k17 [nth xs5 1, v28] s29))) fun xs18 s19 =>
BIN PP .add 3 (nth xs5 0) (I 1) s19 fun v30 s31 =>
JOIN (fun k32 =>
IA (.slice 2) a0 (nth xs5 2) s31 fun v35 s36 =>
FA 1 v35 s36 fun v37 s38 =>
LOAD .one v37 s38 fun v39 s40 =>
BIN PP .neq 3 v39 v30 s40 fun v41 s42 =>
IFB v41 (K (I (-1)) s42) (k32 [nth xs18 0, v41] s42)) fun xs33 s34 =>
BIN PP .add 3 v30 (I 1) s34 fun v43 s44 =>
k14 [v43, nth xs33 0, nth xs18 1, nth xs33 1] s44) fun xs15 s16 =>
BIN PP .add 3 (nth xs5 2) (I 1) s16 fun v45 s46 =>
rec4 [nth xs15 0, nth xs15 1, v45, nth xs8 0, nth xs15 2, nth xs15 3] s46) [a1, I 0, I 0, .un, .un, .un] s0) fun xs2 s3 =>
K (nth xs2 0) s3
theorem F.laws_heldNeedS_eq (G : Seal) (a0 : AV) (a1 : AV) (K : KAV) (s0 : AHeap) : F.laws_heldNeedS G a0 a1 K s0 = denF PP G { keep := [0, 1, 4, 5, 9, 19, 28] } Tryz.f21 [a0, a1] K s0 := by kernel_rfl
theorem F.laws_heldNeedS_ok {G : Seal} {a0 : AV} {a1 : AV} {Q : KAV} {s0 : AHeap} (h : F.laws_heldNeedS G a0 a1 (Fin Q) s0) : ACalls PP G N.laws_heldNeedS [a0, a1] s0 Q :=
  acalls_of_den (fn := Tryz.f21) (C := { keep := [0, 1, 4, 5, 9, 19, 28] }) mixed (by kernel_rfl) (by kernel_rfl) (by kernel_rfl) (Eq.mp (F.laws_heldNeedS_eq G a0 a1 _ _) h)

def F.laws_heldGlobalS (G : Seal) (a0 : AV) (a1 : AV) (K : KAV) (s0 : AHeap) : Prop :=
JOIN (fun k1 =>
LOOP (fun rec4 xs5 s6 =>
JOIN (fun k7 =>
LENL a0 s6 fun v10 s11 =>
BIN PP .lss 3 (nth xs5 2) v10 s11 fun v12 s13 =>
IFB v12 (k7 [v12] s13) (k1 [nth xs5 0, nth xs5 1, nth xs5 2, v12, nth xs5 4, nth xs5 5] s13)) fun xs8 s9 =>
JOIN (fun k14 =>
JOIN (fun k17 =>
IA (.slice 2) a0 (nth xs5 2) s9 fun v20 s21 =>
FA 0 v20 s21 fun v22 s23 =>
LOAD .one v22 s23 fun v24 s25 =>
ACalls PP G N.laws_markText [nth xs5 0] s25 fun v26 s27 =>
(LOAD .one v22 s27 (SAMEV v24 s27)) ∧
(BIN PP .neq 9 v24 v26 s27 fun v28 s29 =>
IFB v28 (K (I (-1)) s29) (k17 [nth xs5 1, v28] s29))) fun xs18 s19 =>
BIN PP .add 3 (nth xs5 0) (I 1) s19 fun v30 s31 =>
JOIN (fun k32 =>
IA (.slice 2) a0 (nth xs5 2) s31 fun v35 s36 =>
FA 1 v35 s36 fun v37 s38 =>
LOAD .one v37 s38 fun v39 s40 =>
BIN PP .neq 3 v39 v30 s40 fun v41 s42 =>
IFB v41 (K (I (-1)) s42) (k32 [nth xs18 0, v41] s42)) fun xs33 s34 =>
BIN PP .add 3 v30 (I 1) s34 fun v43 s44 =>
k14 [v43, nth xs33 0, nth xs18 1, nth xs33 1] s44) fun xs15 s16 =>
BIN PP .add 3 (nth xs5 2) (I 1) s16 fun v45 s46 =>
rec4 [nth xs15 0, nth xs15 1, v45, nth xs8 0, nth xs15 2, nth xs15 3] s46) [a1, I 0, I 0, .un, .un, .un] s0) fun xs2 s3 =>
K (nth xs2 0) s3
theorem F.laws_heldGlobalS_eq (G : Seal) (a0 : AV) (a1 : AV) (K : KAV) (s0 : AHeap) : F.laws_heldGlobalS G a0 a1 K s0 = denF PP G { keep := [0, 1, 4, 5, 9, 19, 28] } Tryz.f22 [a0, a1] K s0 := by kernel_rfl
theorem F.laws_heldGlobalS_ok {G : Seal} {a0 : AV} {a1 : AV} {Q : KAV} {s0 : AHeap} (h : F.laws_heldGlobalS G a0 a1 (Fin Q) s0) : ACalls PP G N.laws_heldGlobalS [a0, a1] s0 Q :=
  acalls_of_den (fn := Tryz.f22) (C := { keep := [0, 1, 4, 5, 9, 19, 28] }) mixed (by kernel_rfl) (by kernel_rfl) (by kernel_rfl) (Eq.mp (F.laws_heldGlobalS_eq G a0 a1 _ _) h)

def F.laws_heldCodeS (G : Seal) (a0 : AV) (a1 : AV) (K : KAV) (s0 : AHeap) : Prop :=
JOIN (fun k1 =>
LOOP (fun rec4 xs5 s6 =>
JOIN (fun k7 =>
LENL a0 s6 fun v10 s11 =>
BIN PP .lss 3 (nth xs5 2) v10 s11 fun v12 s13 =>
IFB v12 (k7 [v12] s13) (k1 [nth xs5 0, nth xs5 1, nth xs5 2, v12, nth xs5 4, nth xs5 5, nth xs5 6, nth xs5 7, nth xs5 8] s13)) fun xs8 s9 =>
JOIN (fun k14 =>
JOIN (fun k17 =>
IA (.slice 5) a0 (nth xs5 2) s9 fun v20 s21 =>
FA 0 v20 s21 fun v22 s23 =>
LOAD .one v22 s23 fun v24 s25 =>
ACalls PP G N.laws_markText [nth xs5 0] s25 fun v26 s27 =>
(LOAD .one v22 s27 (SAMEV v24 s27)) ∧
(BIN PP .neq 9 v24 v26 s27 fun v28 s29 =>
IFB v28 (K (I (-1)) s29) (k17 [nth xs5 1, v28] s29))) fun xs18 s19 =>
BIN PP .add 3 (nth xs5 0) (I 1) s19 fun v30 s31 =>
JOIN (fun k32 =>
IA (.slice 5) a0 (nth xs5 2) s31 fun v35 s36 =>
FA 1 v35 s36 fun v37 s38 =>
LOAD .one v37 s38 fun v39 s40 =>
BIN PP .neq 3 v39 v30 s40 fun v41 s42 =>
IFB v41 (K (I (-1)) s42) (k32 [nth xs18 0, v41] s42)) fun xs33 s34 =>
BIN PP .add 3 v30 (I 1) s34 fun v43 s44 =>
JOIN (fun k45 =>
IA (.slice 5) a0 (nth xs5 2) s44 fun v48 s49 =>
FA 2 v48 s49 fun v50 s51 =>
LOAD .one v50 s51 fun v52 s53 =>
BIN PP .neq 3 v52 v43 s53 fun v54 s55 =>
IFB v54 (K (I (-1)) s55) (k45 [nth xs33 0, v54] s55)) fun xs46 s47 =>
BIN PP .add 3 v43 (I 1) s47 fun v56 s57 =>
JOIN (fun k58 =>
IA (.slice 5) a0 (nth xs5 2) s57 fun v61 s62 =>
FA 3 v61 s62 fun v63 s64 =>
LOAD .one v63 s64 fun v65 s66 =>
BIN PP .neq 3 v65 v56 s66 fun v67 s68 =>
IFB v67 (K (I (-1)) s68) (k58 [nth xs46 0, v67] s68)) fun xs59 s60 =>
BIN PP .add 3 v56 (I 1) s60 fun v69 s70 =>
IA (.slice 5) a0 (nth xs5 2) s70 fun v71 s72 =>
FA 4 v71 s72 fun v73 s74 =>
LOAD .one v73 s74 fun v75 s76 =>
ACalls PP G N.laws_heldInsS [v75, v69] s76 fun v77 s78 =>
BIN PP .lss 3 v77 (I 0) s78 fun v79 s80 =>
IFB v79 (K (I (-1)) s80) (k14 [v77, nth xs59 0, nth xs18 1, nth xs33 1, nth xs46 1, nth xs59 1, v79] s80)) fun xs15 s16 =>
BIN PP .add 3 (nth xs5 2) (I 1) s16 fun v81 s82 =>
rec4 [nth xs15 0, nth xs15 1, v81, nth xs8 0, nth xs15 2, nth xs15 3, nth xs15 4, nth xs15 5, nth xs15 6] s82) [a1, I 0, I 0, .un, .un, .un, .un, .un, .un] s0) fun xs2 s3 =>
K (nth xs2 0) s3
theorem F.laws_heldCodeS_eq (G : Seal) (a0 : AV) (a1 : AV) (K : KAV) (s0 : AHeap) : F.laws_heldCodeS G a0 a1 K s0 = denF PP G { keep := [0, 1, 4, 5, 9, 19, 28, 37, 46, 57] } Tryz.f23 [a0, a1] K s0 := by kernel_rfl
theorem F.laws_heldCodeS_ok {G : Seal} {a0 : AV} {a1 : AV} {Q : KAV} {s0 : AHeap} (h : F.laws_heldCodeS G a0 a1 (Fin Q) s0) : ACalls PP G N.laws_heldCodeS [a0, a1] s0 Q :=
  acalls_of_den (fn := Tryz.f23) (C := { keep := [0, 1, 4, 5, 9, 19, 28, 37, 46, 57] }) mixed (by kernel_rfl) (by kernel_rfl) (by kernel_rfl) (Eq.mp (F.laws_heldCodeS_eq G a0 a1 _ _) h)

def F.spec_l03Reader_text (G : Seal) (a0 : AV) (K : KAV) (s0 : AHeap) : Prop :=
ACalls PP G N.spec_l03Reader_one [a0] s0 fun v1 s2 =>
JOIN (fun k3 =>
NILCK a0 s2 fun v6 s7 =>
FA 2 v6 s7 fun v8 s9 =>
LOAD .one v8 s9 fun v10 s11 =>
JOIN (fun k12 => IFG false v10 (k12 [a0] s11) (k12 [U] s11)) fun xs13 s14 =>
JOIN (fun k15 => IFG false v10 (NILCK (nth xs13 0) s14 fun v18 s19 =>
k15 [v18] s19) (k15 [U] s14)) fun xs16 s17 =>
JOIN (fun k20 => IFG false v10 (FA 1 (nth xs16 0) s17 fun v23 s24 =>
k20 [v23] s24) (k20 [U] s17)) fun xs21 s22 =>
JOIN (fun k25 => IFG false v10 (LOAD .one (nth xs21 0) s22 fun v28 s29 =>
k25 [v28] s29) (k25 [U] s22)) fun xs26 s27 =>
JOIN (fun k30 => IFG false v10 (k30 [v1] s27) (k30 [U] s27)) fun xs31 s32 =>
JOIN (fun k33 => IFG false v10 (BIN PP .add 3 (nth xs26 0) (nth xs31 0) s32 fun v36 s37 =>
k33 [v36] s37) (k33 [U] s32)) fun xs34 s35 =>
JOIN (fun k38 => IFG false v10 (k38 [a0] s35) (k38 [U] s35)) fun xs39 s40 =>
JOIN (fun k41 => IFG false v10 (NILCK (nth xs39 0) s40 fun v44 s45 =>
k41 [v44] s45) (k41 [U] s40)) fun xs42 s43 =>
JOIN (fun k46 => IFG false v10 (FA 0 (nth xs42 0) s43 fun v49 s50 =>
k46 [v49] s50) (k46 [U] s43)) fun xs47 s48 =>
JOIN (fun k51 => IFG false v10 (LOAD .one (nth xs47 0) s48 fun v54 s55 =>
k51 [v54] s55) (k51 [U] s48)) fun xs52 s53 =>
JOIN (fun k56 => IFG false v10 (LENL (nth xs52 0) s53 fun v59 s60 =>
k56 [v59] s60) (k56 [U] s53)) fun xs57 s58 =>
JOIN (fun k61 => IFG false v10 (BIN PP .gtr 3 (nth xs34 0) (nth xs57 0) s58 fun v64 s65 =>
k61 [v64] s65) (k61 [U] s58)) fun xs62 s63 =>
PICK v10 (Bo true) (nth xs62 0) s63 fun v66 s67 =>
IFB v66 (NILCK a0 s67 fun v68 s69 =>
FA 2 v68 s69 fun v70 s71 =>
STORE 1 v70 (Bo true) s71 fun u72 s73 =>
K (St (bs [])) s73) (k3 [St (bs []), v66] s67)) fun xs4 s5 =>
NILCK a0 s5 fun v74 s75 =>
FA 1 v74 s75 fun v76 s77 =>
LOAD .one v76 s77 fun v78 s79 =>
BIN PP .add 3 v78 v1 s79 fun v80 s81 =>
NILCK a0 s81 fun v82 s83 =>
FA 1 v82 s83 fun v84 s85 =>
STORE 1 v84 v80 s85 fun u86 s87 =>
NILCK a0 s87 fun v88 s89 =>
FA 0 v88 s89 fun v90 s91 =>
LOAD .one v90 s91 fun v92 s93 =>
NILCK a0 s93 fun v94 s95 =>
FA 1 v94 s95 fun v96 s97 =>
LOAD .one v96 s97 fun v98 s99 =>
BIN PP .sub 3 v98 v1 s99 fun v100 s101 =>
NILCK a0 s101 fun v102 s103 =>
FA 1 v102 s103 fun v104 s105 =>
LOAD .one v104 s105 fun v106 s107 =>
CUTL 1 v92 (some v100) (some v106) s107 fun v108 s109 =>
CONV .ofBytes v108 s109 fun v110 s111 =>
K v110 s111
theorem F.spec_l03Reader_text_eq (G : Seal) (a0 : AV) (K : KAV) (s0 : AHeap) : F.spec_l03Reader_text G a0 K s0 = denF PP G { keep := [0, 2, 3, 23] } Tryz.f24 [a0] K s0 := by kernel_rfl
theorem F.spec_l03Reader_text_ok {G : Seal} {a0 : AV} {Q : KAV} {s0 : AHeap} (h : F.spec_l03Reader_text G a0 (Fin Q) s0) : ACalls PP G N.spec_l03Reader_text [a0] s0 Q :=
  acalls_of_den (fn := Tryz.f24) (C := { keep := [0, 2, 3, 23] }) mixed (by kernel_rfl) (by kernel_rfl) (by kernel_rfl) (Eq.mp (F.spec_l03Reader_text_eq G a0 _ _) h)

def F.spec_l03Reader_eight (G : Seal) (a0 : AV) (K : KAV) (s0 : AHeap) : Prop :=
JOIN (fun k1 =>
LOOP (fun rec4 xs5 s6 =>
JOIN (fun k7 =>
BIN PP .lss 3 (nth xs5 1) (I 8) s6 fun v10 s11 =>
IFB v10 (k7 [v10] s11) (k1 [nth xs5 0, nth xs5 1, v10] s11)) fun xs8 s9 =>
JOIN (fun k12 =>
BIN PP .shl 3 (nth xs5 0) (.sc (.int .u64 8)) s9 fun v15 s16 =>
ACalls PP G N.spec_l03Reader_one [a0] s16 fun v17 s18 =>
BIN PP .or 3 v15 v17 s18 fun v19 s20 =>
k12 [v19] s20) fun xs13 s14 =>
BIN PP .add 3 (nth xs5 1) (I 1) s14 fun v21 s22 =>
rec4 [nth xs13 0, v21, nth xs8 0] s22) [I 0, I 0, .un] s0) fun xs2 s3 =>
K (nth xs2 0) s3
theorem F.spec_l03Reader_eight_eq (G : Seal) (a0 : AV) (K : KAV) (s0 : AHeap) : F.spec_l03Reader_eight G a0 K s0 = denF PP G { keep := [0, 2, 3, 4, 6] } Tryz.f25 [a0] K s0 := by kernel_rfl
theorem F.spec_l03Reader_eight_ok {G : Seal} {a0 : AV} {Q : KAV} {s0 : AHeap} (h : F.spec_l03Reader_eight G a0 (Fin Q) s0) : ACalls PP G N.spec_l03Reader_eight [a0] s0 Q :=
  acalls_of_den (fn := Tryz.f25) (C := { keep := [0, 2, 3, 4, 6] }) mixed (by kernel_rfl) (by kernel_rfl) (by kernel_rfl) (Eq.mp (F.spec_l03Reader_eight_eq G a0 _ _) h)

def F.spec_l03Reader_one (G : Seal) (a0 : AV) (K : KAV) (s0 : AHeap) : Prop :=
JOIN (fun k1 =>
NILCK a0 s0 fun v4 s5 =>
FA 2 v4 s5 fun v6 s7 =>
LOAD .one v6 s7 fun v8 s9 =>
JOIN (fun k10 => IFG false v8 (k10 [a0] s9) (k10 [U] s9)) fun xs11 s12 =>
JOIN (fun k13 => IFG false v8 (NILCK (nth xs11 0) s12 fun v16 s17 =>
k13 [v16] s17) (k13 [U] s12)) fun xs14 s15 =>
JOIN (fun k18 => IFG false v8 (FA 1 (nth xs14 0) s15 fun v21 s22 =>
k18 [v21] s22) (k18 [U] s15)) fun xs19 s20 =>
JOIN (fun k23 => IFG false v8 (LOAD .one (nth xs19 0) s20 fun v26 s27 =>
k23 [v26] s27) (k23 [U] s20)) fun xs24 s25 =>
JOIN (fun k28 => IFG false v8 (k28 [a0] s25) (k28 [U] s25)) fun xs29 s30 =>
JOIN (fun k31 => IFG false v8 (NILCK (nth xs29 0) s30 fun v34 s35 =>
k31 [v34] s35) (k31 [U] s30)) fun xs32 s33 =>
JOIN (fun k36 => IFG false v8 (FA 0 (nth xs32 0) s33 fun v39 s40 =>
k36 [v39] s40) (k36 [U] s33)) fun xs37 s38 =>
JOIN (fun k41 => IFG false v8 (LOAD .one (nth xs37 0) s38 fun v44 s45 =>
k41 [v44] s45) (k41 [U] s38)) fun xs42 s43 =>
JOIN (fun k46 => IFG false v8 (LENL (nth xs42 0) s43 fun v49 s50 =>
k46 [v49] s50) (k46 [U] s43)) fun xs47 s48 =>
JOIN (fun k51 => IFG false v8 (BIN PP .geq 3 (nth xs24 0) (nth xs47 0) s48 fun v54 s55 =>
k51 [v54] s55) (k51 [U] s48)) fun xs52 s53 =>
PICK v8 (Bo true) (nth xs52 0) s53 fun v56 s57 =>
IFB v56 (NILCK a0 s57 fun v58 s59 =>
FA 2 v58 s59 fun v60 s61 =>
STORE 1 v60 (Bo true) s61 fun u62 s63 =>
K (I 0) s63) (k1 [I 0, v56] s57)) fun xs2 s3 =>
NILCK a0 s3 fun v64 s65 =>
FA 1 v64 s65 fun v66 s67 =>
LOAD .one v66 s67 fun v68 s69 =>
BIN PP .add 3 v68 (I 1) s69 fun v70 s71 =>
NILCK a0 s71 fun v72 s73 =>
FA 1 v72 s73 fun v74 s75 =>
STORE 1 v74 v70 s75 fun u76 s77 =>
NILCK a0 s77 fun v78 s79 =>
FA 0 v78 s79 fun v80 s81 =>
LOAD .one v80 s81 fun v82 s83 =>
NILCK a0 s83 fun v84 s85 =>
FA 1 v84 s85 fun v86 s87 =>
LOAD .one v86 s87 fun v88 s89 =>
BIN PP .sub 3 v88 (I 1) s89 fun v90 s91 =>
IA (.slice 1) v82 v90 s91 fun v92 s93 =>
LOAD .one v92 s93 fun v94 s95 =>
CONV (.int .i64) v94 s95 fun v96 s97 =>
K v96 s97
theorem F.spec_l03Reader_one_eq (G : Seal) (a0 : AV) (K : KAV) (s0 : AHeap) : F.spec_l03Reader_one G a0 K s0 = denF PP G { keep := [0, 2, 18] } Tryz.f26 [a0] K s0 := by kernel_rfl
theorem F.spec_l03Reader_one_ok {G : Seal} {a0 : AV} {Q : KAV} {s0 : AHeap} (h : F.spec_l03Reader_one G a0 (Fin Q) s0) : ACalls PP G N.spec_l03Reader_one [a0] s0 Q :=
  acalls_of_den (fn := Tryz.f26) (C := { keep := [0, 2, 18] }) mixed (by kernel_rfl) (by kernel_rfl) (by kernel_rfl) (Eq.mp (F.spec_l03Reader_one_eq G a0 _ _) h)

def F.spec_ObjectOK (G : Seal) (a0 : AV) (K : KAV) (s0 : AHeap) : Prop :=
BOX 5 a0 s0 fun o_1 s2 =>
JOIN (fun k3 =>
FA 0 o_1 s2 fun v6 s7 =>
LOAD .one v6 s7 fun v8 s9 =>
ACalls PP G N.spec_l02Name [v8] s9 fun v10 s11 =>
UN PP .not v10 s11 fun v12 s13 =>
JOIN (fun k14 => IFG false v12 (FA 1 o_1 s13 fun v17 s18 =>
LOAD .one v17 s18 fun v19 s20 =>
ACalls PP G N.spec_l01In [v19, I 0, I 4294967295] s20 fun v21 s22 =>
UN PP .not v21 s22 fun v23 s24 =>
k14 [v17, v19, v21, v23] s24) (k14 [U, U, U, U] s13)) fun xs15 s16 =>
PICK v12 (Bo true) (nth xs15 3) s16 fun v25 s26 =>
JOIN (fun k27 => IFG false v25 (FA 2 o_1 s26 fun v30 s31 =>
LOAD .one v30 s31 fun v32 s33 =>
LENL v32 s33 fun v34 s35 =>
BIN PP .gtr 3 v34 (I 20) s35 fun v36 s37 =>
k27 [v30, v32, v34, v36] s37) (k27 [U, U, U, U] s26)) fun xs28 s29 =>
PICK v25 (Bo true) (nth xs28 3) s29 fun v38 s39 =>
JOIN (fun k40 => IFG false v38 (FA 3 o_1 s39 fun v43 s44 =>
LOAD .one v43 s44 fun v45 s46 =>
LENL v45 s46 fun v47 s48 =>
BIN PP .gtr 3 v47 (I 100) s48 fun v49 s50 =>
k40 [v43, v45, v47, v49] s50) (k40 [U, U, U, U] s39)) fun xs41 s42 =>
PICK v38 (Bo true) (nth xs41 3) s42 fun v51 s52 =>
JOIN (fun k53 => IFG false v51 (FA 4 o_1 s52 fun v56 s57 =>
LOAD .one v56 s57 fun v58 s59 =>
LENL v58 s59 fun v60 s61 =>
BIN PP .eql 3 v60 (I 0) s61 fun v62 s63 =>
k53 [v56, v58, v60, v62] s63) (k53 [U, U, U, U] s52)) fun xs54 s55 =>
PICK v51 (Bo true) (nth xs54 3) s55 fun v64 s65 =>
JOIN (fun k66 => IFG false v64 (FA 4 o_1 s65 fun v69 s70 =>
LOAD .one v69 s70 fun v71 s72 =>
LENL v71 s72 fun v73 s74 =>
BIN PP .gtr 3 v73 (I 60) s74 fun v75 s76 =>
k66 [v69, v71, v73, v75] s76) (k66 [U, U, U, U] s65)) fun xs67 s68 =>
PICK v64 (Bo true) (nth xs67 3) s68 fun v77 s78 =>
IFB v77 (K (Bo false) s78) (k3 [Bo false, v77] s78)) fun xs4 s5 =>
JOIN (fun k79 =>
LOOP (fun rec82 xs83 s84 =>
JOIN (fun k85 =>
FA 2 o_1 s84 fun v88 s89 =>
LOAD .one v88 s89 fun v90 s91 =>
LENL v90 s91 fun v92 s93 =>
BIN PP .lss 3 (nth xs83 1) v92 s93 fun v94 s95 =>
IFB v94 (k85 [v94] s95) (k79 [nth xs83 0, nth xs83 1, v94, nth xs83 3] s95)) fun xs86 s87 =>
JOIN (fun k96 =>
FA 2 o_1 s87 fun v99 s100 =>
LOAD .one v99 s100 fun v101 s102 =>
IA (.slice 2) v101 (nth xs83 1) s102 fun v103 s104 =>
FA 0 v103 s104 fun v105 s106 =>
LOAD .one v105 s106 fun v107 s108 =>
ACalls PP G N.spec_l02Name [v107] s108 fun v109 s110 =>
UN PP .not v109 s110 fun v111 s112 =>
JOIN (fun k113 => IFG false v111 (FA 2 o_1 s112 fun v116 s117 =>
LOAD .one v116 s117 fun v118 s119 =>
IA (.slice 2) v118 (nth xs83 1) s119 fun v120 s121 =>
FA 1 v120 s121 fun v122 s123 =>
LOAD .one v122 s123 fun v124 s125 =>
ACalls PP G N.spec_l01In [v124, I 0, I 4294967295] s125 fun v126 s127 =>
UN PP .not v126 s127 fun v128 s129 =>
k113 [v116, v118, nth xs83 1, v120, v122, v124, v126, v128] s129) (k113 [U, U, U, U, U, U, U, U] s112)) fun xs114 s115 =>
PICK v111 (Bo true) (nth xs114 7) s115 fun v130 s131 =>
IFB v130 (K (Bo false) s131) (k96 [nth xs83 0, v130] s131)) fun xs97 s98 =>
BIN PP .add 3 (nth xs83 1) (I 1) s98 fun v132 s133 =>
rec82 [nth xs97 0, v132, nth xs86 0, nth xs97 1] s133) [nth xs4 0, I 0, .un, .un] s5) fun xs80 s81 =>
LIT false 1 [] s81 fun v134 s135 =>
JOIN (fun k136 =>
LOOP (fun rec139 xs140 s141 =>
JOIN (fun k142 =>
FA 3 o_1 s141 fun v145 s146 =>
LOAD .one v145 s146 fun v147 s148 =>
LENL v147 s148 fun v149 s150 =>
BIN PP .lss 3 (nth xs140 2) v149 s150 fun v151 s152 =>
IFB v151 (k142 [v151] s152) (k136 [nth xs140 0, nth xs140 1, nth xs140 2, nth xs140 3, v151, nth xs140 5] s152)) fun xs143 s144 =>
JOIN (fun k153 =>
FA 3 o_1 s144 fun v156 s157 =>
LOAD .one v156 s157 fun v158 s159 =>
IA (.slice 2) v158 (nth xs140 2) s159 fun v160 s161 =>
LOAD (.agg 2) v160 s161 fun v162 s163 =>
NEW [St (bs []), I 0] s163 fun x_164 s165 =>
STORE 2 x_164 v162 s165 fun u166 s167 =>
JOIN (fun k168 =>
FA 0 x_164 s167 fun v171 s172 =>
LOAD .one v171 s172 fun v173 s174 =>
ACalls PP G N.spec_l02Name [v173] s174 fun v175 s176 =>
UN PP .not v175 s176 fun v177 s178 =>
JOIN (fun k179 => IFG false v177 (FA 1 x_164 s178 fun v182 s183 =>
LOAD .one v182 s183 fun v184 s185 =>
ACalls PP G N.spec_l01In [v184, I 0, I 100] s185 fun v186 s187 =>
UN PP .not v186 s187 fun v188 s189 =>
k179 [v182, v184, v186, v188] s189) (k179 [U, U, U, U] s178)) fun xs180 s181 =>
PICK v177 (Bo true) (nth xs180 3) s181 fun v190 s191 =>
JOIN (fun k192 => IFG false v190 (FA 0 x_164 s191 fun v195 s196 =>
LOAD .one v195 s196 fun v197 s198 =>
ACalls PP G N.spec_l01Place [nth xs140 1, v197] s198 fun v199 s200 =>
BIN PP .geq 3 v199 (I 0) s200 fun v201 s202 =>
k192 [nth xs140 1, v195, v197, v199, v201] s202) (k192 [U, U, U, U, U] s191)) fun xs193 s194 =>
PICK v190 (Bo true) (nth xs193 4) s194 fun v203 s204 =>
IFB v203 (K (Bo false) s204) (k168 [nth xs140 0, v203] s204)) fun xs169 s170 =>
FA 0 x_164 s170 fun v205 s206 =>
LOAD .one v205 s206 fun v207 s208 =>
LIT false 1 [v207] s208 fun v209 s210 =>
APPL false 1 16 (nth xs140 1) v209 s210 fun v211 s212 =>
k153 [nth xs169 0, v211, x_164, nth xs169 1] s212) fun xs154 s155 =>
BIN PP .add 3 (nth xs140 2) (I 1) s155 fun v213 s214 =>
rec139 [nth xs154 0, nth xs154 1, v213, nth xs154 2, nth xs143 0, nth xs154 3] s214) [nth xs80 0, v134, I 0, .un, .un, .un] s135) fun xs137 s138 =>
JOIN (fun k215 =>
LOOP (fun rec218 xs219 s220 =>
JOIN (fun k221 =>
FA 4 o_1 s220 fun v224 s225 =>
LOAD .one v224 s225 fun v226 s227 =>
LENL v226 s227 fun v228 s229 =>
BIN PP .lss 3 (nth xs219 2) v228 s229 fun v230 s231 =>
IFB v230 (k221 [v230] s231) (k215 [nth xs219 0, nth xs219 1, nth xs219 2, nth xs219 3, nth xs219 4, v230, nth xs219 6] s231)) fun xs222 s223 =>
JOIN (fun k232 =>
FA 4 o_1 s223 fun v235 s236 =>
LOAD .one v235 s236 fun v237 s238 =>
IA (.slice 5) v237 (nth xs219 2) s238 fun v239 s240 =>
LOAD (.agg 5) v239 s240 fun v241 s242 =>
NEW [St (bs []), I 0, I 0, I 0, .nl] s242 fun x_243 s244 =>
STORE 5 x_243 v241 s244 fun u245 s246 =>
JOIN (fun k247 =>
LOAD (.agg 5) x_243 s246 fun v250 s251 =>
ACalls PP G N.spec_l04Verify [v250] s251 fun v252 s253 =>
TUP v252 0 s253 fun v254 s255 =>
TUP v252 1 s255 fun v256 s257 =>
BIN PP .neq 3 v254 (I 0) s257 fun v258 s259 =>
JOIN (fun k260 => IFG false v258 (FA 0 x_243 s259 fun v263 s264 =>
LOAD .one v263 s264 fun v265 s266 =>
BIN PP .eql 9 v265 (St (bs [])) s266 fun v267 s268 =>
FA 4 o_1 s268 fun v269 s270 =>
LOAD .one v269 s270 fun v271 s272 =>
LENL v271 s272 fun v273 s274 =>
BIN PP .sub 3 v273 (I 1) s274 fun v275 s276 =>
BIN PP .eql 3 (nth xs219 2) v275 s276 fun v277 s278 =>
BIN PP .neq 4 v267 v277 s278 fun v279 s280 =>
k260 [v263, v265, v267, nth xs219 2, v269, v271, v273, v275, v277, v279] s280) (k260 [U, U, U, U, U, U, U, U, U, U] s259)) fun xs261 s262 =>
PICK v258 (Bo true) (nth xs261 9) s262 fun v281 s282 =>
JOIN (fun k283 => IFG false v281 (FA 0 x_243 s282 fun v286 s287 =>
LOAD .one v286 s287 fun v288 s289 =>
ACalls PP G N.spec_l01Place [nth xs219 1, v288] s289 fun v290 s291 =>
BIN PP .geq 3 v290 (I 0) s291 fun v292 s293 =>
k283 [nth xs219 1, v286, v288, v290, v292] s293) (k283 [U, U, U, U, U] s282)) fun xs284 s285 =>
PICK v281 (Bo true) (nth xs284 4) s285 fun v294 s295 =>
IFB v294 (K (Bo false) s295) (k247 [nth xs219 0, v254, v294] s295)) fun xs248 s249 =>
FA 0 x_243 s249 fun v296 s297 =>
LOAD .one v296 s297 fun v298 s299 =>
LIT false 1 [v298] s299 fun v300 s301 =>
APPL false 1 16 (nth xs219 1) v300 s301 fun v302 s303 =>
k232 [nth xs248 0, v302, x_243, nth xs248 1, nth xs248 2] s303) fun xs233 s234 =>
BIN PP .add 3 (nth xs219 2) (I 1) s234 fun v304 s305 =>
rec218 [nth xs233 0, nth xs233 1, v304, nth xs233 2, nth xs233 3, nth xs222 0, nth xs233 4] s305) [nth xs137 0, nth xs137 1, I 0, .un, .un, .un, .un] s138) fun xs216 s217 =>
K (Bo true) s217
theorem F.spec_ObjectOK_eq (G : Seal) (a0 : AV) (K : KAV) (s0 : AHeap) : F.spec_ObjectOK G a0 K s0 = denF PP G { keep := [0, 1, 2, 3, 4, 5, 6, 7, 8, 9, 44, 49, 69, 75, 99, 109, 142] } Tryz.f27 [a0] K s0 := by kernel_rfl
theorem F.spec_ObjectOK_ok {G : Seal} {a0 : AV} {Q : KAV} {s0 : AHeap} (h : F.spec_ObjectOK G a0 (Fin Q) s0) : ACalls PP G N.spec_ObjectOK [a0] s0 Q :=
  acalls_of_den (fn := Tryz.f27) (C := { keep := [0, 1, 2, 3, 4, 5, 6, 7, 8, 9, 44, 49, 69, 75, 99, 109, 142] }) mixed (by kernel_rfl) (by kernel_rfl) (by kernel_rfl) (Eq.mp (F.spec_ObjectOK_eq G a0 _ _) h)

def F.impl_reader_head (G : Seal) (a0 : AV) (a1 : AV) (K : KAV) (s0 : AHeap) : Prop :=
LENS a1 s0 fun v1 s2 =>
ACalls PP G N.impl_reader_take [a0, v1] s2 fun v3 s4 =>
BIN PP .neq 9 v3 a1 s4 fun v5 s6 =>
JOIN (fun k7 => IFG false v5 (NILCK a0 s6 fun v10 s11 =>
FA 2 v10 s11 fun v12 s13 =>
LOAD .one v12 s13 fun v14 s15 =>
k7 [a0, v10, v12, v14] s15) (k7 [U, U, U, U] s6)) fun xs8 s9 =>
PICK v5 (Bo true) (nth xs8 3) s9 fun v16 s17 =>
NILCK a0 s17 fun v18 s19 =>
FA 2 v18 s19 fun v20 s21 =>
STORE 1 v20 v16 s21 fun u22 s23 =>
K (.tu []) s23
theorem F.impl_reader_head_eq (G : Seal) (a0 : AV) (a1 : AV) (K : KAV) (s0 : AHeap) : F.impl_reader_head G a0 a1 K s0 = denF PP G { keep := [0, 1] } Tryz.f28 [a0, a1] K s0 := by kernel_rfl
theorem F.impl_reader_head_ok {G : Seal} {a0 : AV} {a1 : AV} {Q : KAV} {s0 : AHeap} (h : F.impl_reader_head G a0 a1 (Fin Q) s0) : ACalls PP G N.impl_reader_head [a0, a1] s0 Q :=
  acalls_of_den (fn := Tryz.f28) (C := { keep := [0, 1] }) mixed (by kernel_rfl) (by kernel_rfl) (by kernel_rfl) (Eq.mp (F.impl_reader_head_eq G a0 a1 _ _) h)

def F.impl_reader_text (G : Seal) (a0 : AV) (K : KAV) (s0 : AHeap) : Prop :=
ACalls PP G N.impl_reader_number [a0, I 1] s0 fun v1 s2 =>
ACalls PP G N.impl_reader_take [a0, v1] s2 fun v3 s4 =>
K v3 s4
theorem F.impl_reader_text_eq (G : Seal) (a0 : AV) (K : KAV) (s0 : AHeap) : F.impl_reader_text G a0 K s0 = denF PP G { keep := [0, 2] } Tryz.f29 [a0] K s0 := by kernel_rfl
theorem F.impl_reader_text_ok {G : Seal} {a0 : AV} {Q : KAV} {s0 : AHeap} (h : F.impl_reader_text G a0 (Fin Q) s0) : ACalls PP G N.impl_reader_text [a0] s0 Q :=
  acalls_of_den (fn := Tryz.f29) (C := { keep := [0, 2] }) mixed (by kernel_rfl) (by kernel_rfl) (by kernel_rfl) (Eq.mp (F.impl_reader_text_eq G a0 _ _) h)

def F.impl_reader_number (G : Seal) (a0 : AV) (a1 : AV) (K : KAV) (s0 : AHeap) : Prop :=
JOIN (fun k1 =>
ACalls PP G N.impl_reader_take [a0, a1] s0 fun v4 s5 =>
CONV (.toBytes 5) v4 s5 fun v6 s7 =>
LENL v6 s7 fun v8 s9 =>
LOOP (fun rec10 xs11 s12 =>
BIN PP .lss 3 (nth xs11 2) v8 s12 fun v13 s14 =>
JOIN (fun k15 =>
IFB v13 (k15 [] s14) (k1 [nth xs11 0, nth xs11 1, v6, v8, nth xs11 2, v13] s14)) fun xs16 s17 =>
JOIN (fun k18 =>
IA (.slice 1) v6 (nth xs11 2) s17 fun v21 s22 =>
LOAD .one v21 s22 fun v23 s24 =>
BIN PP .shl 3 (nth xs11 0) (.sc (.int .u64 8)) s24 fun v25 s26 =>
CONV (.int .i64) v23 s26 fun v27 s28 =>
BIN PP .or 3 v25 v27 s28 fun v29 s30 =>
k18 [v29, v23] s30) fun xs19 s20 =>
BIN PP .add 3 (nth xs11 2) (I 1) s20 fun v31 s32 =>
rec10 [nth xs19 0, nth xs19 1, v31, v13] s32) [I 0, .un, I 0, .un] s9) fun xs2 s3 =>
K (nth xs2 0) s3
theorem F.impl_reader_number_eq (G : Seal) (a0 : AV) (a1 : AV) (K : KAV) (s0 : AHeap) : F.impl_reader_number G a0 a1 K s0 = denF PP G { keep := [0, 1, 4, 5, 7, 11, 12, 13, 14] } Tryz.f30 [a0, a1] K s0 := by kernel_rfl
theorem F.impl_reader_number_ok {G : Seal} {a0 : AV} {a1 : AV} {Q : KAV} {s0 : AHeap} (h : F.impl_reader_number G a0 a1 (Fin Q) s0) : ACalls PP G N.impl_reader_number [a0, a1] s0 Q :=
  acalls_of_den (fn := Tryz.f30) (C := { keep := [0, 1, 4, 5, 7, 11, 12, 13, 14] }) mixed (by kernel_rfl) (by kernel_rfl) (by kernel_rfl) (Eq.mp (F.impl_reader_number_eq G a0 a1 _ _) h)

def F.impl_reader_code (G : Seal) (a0 : AV) (K : KAV) (s0 : AHeap) : Prop :=
NEW [St (bs []), I 0, I 0, I 0, .nl] s0 fun v1 s2 =>
ACalls PP G N.impl_reader_text [a0] s2 fun v3 s4 =>
ACalls PP G N.impl_reader_number [a0, I 1] s4 fun v5 s6 =>
ACalls PP G N.impl_reader_number [a0, I 2] s6 fun v7 s8 =>
ACalls PP G N.impl_reader_number [a0, I 1] s8 fun v9 s10 =>
BUILD [St (bs []), I 0, I 0, I 0, .nl] [(0, 1, v3), (1, 1, v5), (2, 1, v7), (3, 1, v9)] s10 fun v11 s12 =>
NEW [St (bs []), I 0, I 0, I 0, .nl] s12 fun c_13 s14 =>
STORE 5 c_13 v11 s14 fun u15 s16 =>
JOIN (fun k17 =>
ACalls PP G N.impl_reader_number [a0, I 2] s16 fun v20 s21 =>
LOOP (fun rec22 xs23 s24 =>
BIN PP .lss 3 (nth xs23 1) v20 s24 fun v25 s26 =>
JOIN (fun k27 =>
IFB v25 (k27 [] s26) (k17 [nth xs23 0, v20, nth xs23 1, v25, nth xs23 3, nth xs23 4] s26)) fun xs28 s29 =>
JOIN (fun k30 =>
JOIN (fun k33 =>
NILCK a0 s29 fun v36 s37 =>
FA 2 v36 s37 fun v38 s39 =>
LOAD .one v38 s39 fun v40 s41 =>
IFB v40 (k17 [nth xs23 0, v20, nth xs23 1, v25, v40, nth xs23 4] s41) (k33 [v40] s41)) fun xs34 s35 =>
ACalls PP G N.impl_reader_number [a0, I 1] s35 fun v42 s43 =>
ACalls PP G N.impl_reader_number [a0, I 8] s43 fun v44 s45 =>
BUILD [I 0, I 0, I 0, St (bs []), St (bs [])] [(0, 1, v42), (1, 1, v44)] s45 fun v46 s47 =>
NEW [I 0, I 0, I 0, St (bs []), St (bs [])] s47 fun x_48 s49 =>
STORE 5 x_48 v46 s49 fun u50 s51 =>
JOIN (fun k52 =>
FA 0 x_48 s51 fun v55 s56 =>
LOAD .one v55 s56 fun v57 s58 =>
ACalls PP G N.impl_hasPlace [v57] s58 fun v59 s60 =>
IFB v59 (ACalls PP G N.impl_reader_number [a0, I 1] s60 fun v61 s62 =>
ACalls PP G N.impl_reader_text [a0] s62 fun v63 s64 =>
ACalls PP G N.impl_reader_text [a0] s64 fun v65 s66 =>
FA 2 x_48 s66 fun v67 s68 =>
STORE 1 v67 v61 s68 fun u69 s70 =>
FA 3 x_48 s70 fun v71 s72 =>
STORE 1 v71 v63 s72 fun u73 s74 =>
FA 4 x_48 s74 fun v75 s76 =>
STORE 1 v75 v65 s76 fun u77 s78 =>
k52 [v59] s78) (k52 [v59] s60)) fun xs53 s54 =>
FA 4 c_13 s54 fun v79 s80 =>
LOAD .one v79 s80 fun v81 s82 =>
LOAD (.agg 5) x_48 s82 fun v83 s84 =>
LIT false 5 [v83] s84 fun v85 s86 =>
APPL true 5 56 v81 v85 s86 fun v87 s88 =>
FA 4 c_13 s88 fun v89 s90 =>
STORE 1 v89 v87 s90 fun u91 s92 =>
k30 [x_48, nth xs34 0, nth xs53 0] s92) fun xs31 s32 =>
BIN PP .add 3 (nth xs23 1) (I 1) s32 fun v93 s94 =>
rec22 [nth xs31 0, v93, v25, nth xs31 1, nth xs31 2] s94) [.un, I 0, .un, .un, .un] s21) fun xs18 s19 =>
LOAD (.agg 5) c_13 s19 fun v95 s96 =>
STORE 5 v1 v95 s96 fun u97 s98 =>
LOAD (.agg 5) v1 s98 fun r99 s100 =>
K r99 s100
theorem F.impl_reader_code_eq (G : Seal) (a0 : AV) (K : KAV) (s0 : AHeap) : F.impl_reader_code G a0 K s0 = denF PP G { keep := [0, 2, 3, 4, 15, 16, 17, 21, 29], own := [43] } Tryz.f31 [a0] K s0 := by kernel_rfl
theorem F.impl_reader_code_ok {G : Seal} {a0 : AV} {Q : KAV} {s0 : AHeap} (h : F.impl_reader_code G a0 (Fin Q) s0) : ACalls PP G N.impl_reader_code [a0] s0 Q :=
  acalls_of_den (fn := Tryz.f31) (C := { keep := [0, 2, 3, 4, 15, 16, 17, 21, 29], own := [43] }) mixed (by kernel_rfl) (by kernel_rfl) (by kernel_rfl) (Eq.mp (F.impl_reader_code_eq G a0 _ _) h)

def F.impl_reader_ends (G : Seal) (a0 : AV) (K : KAV) (s0 : AHeap) : Prop :=
NILCK a0 s0 fun v1 s2 =>
FA 2 v1 s2 fun v3 s4 =>
LOAD .one v3 s4 fun v5 s6 =>
UN PP .not v5 s6 fun v7 s8 =>
JOIN (fun k9 => IFG true v7 (k9 [a0] s8) (k9 [U] s8)) fun xs10 s11 =>
JOIN (fun k12 => IFG true v7 (NILCK (nth xs10 0) s11 fun v15 s16 =>
k12 [v15] s16) (k12 [U] s11)) fun xs13 s14 =>
JOIN (fun k17 => IFG true v7 (FA 1 (nth xs13 0) s14 fun v20 s21 =>
k17 [v20] s21) (k17 [U] s14)) fun xs18 s19 =>
JOIN (fun k22 => IFG true v7 (LOAD .one (nth xs18 0) s19 fun v25 s26 =>
k22 [v25] s26) (k22 [U] s19)) fun xs23 s24 =>
JOIN (fun k27 => IFG true v7 (k27 [a0] s24) (k27 [U] s24)) fun xs28 s29 =>
JOIN (fun k30 => IFG true v7 (NILCK (nth xs28 0) s29 fun v33 s34 =>
k30 [v33] s34) (k30 [U] s29)) fun xs31 s32 =>
JOIN (fun k35 => IFG true v7 (FA 0 (nth xs31 0) s32 fun v38 s39 =>
k35 [v38] s39) (k35 [U] s32)) fun xs36 s37 =>
JOIN (fun k40 => IFG true v7 (LOAD .one (nth xs36 0) s37 fun v43 s44 =>
k40 [v43] s44) (k40 [U] s37)) fun xs41 s42 =>
JOIN (fun k45 => IFG true v7 (LENS (nth xs41 0) s42 fun v48 s49 =>
k45 [v48] s49) (k45 [U] s42)) fun xs46 s47 =>
JOIN (fun k50 => IFG true v7 (BIN PP .eql 3 (nth xs23 0) (nth xs46 0) s47 fun v53 s54 =>
k50 [v53] s54) (k50 [U] s47)) fun xs51 s52 =>
PICK v7 (nth xs51 0) (Bo false) s52 fun v55 s56 =>
K v55 s56
theorem F.impl_reader_ends_eq (G : Seal) (a0 : AV) (K : KAV) (s0 : AHeap) : F.impl_reader_ends G a0 K s0 = denF PP G { keep := [0, 2] } Tryz.f32 [a0] K s0 := by kernel_rfl
theorem F.impl_reader_ends_ok {G : Seal} {a0 : AV} {Q : KAV} {s0 : AHeap} (h : F.impl_reader_ends G a0 (Fin Q) s0) : ACalls PP G N.impl_reader_ends [a0] s0 Q :=
  acalls_of_den (fn := Tryz.f32) (C := { keep := [0, 2] }) mixed (by kernel_rfl) (by kernel_rfl) (by kernel_rfl) (Eq.mp (F.impl_reader_ends_eq G a0 _ _) h)

def F.impl_ObjectOK (G : Seal) (a0 : AV) (K : KAV) (s0 : AHeap) : Prop :=
BOX 5 a0 s0 fun o_1 s2 =>
JOIN (fun k3 =>
FA 0 o_1 s2 fun v6 s7 =>
LOAD .one v6 s7 fun v8 s9 =>
ACalls PP G N.impl_isName [v8] s9 fun v10 s11 =>
UN PP .not v10 s11 fun v12 s13 =>
JOIN (fun k14 => IFG false v12 (FA 1 o_1 s13 fun v17 s18 =>
LOAD .one v17 s18 fun v19 s20 =>
ACalls PP G N.impl_isPrint [v19] s20 fun v21 s22 =>
UN PP .not v21 s22 fun v23 s24 =>
k14 [v17, v19, v21, v23] s24) (k14 [U, U, U, U] s13)) fun xs15 s16 =>
PICK v12 (Bo true) (nth xs15 3) s16 fun v25 s26 =>
JOIN (fun k27 => IFG false v25 (FA 2 o_1 s26 fun v30 s31 =>
LOAD .one v30 s31 fun v32 s33 =>
LENL v32 s33 fun v34 s35 =>
BIN PP .gtr 3 v34 (I 20) s35 fun v36 s37 =>
k27 [v30, v32, v34, v36] s37) (k27 [U, U, U, U] s26)) fun xs28 s29 =>
PICK v25 (Bo true) (nth xs28 3) s29 fun v38 s39 =>
JOIN (fun k40 => IFG false v38 (FA 3 o_1 s39 fun v43 s44 =>
LOAD .one v43 s44 fun v45 s46 =>
LENL v45 s46 fun v47 s48 =>
BIN PP .gtr 3 v47 (I 100) s48 fun v49 s50 =>
k40 [v43, v45, v47, v49] s50) (k40 [U, U, U, U] s39)) fun xs41 s42 =>
PICK v38 (Bo true) (nth xs41 3) s42 fun v51 s52 =>
JOIN (fun k53 => IFG false v51 (FA 4 o_1 s52 fun v56 s57 =>
LOAD .one v56 s57 fun v58 s59 =>
LENL v58 s59 fun v60 s61 =>
ACalls PP G N.impl_within [v60, I 1, I 60] s61 fun v62 s63 =>
UN PP .not v62 s63 fun v64 s65 =>
k53 [v56, v58, v60, v62, v64] s65) (k53 [U, U, U, U, U] s52)) fun xs54 s55 =>
PICK v51 (Bo true) (nth xs54 4) s55 fun v66 s67 =>
IFB v66 (K (Bo false) s67) (k3 [Bo false, v66] s67)) fun xs4 s5 =>
JOIN (fun k68 =>
FA 3 o_1 s5 fun v71 s72 =>
LOAD .one v71 s72 fun v73 s74 =>
LENL v73 s74 fun v75 s76 =>
LOOP (fun rec77 xs78 s79 =>
BIN PP .lss 3 (nth xs78 3) v75 s79 fun v80 s81 =>
JOIN (fun k82 =>
IFB v80 (k82 [] s81) (k68 [nth xs78 0, nth xs78 1, nth xs78 2, v73, v75, nth xs78 3, v80, nth xs78 5] s81)) fun xs83 s84 =>
JOIN (fun k85 =>
IA (.slice 2) v73 (nth xs78 3) s84 fun v88 s89 =>
LOAD (.agg 2) v88 s89 fun v90 s91 =>
NEW [St (bs []), I 0] s91 fun g_92 s93 =>
STORE 2 g_92 v90 s93 fun u94 s95 =>
JOIN (fun k96 =>
FA 0 g_92 s95 fun v99 s100 =>
LOAD .one v99 s100 fun v101 s102 =>
ACalls PP G N.impl_isName [v101] s102 fun v103 s104 =>
UN PP .not v103 s104 fun v105 s106 =>
JOIN (fun k107 => IFG false v105 (FA 1 g_92 s106 fun v110 s111 =>
LOAD .one v110 s111 fun v112 s113 =>
ACalls PP G N.impl_within [v112, I 0, I 100] s113 fun v114 s115 =>
UN PP .not v114 s115 fun v116 s117 =>
k107 [v110, v112, v114, v116] s117) (k107 [U, U, U, U] s106)) fun xs108 s109 =>
PICK v105 (Bo true) (nth xs108 3) s109 fun v118 s119 =>
IFB v118 (K (Bo false) s119) (k96 [nth xs78 0, v118] s119)) fun xs97 s98 =>
FA 0 g_92 s98 fun v120 s121 =>
LOAD .one v120 s121 fun v122 s123 =>
LIT false 1 [v122] s123 fun v124 s125 =>
APPL false 1 16 (nth xs78 1) v124 s125 fun v126 s127 =>
k85 [nth xs97 0, v126, g_92, nth xs97 1] s127) fun xs86 s87 =>
BIN PP .add 3 (nth xs78 3) (I 1) s87 fun v128 s129 =>
rec77 [nth xs86 0, nth xs86 1, nth xs86 2, v128, v80, nth xs86 3] s129) [nth xs4 0, .nl, .un, I 0, .un, .un] s76) fun xs69 s70 =>
JOIN (fun k130 =>
FA 4 o_1 s70 fun v133 s134 =>
LOAD .one v133 s134 fun v135 s136 =>
LENL v135 s136 fun v137 s138 =>
LOOP (fun rec139 xs140 s141 =>
BIN PP .lss 3 (nth xs140 4) v137 s141 fun v142 s143 =>
JOIN (fun k144 =>
IFB v142 (k144 [] s143) (k130 [nth xs140 0, nth xs140 1, nth xs140 2, nth xs140 3, v135, v137, nth xs140 4, v142, nth xs140 6] s143)) fun xs145 s146 =>
JOIN (fun k147 =>
IA (.slice 5) v135 (nth xs140 4) s146 fun v150 s151 =>
LOAD (.agg 5) v150 s151 fun v152 s153 =>
NEW [St (bs []), I 0, I 0, I 0, .nl] s153 fun c_154 s155 =>
STORE 5 c_154 v152 s155 fun u156 s157 =>
JOIN (fun k158 =>
LOAD (.agg 5) c_154 s157 fun v161 s162 =>
ACalls PP G N.impl_Code_verifies [v161] s162 fun v163 s164 =>
UN PP .not v163 s164 fun v165 s166 =>
JOIN (fun k167 => IFG false v165 (FA 0 c_154 s166 fun v170 s171 =>
LOAD .one v170 s171 fun v172 s173 =>
BIN PP .eql 9 v172 (St (bs [])) s173 fun v174 s175 =>
FA 4 o_1 s175 fun v176 s177 =>
LOAD .one v176 s177 fun v178 s179 =>
LENL v178 s179 fun v180 s181 =>
BIN PP .sub 3 v180 (I 1) s181 fun v182 s183 =>
BIN PP .eql 3 (nth xs140 4) v182 s183 fun v184 s185 =>
BIN PP .neq 4 v174 v184 s185 fun v186 s187 =>
k167 [v170, v172, v174, nth xs140 4, v176, v178, v180, v182, v184, v186] s187) (k167 [U, U, U, U, U, U, U, U, U, U] s166)) fun xs168 s169 =>
PICK v165 (Bo true) (nth xs168 9) s169 fun v188 s189 =>
IFB v188 (K (Bo false) s189) (k158 [nth xs140 0, v188] s189)) fun xs159 s160 =>
FA 0 c_154 s160 fun v190 s191 =>
LOAD .one v190 s191 fun v192 s193 =>
LIT false 1 [v192] s193 fun v194 s195 =>
APPL false 1 16 (nth xs140 1) v194 s195 fun v196 s197 =>
k147 [nth xs159 0, v196, nth xs140 4, c_154, nth xs159 1] s197) fun xs148 s149 =>
BIN PP .add 3 (nth xs140 4) (I 1) s149 fun v198 s199 =>
rec139 [nth xs148 0, nth xs148 1, nth xs148 2, nth xs148 3, v198, v142, nth xs148 4] s199) [nth xs69 0, nth xs69 1, .un, .un, I 0, .un, .un] s138) fun xs131 s132 =>
ACalls PP G N.impl_areDifferent [nth xs131 1] s132 fun v200 s201 =>
JOIN (fun k202 => IFG true v200 (FA 2 o_1 s201 fun v205 s206 =>
LOAD .one v205 s206 fun v207 s208 =>
ACalls PP G N.impl_areAll_impl_Need [v207, .fn (.func N.impl_ObjectOK_1) [] []] s208 fun v209 s210 =>
k202 [v205, v207, v209] s210) (k202 [U, U, U] s201)) fun xs203 s204 =>
PICK v200 (nth xs203 2) (Bo false) s204 fun v211 s212 =>
K v211 s212
theorem F.impl_ObjectOK_eq (G : Seal) (a0 : AV) (K : KAV) (s0 : AHeap) : F.impl_ObjectOK G a0 K s0 = denF PP G { keep := [0, 1, 2, 3, 5, 6, 7, 36, 38, 39, 40, 41, 53, 61, 62, 63, 64, 82] } Tryz.f33 [a0] K s0 := by kernel_rfl
theorem F.impl_ObjectOK_ok {G : Seal} {a0 : AV} {Q : KAV} {s0 : AHeap} (h : F.impl_ObjectOK G a0 (Fin Q) s0) : ACalls PP G N.impl_ObjectOK [a0] s0 Q :=
  acalls_of_den (fn := Tryz.f33) (C := { keep := [0, 1, 2, 3, 5, 6, 7, 36, 38, 39, 40, 41, 53, 61, 62, 63, 64, 82] }) mixed (by kernel_rfl) (by kernel_rfl) (by kernel_rfl) (Eq.mp (F.impl_ObjectOK_eq G a0 _ _) h)

def F.laws_eqNeed (G : Seal) (a0 : AV) (a1 : AV) (K : KAV) (s0 : AHeap) : Prop :=
BOX 2 a0 s0 fun a_1 s2 =>
BOX 2 a1 s2 fun b_3 s4 =>
JOIN (fun k5 =>
FA 0 a_1 s4 fun v8 s9 =>
LOAD .one v8 s9 fun v10 s11 =>
FA 0 b_3 s11 fun v12 s13 =>
LOAD .one v12 s13 fun v14 s15 =>
BIN PP .neq 9 v10 v14 s15 fun v16 s17 =>
IFB v16 (K (Bo false) s17) (k5 [Bo false, v16] s17)) fun xs6 s7 =>
JOIN (fun k18 =>
FA 1 a_1 s7 fun v21 s22 =>
LOAD .one v21 s22 fun v23 s24 =>
FA 1 b_3 s24 fun v25 s26 =>
LOAD .one v25 s26 fun v27 s28 =>
BIN PP .neq 3 v23 v27 s28 fun v29 s30 =>
IFB v29 (K (Bo false) s30) (k18 [nth xs6 0, v29] s30)) fun xs19 s20 =>
K (Bo true) s20
theorem F.laws_eqNeed_eq (G : Seal) (a0 : AV) (a1 : AV) (K : KAV) (s0 : AHeap) : F.laws_eqNeed G a0 a1 K s0 = denF PP G { keep := [0, 1, 2, 3, 4, 9, 14] } Tryz.f34 [a0, a1] K s0 := by kernel_rfl
theorem F.laws_eqNeed_ok {G : Seal} {a0 : AV} {a1 : AV} {Q : KAV} {s0 : AHeap} (h : F.laws_eqNeed G a0 a1 (Fin Q) s0) : ACalls PP G N.laws_eqNeed [a0, a1] s0 Q :=
  acalls_of_den (fn := Tryz.f34) (C := { keep := [0, 1, 2, 3, 4, 9, 14] }) mixed (by kernel_rfl) (by kernel_rfl) (by kernel_rfl) (Eq.mp (F.laws_eqNeed_eq G a0 a1 _ _) h)

def F.laws_eqGlobal (G : Seal) (a0 : AV) (a1 : AV) (K : KAV) (s0 : AHeap) : Prop :=
BOX 2 a0 s0 fun a_1 s2 =>
BOX 2 a1 s2 fun b_3 s4 =>
JOIN (fun k5 =>
FA 0 a_1 s4 fun v8 s9 =>
LOAD .one v8 s9 fun v10 s11 =>
FA 0 b_3 s11 fun v12 s13 =>
LOAD .one v12 s13 fun v14 s15 =>
BIN PP .neq 9 v10 v14 s15 fun v16 s17 =>
IFB v16 (K (Bo false) s17) (k5 [Bo false, v16] s17)) fun xs6 s7 =>
JOIN (fun k18 =>
FA 1 a_1 s7 fun v21 s22 =>
LOAD .one v21 s22 fun v23 s24 =>
FA 1 b_3 s24 fun v25 s26 =>
LOAD .one v25 s26 fun v27 s28 =>
BIN PP .neq 3 v23 v27 s28 fun v29 s30 =>
IFB v29 (K (Bo false) s30) (k18 [nth xs6 0, v29] s30)) fun xs19 s20 =>
K (Bo true) s20
theorem F.laws_eqGlobal_eq (G : Seal) (a0 : AV) (a1 : AV) (K : KAV) (s0 : AHeap) : F.laws_eqGlobal G a0 a1 K s0 = denF PP G { keep := [0, 1, 2, 3, 4, 9, 14] } Tryz.f35 [a0, a1] K s0 := by kernel_rfl
theorem F.laws_eqGlobal_ok {G : Seal} {a0 : AV} {a1 : AV} {Q : KAV} {s0 : AHeap} (h : F.laws_eqGlobal G a0 a1 (Fin Q) s0) : ACalls PP G N.laws_eqGlobal [a0, a1] s0 Q :=
  acalls_of_den (fn := Tryz.f35) (C := { keep := [0, 1, 2, 3, 4, 9, 14] }) mixed (by kernel_rfl) (by kernel_rfl) (by kernel_rfl) (Eq.mp (F.laws_eqGlobal_eq G a0 a1 _ _) h)

def F.laws_eqCode (G : Seal) (a0 : AV) (a1 : AV) (K : KAV) (s0 : AHeap) : Prop :=
BOX 5 a0 s0 fun a_1 s2 =>
BOX 5 a1 s2 fun b_3 s4 =>
JOIN (fun k5 =>
FA 0 a_1 s4 fun v8 s9 =>
LOAD .one v8 s9 fun v10 s11 =>
FA 0 b_3 s11 fun v12 s13 =>
LOAD .one v12 s13 fun v14 s15 =>
BIN PP .neq 9 v10 v14 s15 fun v16 s17 =>
IFB v16 (K (Bo false) s17) (k5 [Bo false, v16] s17)) fun xs6 s7 =>
JOIN (fun k18 =>
FA 1 a_1 s7 fun v21 s22 =>
LOAD .one v21 s22 fun v23 s24 =>
FA 1 b_3 s24 fun v25 s26 =>
LOAD .one v25 s26 fun v27 s28 =>
BIN PP .neq 3 v23 v27 s28 fun v29 s30 =>
IFB v29 (K (Bo false) s30) (k18 [nth xs6 0, v29] s30)) fun xs19 s20 =>
JOIN (fun k31 =>
FA 2 a_1 s20 fun v34 s35 =>
LOAD .one v34 s35 fun v36 s37 =>
FA 2 b_3 s37 fun v38 s39 =>
LOAD .one v38 s39 fun v40 s41 =>
BIN PP .neq 3 v36 v40 s41 fun v42 s43 =>
IFB v42 (K (Bo false) s43) (k31 [nth xs19 0, v42] s43)) fun xs32 s33 =>
JOIN (fun k44 =>
FA 3 a_1 s33 fun v47 s48 =>
LOAD .one v47 s48 fun v49 s50 =>
FA 3 b_3 s50 fun v51 s52 =>
LOAD .one v51 s52 fun v53 s54 =>
BIN PP .neq 3 v49 v53 s54 fun v55 s56 =>
IFB v55 (K (Bo false) s56) (k44 [nth xs32 0, v55] s56)) fun xs45 s46 =>
JOIN (fun k57 =>
FA 4 a_1 s46 fun v60 s61 =>
LOAD .one v60 s61 fun v62 s63 =>
FA 4 b_3 s63 fun v64 s65 =>
LOAD .one v64 s65 fun v66 s67 =>
ACalls PP G N.laws_eqInsS [v62, v66] s67 fun v68 s69 =>
UN PP .not v68 s69 fun v70 s71 =>
IFB v70 (K (Bo false) s71) (k57 [nth xs45 0, v70] s71)) fun xs58 s59 =>
K (Bo true) s59
theorem F.laws_eqCode_eq (G : Seal) (a0 : AV) (a1 : AV) (K : KAV) (s0 : AHeap) : F.laws_eqCode G a0 a1 K s0 = denF PP G { keep := [0, 1, 2, 3, 4, 9, 14, 19, 24, 30] } Tryz.f36 [a0, a1] K s0 := by kernel_rfl
theorem F.laws_eqCode_ok {G : Seal} {a0 : AV} {a1 : AV} {Q : KAV} {s0 : AHeap} (h : F.laws_eqCode G a0 a1 (Fin Q) s0) : ACalls PP G N.laws_eqCode [a0, a1] s0 Q :=
  acalls_of_den (fn := Tryz.f36) (C := { keep := [0, 1, 2, 3, 4, 9, 14, 19, 24, 30] }) mixed (by kernel_rfl) (by kernel_rfl) (by kernel_rfl) (Eq.mp (F.laws_eqCode_eq G a0 a1 _ _) h)

def F.laws_markText (G : Seal) (a0 : AV) (K : KAV) (s0 : AHeap) : Prop :=
JOIN (fun k1 =>
BIN PP .leq 3 a0 (I 0) s0 fun v4 s5 =>
IFB v4 (K (St (bs [109, 48])) s5) (k1 [St (bs []), v4] s5)) fun xs2 s3 =>
JOIN (fun k6 =>
LOOP (fun rec9 xs10 s11 =>
JOIN (fun k12 =>
BIN PP .gtr 3 (nth xs10 0) (I 0) s11 fun v15 s16 =>
IFB v15 (k12 [v15] s16) (k6 [nth xs10 0, nth xs10 1, v15] s16)) fun xs13 s14 =>
BIN PP .rem 3 (nth xs10 0) (I 10) s14 fun v17 s18 =>
BIN PP .add 3 (I 48) v17 s18 fun v19 s20 =>
CONV (.int .u8) v19 s20 fun v21 s22 =>
LIT false 1 [v21] s22 fun v23 s24 =>
CONV .ofBytes v23 s24 fun v25 s26 =>
BIN PP .add 9 v25 (nth xs10 1) s26 fun v27 s28 =>
BIN PP .quo 3 (nth xs10 0) (I 10) s28 fun v29 s30 =>
rec9 [v29, v27, nth xs13 0] s30) [a0, St (bs []), .un] s3) fun xs7 s8 =>
BIN PP .add 9 (St (bs [109])) (nth xs7 1) s8 fun v31 s32 =>
K v31 s32
theorem F.laws_markText_eq (G : Seal) (a0 : AV) (K : KAV) (s0 : AHeap) : F.laws_markText G a0 K s0 = denF PP G { keep := [0, 2, 3, 5, 7] } Tryz.f37 [a0] K s0 := by kernel_rfl
theorem F.laws_markText_ok {G : Seal} {a0 : AV} {Q : KAV} {s0 : AHeap} (h : F.laws_markText G a0 (Fin Q) s0) : ACalls PP G N.laws_markText [a0] s0 Q :=
  acalls_of_den (fn := Tryz.f37) (C := { keep := [0, 2, 3, 5, 7] }) mixed (by kernel_rfl) (by kernel_rfl) (by kernel_rfl) (Eq.mp (F.laws_markText_eq G a0 _ _) h)

def F.laws_markInsS (G : Seal) (a0 : AV) (a1 : AV) (K : KAV) (s0 : AHeap) : Prop :=
JOIN (fun k1 =>
LOOP (fun rec4 xs5 s6 =>
JOIN (fun k7 =>
LENL a0 s6 fun v10 s11 =>
BIN PP .lss 3 (nth xs5 1) v10 s11 fun v12 s13 =>
IFB v12 (k7 [v12] s13) (k1 [nth xs5 0, nth xs5 1, v12] s13)) fun xs8 s9 =>
JOIN (fun k14 =>
IA (.slice 5) a0 (nth xs5 1) s9 fun v17 s18 =>
FA 0 v17 s18 fun v19 s20 =>
STORE 1 v19 (nth xs5 0) s20 fun u21 s22 =>
BIN PP .add 3 (nth xs5 0) (I 1) s22 fun v23 s24 =>
IA (.slice 5) a0 (nth xs5 1) s24 fun v25 s26 =>
FA 1 v25 s26 fun v27 s28 =>
STORE 1 v27 v23 s28 fun u29 s30 =>
BIN PP .add 3 v23 (I 1) s30 fun v31 s32 =>
IA (.slice 5) a0 (nth xs5 1) s32 fun v33 s34 =>
FA 2 v33 s34 fun v35 s36 =>
STORE 1 v35 v31 s36 fun u37 s38 =>
BIN PP .add 3 v31 (I 1) s38 fun v39 s40 =>
ACalls PP G N.laws_markText [v39] s40 fun v41 s42 =>
IA (.slice 5) a0 (nth xs5 1) s42 fun v43 s44 =>
FA 3 v43 s44 fun v45 s46 =>
STORE 1 v45 v41 s46 fun u47 s48 =>
BIN PP .add 3 v39 (I 1) s48 fun v49 s50 =>
ACalls PP G N.laws_markText [v49] s50 fun v51 s52 =>
IA (.slice 5) a0 (nth xs5 1) s52 fun v53 s54 =>
FA 4 v53 s54 fun v55 s56 =>
STORE 1 v55 v51 s56 fun u57 s58 =>
BIN PP .add 3 v49 (I 1) s58 fun v59 s60 =>
k14 [v59] s60) fun xs15 s16 =>
BIN PP .add 3 (nth xs5 1) (I 1) s16 fun v61 s62 =>
rec4 [nth xs15 0, v61, nth xs8 0] s62) [a1, I 0, .un] s0) fun xs2 s3 =>
K (nth xs2 0) s3
theorem F.laws_markInsS_eq (G : Seal) (a0 : AV) (a1 : AV) (K : KAV) (s0 : AHeap) : F.laws_markInsS G a0 a1 K s0 = denF PP G { keep := [0, 1, 4, 5, 9] } Tryz.f38 [a0, a1] K s0 := by kernel_rfl
theorem F.laws_markInsS_ok {G : Seal} {a0 : AV} {a1 : AV} {Q : KAV} {s0 : AHeap} (h : F.laws_markInsS G a0 a1 (Fin Q) s0) : ACalls PP G N.laws_markInsS [a0, a1] s0 Q :=
  acalls_of_den (fn := Tryz.f38) (C := { keep := [0, 1, 4, 5, 9] }) mixed (by kernel_rfl) (by kernel_rfl) (by kernel_rfl) (Eq.mp (F.laws_markInsS_eq G a0 a1 _ _) h)

def F.laws_heldInsS (G : Seal) (a0 : AV) (a1 : AV) (K : KAV) (s0 : AHeap) : Prop :=
JOIN (fun k1 =>
LOOP (fun rec4 xs5 s6 =>
JOIN (fun k7 =>
LENL a0 s6 fun v10 s11 =>
BIN PP .lss 3 (nth xs5 2) v10 s11 fun v12 s13 =>
IFB v12 (k7 [v12] s13) (k1 [nth xs5 0, nth xs5 1, nth xs5 2, v12, nth xs5 4, nth xs5 5, nth xs5 6, nth xs5 7, nth xs5 8] s13)) fun xs8 s9 =>
JOIN (fun k14 =>
JOIN (fun k17 =>
IA (.slice 5) a0 (nth xs5 2) s9 fun v20 s21 =>
FA 0 v20 s21 fun v22 s23 =>
LOAD .one v22 s23 fun v24 s25 =>
BIN PP .neq 3 v24 (nth xs5 0) s25 fun v26 s27 =>
IFB v26 (K (I (-1)) s27) (k17 [nth xs5 1, v26] s27)) fun xs18 s19 =>
BIN PP .add 3 (nth xs5 0) (I 1) s19 fun v28 s29 =>
JOIN (fun k30 =>
IA (.slice 5) a0 (nth xs5 2) s29 fun v33 s34 =>
FA 1 v33 s34 fun v35 s36 =>
LOAD .one v35 s36 fun v37 s38 =>
BIN PP .neq 3 v37 v28 s38 fun v39 s40 =>
IFB v39 (K (I (-1)) s40) (k30 [nth xs18 0, v39] s40)) fun xs31 s32 =>
BIN PP .add 3 v28 (I 1) s32 fun v41 s42 =>
JOIN (fun k43 =>
IA (.slice 5) a0 (nth xs5 2) s42 fun v46 s47 =>
FA 2 v46 s47 fun v48 s49 =>
LOAD .one v48 s49 fun v50 s51 =>
BIN PP .neq 3 v50 v41 s51 fun v52 s53 =>
IFB v52 (K (I (-1)) s53) (k43 [nth xs31 0, v52] s53)) fun xs44 s45 =>
BIN PP .add 3 v41 (I 1) s45 fun v54 s55 =>
JOIN (fun k56 =>
IA (.slice 5) a0 (nth xs5 2) s55 fun v59 s60 =>
FA 3 v59 s60 fun v61 s62 =>
LOAD .one v61 s62 fun v63 s64 =>
ACalls PP G N.laws_markText [v54] s64 fun v65 s66 =>
(LOAD .one v61 s66 (SAMEV v63 s66)) ∧
(BIN PP .neq 9 v63 v65 s66 fun v67 s68 =>
IFB v67 (K (I (-1)) s68) (k56 [nth xs44 0, v67] s68))) fun xs57 s58 =>
BIN PP .add 3 v54 (I 1) s58 fun v69 s70 =>
JOIN (fun k71 =>
IA (.slice 5) a0 (nth xs5 2) s70 fun v74 s75 =>
FA 4 v74 s75 fun v76 s77 =>
LOAD .one v76 s77 fun v78 s79 =>
ACalls PP G N.laws_markText [v69] s79 fun v80 s81 =>
(LOAD .one v76 s81 (SAMEV v78 s81)) ∧
(BIN PP .neq 9 v78 v80 s81 fun v82 s83 =>
IFB v82 (K (I (-1)) s83) (k71 [nth xs57 0, v82] s83))) fun xs72 s73 =>
BIN PP .add 3 v69 (I 1) s73 fun v84 s85 =>
k14 [v84, nth xs72 0, nth xs18 1, nth xs31 1, nth xs44 1, nth xs57 1, nth xs72 1] s85) fun xs15 s16 =>
BIN PP .add 3 (nth xs5 2) (I 1) s16 fun v86 s87 =>
rec4 [nth xs15 0, nth xs15 1, v86, nth xs8 0, nth xs15 2, nth xs15 3, nth xs15 4, nth xs15 5, nth xs15 6] s87) [a1, I 0, I 0, .un, .un, .un, .un, .un, .un] s0) fun xs2 s3 =>
K (nth xs2 0) s3
theorem F.laws_heldInsS_eq (G : Seal) (a0 : AV) (a1 : AV) (K : KAV) (s0 : AHeap) : F.laws_heldInsS G a0 a1 K s0 = denF PP G { keep := [0, 1, 4, 5, 9, 18, 27, 36, 46, 56] } Tryz.f39 [a0, a1] K s0 := by kernel_rfl
theorem F.laws_heldInsS_ok {G : Seal} {a0 : AV} {a1 : AV} {Q : KAV} {s0 : AHeap} (h : F.laws_heldInsS G a0 a1 (Fin Q) s0) : ACalls PP G N.laws_heldInsS [a0, a1] s0 Q :=
  acalls_of_den (fn := Tryz.f39) (C := { keep := [0, 1, 4, 5, 9, 18, 27, 36, 46, 56] }) mixed (by kernel_rfl) (by kernel_rfl) (by kernel_rfl) (Eq.mp (F.laws_heldInsS_eq G a0 a1 _ _) h)

def F.spec_l02Name (G : Seal) (a0 : AV) (K : KAV) (s0 : AHeap) : Prop :=
ACalls PP G N.spec_NameOK [a0] s0 fun v1 s2 =>
JOIN (fun k3 => IFG true v1 (ACalls PP G N.spec_IsKey [a0] s2 fun v6 s7 =>
UN PP .not v6 s7 fun v8 s9 =>
k3 [a0, v6, v8] s9) (k3 [U, U, U] s2)) fun xs4 s5 =>
PICK v1 (nth xs4 2) (Bo false) s5 fun v10 s11 =>
K v10 s11
theorem F.spec_l02Name_eq (G : Seal) (a0 : AV) (K : KAV) (s0 : AHeap) : F.spec_l02Name G a0 K s0 = denF PP G { keep := [0, 2] } Tryz.f40 [a0] K s0 := by kernel_rfl
theorem F.spec_l02Name_ok {G : Seal} {a0 : AV} {Q : KAV} {s0 : AHeap} (h : F.spec_l02Name G a0 (Fin Q) s0) : ACalls PP G N.spec_l02Name [a0] s0 Q :=
  acalls_of_den (fn := Tryz.f40) (C := { keep := [0, 2] }) mixed (by kernel_rfl) (by kernel_rfl) (by kernel_rfl) (Eq.mp (F.spec_l02Name_eq G a0 _ _) h)

def F.spec_l01In (G : Seal) (a0 : AV) (a1 : AV) (a2 : AV) (K : KAV) (s0 : AHeap) : Prop :=
BIN PP .geq 3 a0 a1 s0 fun v1 s2 =>
JOIN (fun k3 => IFG true v1 (BIN PP .leq 3 a0 a2 s2 fun v6 s7 =>
k3 [a0, a2, v6] s7) (k3 [U, U, U] s2)) fun xs4 s5 =>
PICK v1 (nth xs4 2) (Bo false) s5 fun v8 s9 =>
K v8 s9
theorem F.spec_l01In_eq (G : Seal) (a0 : AV) (a1 : AV) (a2 : AV) (K : KAV) (s0 : AHeap) : F.spec_l01In G a0 a1 a2 K s0 = denF PP G { keep := [0, 1, 2, 6] } Tryz.f41 [a0, a1, a2] K s0 := by kernel_rfl
theorem F.spec_l01In_ok {G : Seal} {a0 : AV} {a1 : AV} {a2 : AV} {Q : KAV} {s0 : AHeap} (h : F.spec_l01In G a0 a1 a2 (Fin Q) s0) : ACalls PP G N.spec_l01In [a0, a1, a2] s0 Q :=
  acalls_of_den (fn := Tryz.f41) (C := { keep := [0, 1, 2, 6] }) mixed (by kernel_rfl) (by kernel_rfl) (by kernel_rfl) (Eq.mp (F.spec_l01In_eq G a0 a1 a2 _ _) h)

def F.spec_l01Place (G : Seal) (a0 : AV) (a1 : AV) (K : KAV) (s0 : AHeap) : Prop :=
JOIN (fun k1 =>
LOOP (fun rec4 xs5 s6 =>
JOIN (fun k7 =>
LENL a0 s6 fun v10 s11 =>
BIN PP .lss 3 (nth xs5 1) v10 s11 fun v12 s13 =>
IFB v12 (k7 [v12] s13) (k1 [nth xs5 0, nth xs5 1, v12, nth xs5 3] s13)) fun xs8 s9 =>
JOIN (fun k14 =>
IA (.slice 1) a0 (nth xs5 1) s9 fun v17 s18 =>
LOAD .one v17 s18 fun v19 s20 =>
BIN PP .eql 9 v19 a1 s20 fun v21 s22 =>
IFB v21 (K (nth xs5 1) s22) (k14 [nth xs5 0, v21] s22)) fun xs15 s16 =>
BIN PP .add 3 (nth xs5 1) (I 1) s16 fun v23 s24 =>
rec4 [nth xs15 0, v23, nth xs8 0, nth xs15 1] s24) [I 0, I 0, .un, .un] s0) fun xs2 s3 =>
K (I (-1)) s3
theorem F.spec_l01Place_eq (G : Seal) (a0 : AV) (a1 : AV) (K : KAV) (s0 : AHeap) : F.spec_l01Place G a0 a1 K s0 = denF PP G { keep := [0, 1, 4, 5, 9, 17] } Tryz.f42 [a0, a1] K s0 := by kernel_rfl
theorem F.spec_l01Place_ok {G : Seal} {a0 : AV} {a1 : AV} {Q : KAV} {s0 : AHeap} (h : F.spec_l01Place G a0 a1 (Fin Q) s0) : ACalls PP G N.spec_l01Place [a0, a1] s0 Q :=
  acalls_of_den (fn := Tryz.f42) (C := { keep := [0, 1, 4, 5, 9, 17] }) mixed (by kernel_rfl) (by kernel_rfl) (by kernel_rfl) (Eq.mp (F.spec_l01Place_eq G a0 a1 _ _) h)

def F.spec_l04Verify (G : Seal) (a0 : AV) (K : KAV) (s0 : AHeap) : Prop :=
BOX 5 a0 s0 fun c_1 s2 =>
JOIN (fun k3 =>
FA 4 c_1 s2 fun v6 s7 =>
LOAD .one v6 s7 fun v8 s9 =>
LENL v8 s9 fun v10 s11 =>
BIN PP .eql 3 v10 (I 0) s11 fun v12 s13 =>
JOIN (fun k14 => IFG false v12 (FA 4 c_1 s13 fun v17 s18 =>
LOAD .one v17 s18 fun v19 s20 =>
LENL v19 s20 fun v21 s22 =>
BIN PP .gtr 3 v21 (I 2000) s22 fun v23 s24 =>
k14 [v17, v19, v21, v23] s24) (k14 [U, U, U, U] s13)) fun xs15 s16 =>
PICK v12 (Bo true) (nth xs15 3) s16 fun v25 s26 =>
JOIN (fun k27 => IFG false v25 (FA 1 c_1 s26 fun v30 s31 =>
LOAD .one v30 s31 fun v32 s33 =>
ACalls PP G N.spec_l01In [v32, I 0, I 20] s33 fun v34 s35 =>
UN PP .not v34 s35 fun v36 s37 =>
k27 [v30, v32, v34, v36] s37) (k27 [U, U, U, U] s26)) fun xs28 s29 =>
PICK v25 (Bo true) (nth xs28 3) s29 fun v38 s39 =>
JOIN (fun k40 => IFG false v38 (FA 2 c_1 s39 fun v43 s44 =>
LOAD .one v43 s44 fun v45 s46 =>
FA 1 c_1 s46 fun v47 s48 =>
LOAD .one v47 s48 fun v49 s50 =>
ACalls PP G N.spec_l01In [v45, v49, I 2000] s50 fun v51 s52 =>
UN PP .not v51 s52 fun v53 s54 =>
k40 [v43, v45, v47, v49, v51, v53] s54) (k40 [U, U, U, U, U, U] s39)) fun xs41 s42 =>
PICK v38 (Bo true) (nth xs41 5) s42 fun v55 s56 =>
JOIN (fun k57 => IFG false v55 (FA 3 c_1 s56 fun v60 s61 =>
LOAD .one v60 s61 fun v62 s63 =>
ACalls PP G N.spec_l01In [v62, I 0, I 1] s63 fun v64 s65 =>
UN PP .not v64 s65 fun v66 s67 =>
k57 [v60, v62, v64, v66] s67) (k57 [U, U, U, U] s56)) fun xs58 s59 =>
PICK v55 (Bo true) (nth xs58 3) s59 fun v68 s69 =>
JOIN (fun k70 => IFG false v68 (FA 0 c_1 s69 fun v73 s74 =>
LOAD .one v73 s74 fun v75 s76 =>
BIN PP .neq 9 v75 (St (bs [])) s76 fun v77 s78 =>
k70 [v73, v75, v77, v77] s78) (k70 [U, U, U, U] s69)) fun xs71 s72 =>
JOIN (fun k79 => IFG true (nth xs71 3) (FA 0 c_1 s72 fun v82 s83 =>
LOAD .one v82 s83 fun v84 s85 =>
ACalls PP G N.spec_l02Name [v84] s85 fun v86 s87 =>
UN PP .not v86 s87 fun v88 s89 =>
k79 [v82, v84, v86, v88] s89) (k79 [U, U, U, U] s72)) fun xs80 s81 =>
JOIN (fun k90 => IFG false v68 (PICK (nth xs71 3) (nth xs80 3) (Bo false) s81 fun v93 s94 =>
k90 [v93] s94) (k90 [U] s81)) fun xs91 s92 =>
PICK v68 (Bo true) (nth xs91 0) s92 fun v95 s96 =>
JOIN (fun k97 => IFG false v95 (FA 0 c_1 s96 fun v100 s101 =>
LOAD .one v100 s101 fun v102 s103 =>
BIN PP .eql 9 v102 (St (bs [])) s103 fun v104 s105 =>
k97 [v100, v102, v104, v104] s105) (k97 [U, U, U, U] s96)) fun xs98 s99 =>
JOIN (fun k106 => IFG true (nth xs98 3) (FA 2 c_1 s99 fun v109 s110 =>
LOAD .one v109 s110 fun v111 s112 =>
BIN PP .neq 3 v111 (I 0) s112 fun v113 s114 =>
k106 [v109, v111, v113, v113] s114) (k106 [U, U, U, U] s99)) fun xs107 s108 =>
JOIN (fun k115 => IFG false (nth xs107 3) (FA 3 c_1 s108 fun v118 s119 =>
LOAD .one v118 s119 fun v120 s121 =>
BIN PP .neq 3 v120 (I 0) s121 fun v122 s123 =>
k115 [v118, v120, v122] s123) (k115 [U, U, U] s108)) fun xs116 s117 =>
JOIN (fun k124 => IFG true (nth xs98 3) (PICK (nth xs107 3) (Bo true) (nth xs116 2) s117 fun v127 s128 =>
k124 [v127] s128) (k124 [U] s117)) fun xs125 s126 =>
JOIN (fun k129 => IFG false v95 (PICK (nth xs98 3) (nth xs125 0) (Bo false) s126 fun v132 s133 =>
k129 [v132] s133) (k129 [U] s126)) fun xs130 s131 =>
PICK v95 (Bo true) (nth xs130 0) s131 fun v134 s135 =>
IFB v134 (K (.tu [I 1, I 0]) s135) (k3 [I 0, I 0, v134] s135)) fun xs4 s5 =>
JOIN (fun k136 =>
LOOP (fun rec139 xs140 s141 =>
JOIN (fun k142 =>
FA 4 c_1 s141 fun v145 s146 =>
LOAD .one v145 s146 fun v147 s148 =>
LENL v147 s148 fun v149 s150 =>
BIN PP .lss 3 (nth xs140 2) v149 s150 fun v151 s152 =>
IFB v151 (k142 [v151] s152) (k136 [nth xs140 0, nth xs140 1, nth xs140 2, v151, nth xs140 4] s152)) fun xs143 s144 =>
JOIN (fun k153 =>
FA 4 c_1 s144 fun v156 s157 =>
LOAD .one v156 s157 fun v158 s159 =>
IA (.slice 5) v158 (nth xs140 2) s159 fun v160 s161 =>
LOAD (.agg 5) v160 s161 fun v162 s163 =>
LOAD (.agg 5) c_1 s163 fun v164 s165 =>
ACalls PP G N.spec_l04Ins [v162, v164] s165 fun v166 s167 =>
UN PP .not v166 s167 fun v168 s169 =>
IFB v168 (K (.tu [I 3, nth xs140 2]) s169) (k153 [nth xs140 0, nth xs140 1, v168] s169)) fun xs154 s155 =>
BIN PP .add 3 (nth xs140 2) (I 1) s155 fun v170 s171 =>
rec139 [nth xs154 0, nth xs154 1, v170, nth xs143 0, nth xs154 2] s171) [nth xs4 0, nth xs4 1, I 0, .un, .un] s5) fun xs137 s138 =>
LIT false 1 [] s138 fun v172 s173 =>
JOIN (fun k174 =>
LOOP (fun rec177 xs178 s179 =>
JOIN (fun k180 =>
FA 4 c_1 s179 fun v183 s184 =>
LOAD .one v183 s184 fun v185 s186 =>
LENL v185 s186 fun v187 s188 =>
BIN PP .lss 3 (nth xs178 1) v187 s188 fun v189 s190 =>
IFB v189 (k180 [v189] s190) (k174 [nth xs178 0, nth xs178 1, v189] s190)) fun xs181 s182 =>
JOIN (fun k191 =>
LIT false 1 [I (-1)] s182 fun v194 s195 =>
APPL true 1 8 (nth xs178 0) v194 s195 fun v196 s197 =>
k191 [v196] s197) fun xs192 s193 =>
BIN PP .add 3 (nth xs178 1) (I 1) s193 fun v198 s199 =>
rec177 [nth xs192 0, v198, nth xs181 0] s199) [v172, I 0, .un] s173) fun xs175 s176 =>
IA (.slice 1) (nth xs175 0) (I 0) s176 fun v200 s201 =>
STORE 1 v200 (I 0) s201 fun u202 s203 =>
JOIN (fun k204 =>
LOOP (fun rec207 xs208 s209 =>
JOIN (fun k210 =>
IFB (nth xs208 2) (k210 [nth xs208 2] s209) (k204 [nth xs208 0, nth xs208 1, nth xs208 2, nth xs208 3, nth xs208 4, nth xs208 5, nth xs208 6, nth xs208 7, nth xs208 8, nth xs208 9, nth xs208 2, nth xs208 11, nth xs208 12, nth xs208 13, nth xs208 14, nth xs208 15, nth xs208 16, nth xs208 17, nth xs208 18, nth xs208 19, nth xs208 20, nth xs208 21] s209)) fun xs211 s212 =>
LOOP (fun rec213 xs214 s215 =>
JOIN (fun k216 =>
FA 4 c_1 s215 fun v219 s220 =>
LOAD .one v219 s220 fun v221 s222 =>
LENL v221 s222 fun v223 s224 =>
BIN PP .lss 3 (nth xs214 3) v223 s224 fun v225 s226 =>
IFB v225 (k216 [v225] s226) (rec207 [nth xs214 0, nth xs214 1, nth xs214 2, nth xs214 3, nth xs214 4, nth xs214 5, nth xs214 6, nth xs214 7, nth xs214 8, nth xs214 9, nth xs211 0, v225, nth xs214 11, nth xs214 12, nth xs214 13, nth xs214 14, nth xs214 15, nth xs214 16, nth xs214 17, nth xs214 18, nth xs214 19, nth xs214 20] s226)) fun xs217 s218 =>
JOIN (fun k227 =>
JOIN (fun k230 =>
IA (.slice 1) (nth xs175 0) (nth xs214 3) s218 fun v233 s234 =>
LOAD .one v233 s234 fun v235 s236 =>
BIN PP .lss 3 v235 (I 0) s236 fun v237 s238 =>
IFB v237 (k227 [nth xs214 0, nth xs214 1, nth xs214 2, nth xs214 4, nth xs214 5, nth xs214 6, nth xs214 7, nth xs214 8, nth xs214 9, v237, nth xs214 12, nth xs214 13, nth xs214 14, nth xs214 15, nth xs214 16, nth xs214 17, nth xs214 18, nth xs214 19, nth xs214 20] s238) (k230 [v237] s238)) fun xs231 s232 =>
FA 4 c_1 s232 fun v239 s240 =>
LOAD .one v239 s240 fun v241 s242 =>
IA (.slice 5) v241 (nth xs214 3) s242 fun v243 s244 =>
LOAD (.agg 5) v243 s244 fun v245 s246 =>
NEW [I 0, I 0, I 0, St (bs []), St (bs [])] s246 fun x_247 s248 =>
STORE 5 x_247 v245 s248 fun u249 s250 =>
LOAD (.agg 5) x_247 s250 fun v251 s252 =>
ACalls PP G N.spec_l04Effect [v251] s252 fun v253 s254 =>
TUP v253 0 s254 fun v255 s256 =>
TUP v253 1 s256 fun v257 s258 =>
JOIN (fun k259 =>
IA (.slice 1) (nth xs175 0) (nth xs214 3) s258 fun v262 s263 =>
LOAD .one v262 s263 fun v264 s265 =>
BIN PP .lss 3 v264 v255 s265 fun v266 s267 =>
IFB v266 (K (.tu [I 11, nth xs214 3]) s267) (k259 [nth xs214 0, nth xs214 1, v266] s267)) fun xs260 s261 =>
IA (.slice 1) (nth xs175 0) (nth xs214 3) s261 fun v268 s269 =>
LOAD .one v268 s269 fun v270 s271 =>
BIN PP .sub 3 v270 v255 s271 fun v272 s273 =>
BIN PP .add 3 v272 v257 s273 fun v274 s275 =>
JOIN (fun k276 =>
BIN PP .gtr 3 v274 (I 60) s275 fun v279 s280 =>
IFB v279 (K (.tu [I 14, nth xs214 3]) s280) (k276 [nth xs260 0, nth xs260 1, v279] s280)) fun xs277 s278 =>
LIT false 1 [] s278 fun v281 s282 =>
JOIN (fun k283 =>
FA 0 x_247 s282 fun v286 s287 =>
LOAD .one v286 s287 fun v288 s289 =>
BIN PP .eql 3 v288 (I 11) s289 fun v290 s291 =>
JOIN (fun k292 => IFG false v290 (FA 0 x_247 s291 fun v295 s296 =>
LOAD .one v295 s296 fun v297 s298 =>
BIN PP .eql 3 v297 (I 12) s298 fun v299 s300 =>
k292 [v295, v297, v299] s300) (k292 [U, U, U] s291)) fun xs293 s294 =>
PICK v290 (Bo true) (nth xs293 2) s294 fun v301 s302 =>
IFB v301 (FA 1 x_247 s302 fun v303 s304 =>
LOAD .one v303 s304 fun v305 s306 =>
LIT false 1 [v305] s306 fun v307 s308 =>
APPL false 1 8 v281 v307 s308 fun v309 s310 =>
k283 [v309, v301] s310) (k283 [v281, v301] s302)) fun xs284 s285 =>
JOIN (fun k311 =>
FA 0 x_247 s285 fun v314 s315 =>
LOAD .one v314 s315 fun v316 s317 =>
BIN PP .neq 3 v316 (I 11) s317 fun v318 s319 =>
JOIN (fun k320 => IFG true v318 (FA 0 x_247 s319 fun v323 s324 =>
LOAD .one v323 s324 fun v325 s326 =>
BIN PP .neq 3 v325 (I 14) s326 fun v327 s328 =>
k320 [v323, v325, v327] s328) (k320 [U, U, U] s319)) fun xs321 s322 =>
PICK v318 (nth xs321 2) (Bo false) s322 fun v329 s330 =>
JOIN (fun k331 => IFG true v329 (FA 0 x_247 s330 fun v334 s335 =>
LOAD .one v334 s335 fun v336 s337 =>
BIN PP .neq 3 v336 (I 17) s337 fun v338 s339 =>
k331 [v334, v336, v338] s339) (k331 [U, U, U] s330)) fun xs332 s333 =>
PICK v329 (nth xs332 2) (Bo false) s333 fun v340 s341 =>
IFB v340 (BIN PP .add 3 (nth xs214 3) (I 1) s341 fun v342 s343 =>
LIT false 1 [v342] s343 fun v344 s345 =>
APPL false 1 8 (nth xs284 0) v344 s345 fun v346 s347 =>
k311 [v346, v340] s347) (k311 [nth xs284 0, v340] s341)) fun xs312 s313 =>
JOIN (fun k348 =>
FA 0 x_247 s313 fun v351 s352 =>
LOAD .one v351 s352 fun v353 s354 =>
BIN PP .eql 3 v353 (I 14) s354 fun v355 s356 =>
JOIN (fun k357 => IFG true v355 (BIN PP .neq 3 v274 (I 0) s356 fun v360 s361 =>
k357 [v274, v360] s361) (k357 [U, U] s356)) fun xs358 s359 =>
PICK v355 (nth xs358 1) (Bo false) s359 fun v362 s363 =>
IFB v362 (K (.tu [I 8, nth xs214 3]) s363) (k348 [nth xs277 0, nth xs277 1, v362] s363)) fun xs349 s350 =>
LOOP (fun rec364 xs365 s366 =>
JOIN (fun k367 =>
LENL (nth xs312 0) s366 fun v370 s371 =>
BIN PP .lss 3 (nth xs365 3) v370 s371 fun v372 s373 =>
IFB v372 (k367 [v372] s373) (k227 [nth xs365 0, nth xs365 1, nth xs365 2, x_247, v255, v257, v274, nth xs312 0, nth xs365 3, nth xs231 0, nth xs260 2, nth xs277 2, nth xs284 1, nth xs312 1, nth xs349 2, v372, nth xs365 5, nth xs365 6, nth xs365 7] s373)) fun xs368 s369 =>
JOIN (fun k374 =>
IA (.slice 1) (nth xs312 0) (nth xs365 3) s369 fun v377 s378 =>
LOAD .one v377 s378 fun v379 s380 =>
FA 4 c_1 s380 fun v381 s382 =>
LOAD .one v381 s382 fun v383 s384 =>
LENL v383 s384 fun v385 s386 =>
BIN PP .eql 3 v379 v385 s386 fun v387 s388 =>
IFB v387 (K (.tu [I 10, nth xs214 3]) s388) (IA (.slice 1) (nth xs312 0) (nth xs365 3) s388 fun v389 s390 =>
LOAD .one v389 s390 fun v391 s392 =>
IA (.slice 1) (nth xs175 0) v391 s392 fun v393 s394 =>
LOAD .one v393 s394 fun v395 s396 =>
BIN PP .lss 3 v395 (I 0) s396 fun v397 s398 =>
IFB v397 (IA (.slice 1) (nth xs312 0) (nth xs365 3) s398 fun v399 s400 =>
LOAD .one v399 s400 fun v401 s402 =>
IA (.slice 1) (nth xs175 0) v401 s402 fun v403 s404 =>
STORE 1 v403 v274 s404 fun u405 s406 =>
k374 [nth xs365 0, nth xs365 1, Bo true, v387, v397, nth xs365 7] s406) (IA (.slice 1) (nth xs312 0) (nth xs365 3) s398 fun v407 s408 =>
LOAD .one v407 s408 fun v409 s410 =>
IA (.slice 1) (nth xs175 0) v409 s410 fun v411 s412 =>
LOAD .one v411 s412 fun v413 s414 =>
BIN PP .neq 3 v413 v274 s414 fun v415 s416 =>
IFB v415 (K (.tu [I 8, nth xs214 3]) s416) (k374 [nth xs365 0, nth xs365 1, nth xs365 2, v387, v397, v415] s416)))) fun xs375 s376 =>
BIN PP .add 3 (nth xs365 3) (I 1) s376 fun v417 s418 =>
rec364 [nth xs375 0, nth xs375 1, nth xs375 2, v417, nth xs368 0, nth xs375 3, nth xs375 4, nth xs375 5] s418) [nth xs349 0, nth xs349 1, nth xs214 2, I 0, nth xs214 17, nth xs214 18, nth xs214 19, nth xs214 20] s350) fun xs228 s229 =>
BIN PP .add 3 (nth xs214 3) (I 1) s229 fun v419 s420 =>
rec213 [nth xs228 0, nth xs228 1, nth xs228 2, v419, nth xs228 3, nth xs228 4, nth xs228 5, nth xs228 6, nth xs228 7, nth xs228 8, nth xs217 0, nth xs228 9, nth xs228 10, nth xs228 11, nth xs228 12, nth xs228 13, nth xs228 14, nth xs228 15, nth xs228 16, nth xs228 17, nth xs228 18] s420) [nth xs208 0, nth xs208 1, Bo false, I 0, nth xs208 4, nth xs208 5, nth xs208 6, nth xs208 7, nth xs208 8, nth xs208 9, nth xs208 11, nth xs208 12, nth xs208 13, nth xs208 14, nth xs208 15, nth xs208 16, nth xs208 17, nth xs208 18, nth xs208 19, nth xs208 20, nth xs208 21] s212) [nth xs137 0, nth xs137 1, Bo true, .un, .un, .un, .un, .un, .un, .un, .un, .un, .un, .un, .un, .un, .un, .un, .un, .un, .un, .un] s203) fun xs205 s206 =>
K (.tu [I 0, I 0]) s206
theorem F.spec_l04Verify_eq (G : Seal) (a0 : AV) (K : KAV) (s0 : AHeap) : F.spec_l04Verify G a0 K s0 = denF PP G { keep := [0, 1, 2, 3, 4, 5, 6, 7, 8, 9, 10, 11, 12, 13, 14, 70, 75, 85, 92, 100, 105, 112, 128, 139, 149, 167, 179, 184, 187, 197, 213], own := [97] } Tryz.f43 [a0] K s0 := by kernel_rfl
theorem F.spec_l04Verify_ok {G : Seal} {a0 : AV} {Q : KAV} {s0 : AHeap} (h : F.spec_l04Verify G a0 (Fin Q) s0) : ACalls PP G N.spec_l04Verify [a0] s0 Q :=
  acalls_of_den (fn := Tryz.f43) (C := { keep := [0, 1, 2, 3, 4, 5, 6, 7, 8, 9, 10, 11, 12, 13, 14, 70, 75, 85, 92, 100, 105, 112, 128, 139, 149, 167, 179, 184, 187, 197, 213], own := [97] }) mixed (by kernel_rfl) (by kernel_rfl) (by kernel_rfl) (Eq.mp (F.spec_l04Verify_eq G a0 _ _) h)

def F.impl_reader_take (G : Seal) (a0 : AV) (a1 : AV) (K : KAV) (s0 : AHeap) : Prop :=
JOIN (fun k1 =>
NILCK a0 s0 fun v4 s5 =>
FA 2 v4 s5 fun v6 s7 =>
LOAD .one v6 s7 fun v8 s9 =>
JOIN (fun k10 => IFG false v8 (k10 [a1] s9) (k10 [U] s9)) fun xs11 s12 =>
JOIN (fun k13 => IFG false v8 (k13 [a0] s12) (k13 [U] s12)) fun xs14 s15 =>
JOIN (fun k16 => IFG false v8 (NILCK (nth xs14 0) s15 fun v19 s20 =>
k16 [v19] s20) (k16 [U] s15)) fun xs17 s18 =>
JOIN (fun k21 => IFG false v8 (FA 0 (nth xs17 0) s18 fun v24 s25 =>
k21 [v24] s25) (k21 [U] s18)) fun xs22 s23 =>
JOIN (fun k26 => IFG false v8 (LOAD .one (nth xs22 0) s23 fun v29 s30 =>
k26 [v29] s30) (k26 [U] s23)) fun xs27 s28 =>
JOIN (fun k31 => IFG false v8 (LENS (nth xs27 0) s28 fun v34 s35 =>
k31 [v34] s35) (k31 [U] s28)) fun xs32 s33 =>
JOIN (fun k36 => IFG false v8 (k36 [a0] s33) (k36 [U] s33)) fun xs37 s38 =>
JOIN (fun k39 => IFG false v8 (NILCK (nth xs37 0) s38 fun v42 s43 =>
k39 [v42] s43) (k39 [U] s38)) fun xs40 s41 =>
JOIN (fun k44 => IFG false v8 (FA 1 (nth xs40 0) s41 fun v47 s48 =>
k44 [v47] s48) (k44 [U] s41)) fun xs45 s46 =>
JOIN (fun k49 => IFG false v8 (LOAD .one (nth xs45 0) s46 fun v52 s53 =>
k49 [v52] s53) (k49 [U] s46)) fun xs50 s51 =>
JOIN (fun k54 => IFG false v8 (BIN PP .sub 3 (nth xs32 0) (nth xs50 0) s51 fun v57 s58 =>
k54 [v57] s58) (k54 [U] s51)) fun xs55 s56 =>
JOIN (fun k59 => IFG false v8 (BIN PP .gtr 3 (nth xs11 0) (nth xs55 0) s56 fun v62 s63 =>
k59 [v62] s63) (k59 [U] s56)) fun xs60 s61 =>
PICK v8 (Bo true) (nth xs60 0) s61 fun v64 s65 =>
IFB v64 (NILCK a0 s65 fun v66 s67 =>
FA 2 v66 s67 fun v68 s69 =>
STORE 1 v68 (Bo true) s69 fun u70 s71 =>
K (St (bs [])) s71) (k1 [St (bs []), v64] s65)) fun xs2 s3 =>
NILCK a0 s3 fun v72 s73 =>
FA 1 v72 s73 fun v74 s75 =>
LOAD .one v74 s75 fun v76 s77 =>
BIN PP .add 3 v76 a1 s77 fun v78 s79 =>
NILCK a0 s79 fun v80 s81 =>
FA 1 v80 s81 fun v82 s83 =>
STORE 1 v82 v78 s83 fun u84 s85 =>
NILCK a0 s85 fun v86 s87 =>
FA 0 v86 s87 fun v88 s89 =>
LOAD .one v88 s89 fun v90 s91 =>
NILCK a0 s91 fun v92 s93 =>
FA 1 v92 s93 fun v94 s95 =>
LOAD .one v94 s95 fun v96 s97 =>
BIN PP .sub 3 v96 a1 s97 fun v98 s99 =>
NILCK a0 s99 fun v100 s101 =>
FA 1 v100 s101 fun v102 s103 =>
LOAD .one v102 s103 fun v104 s105 =>
CUTS v90 (some v98) (some v104) s105 fun v106 s107 =>
K v106 s107
theorem F.impl_reader_take_eq (G : Seal) (a0 : AV) (a1 : AV) (K : KAV) (s0 : AHeap) : F.impl_reader_take G a0 a1 K s0 = denF PP G { keep := [0, 1, 4, 22] } Tryz.f44 [a0, a1] K s0 := by kernel_rfl
theorem F.impl_reader_take_ok {G : Seal} {a0 : AV} {a1 : AV} {Q : KAV} {s0 : AHeap} (h : F.impl_reader_take G a0 a1 (Fin Q) s0) : ACalls PP G N.impl_reader_take [a0, a1] s0 Q :=
  acalls_of_den (fn := Tryz.f44) (C := { keep := [0, 1, 4, 22] }) mixed (by kernel_rfl) (by kernel_rfl) (by kernel_rfl) (Eq.mp (F.impl_reader_take_eq G a0 a1 _ _) h)

def F.impl_hasPlace (G : Seal) (a0 : AV) (K : KAV) (s0 : AHeap) : Prop :=
BIN PP .eql 3 a0 (I 3) s0 fun v1 s2 =>
JOIN (fun k3 => IFG false v1 (BIN PP .eql 3 a0 (I 13) s2 fun v6 s7 =>
k3 [a0, v6] s7) (k3 [U, U] s2)) fun xs4 s5 =>
PICK v1 (Bo true) (nth xs4 1) s5 fun v8 s9 =>
K v8 s9
theorem F.impl_hasPlace_eq (G : Seal) (a0 : AV) (K : KAV) (s0 : AHeap) : F.impl_hasPlace G a0 K s0 = denF PP G { keep := [0, 2] } Tryz.f45 [a0] K s0 := by kernel_rfl
theorem F.impl_hasPlace_ok {G : Seal} {a0 : AV} {Q : KAV} {s0 : AHeap} (h : F.impl_hasPlace G a0 (Fin Q) s0) : ACalls PP G N.impl_hasPlace [a0] s0 Q :=
  acalls_of_den (fn := Tryz.f45) (C := { keep := [0, 2] }) mixed (by kernel_rfl) (by kernel_rfl) (by kernel_rfl) (Eq.mp (F.impl_hasPlace_eq G a0 _ _) h)

def F.impl_isName (G : Seal) (a0 : AV) (K : KAV) (s0 : AHeap) : Prop :=
ACalls PP G N.impl_NameOK [a0] s0 fun v1 s2 =>
JOIN (fun k3 => IFG true v1 (ACalls PP G N.impl_IsKey [a0] s2 fun v6 s7 =>
UN PP .not v6 s7 fun v8 s9 =>
k3 [a0, v6, v8] s9) (k3 [U, U, U] s2)) fun xs4 s5 =>
PICK v1 (nth xs4 2) (Bo false) s5 fun v10 s11 =>
K v10 s11
theorem F.impl_isName_eq (G : Seal) (a0 : AV) (K : KAV) (s0 : AHeap) : F.impl_isName G a0 K s0 = denF PP G { keep := [0, 2] } Tryz.f46 [a0] K s0 := by kernel_rfl
theorem F.impl_isName_ok {G : Seal} {a0 : AV} {Q : KAV} {s0 : AHeap} (h : F.impl_isName G a0 (Fin Q) s0) : ACalls PP G N.impl_isName [a0] s0 Q :=
  acalls_of_den (fn := Tryz.f46) (C := { keep := [0, 2] }) mixed (by kernel_rfl) (by kernel_rfl) (by kernel_rfl) (Eq.mp (F.impl_isName_eq G a0 _ _) h)

def F.impl_isPrint (G : Seal) (a0 : AV) (K : KAV) (s0 : AHeap) : Prop :=
ACalls PP G N.impl_within [a0, I 0, I 4294967295] s0 fun v1 s2 =>
K v1 s2
theorem F.impl_isPrint_eq (G : Seal) (a0 : AV) (K : KAV) (s0 : AHeap) : F.impl_isPrint G a0 K s0 = denF PP G { keep := [0, 2] } Tryz.f47 [a0] K s0 := by kernel_rfl
theorem F.impl_isPrint_ok {G : Seal} {a0 : AV} {Q : KAV} {s0 : AHeap} (h : F.impl_isPrint G a0 (Fin Q) s0) : ACalls PP G N.impl_isPrint [a0] s0 Q :=
  acalls_of_den (fn := Tryz.f47) (C := { keep := [0, 2] }) mixed (by kernel_rfl) (by kernel_rfl) (by kernel_rfl) (Eq.mp (F.impl_isPrint_eq G a0 _ _) h)

def F.impl_within (G : Seal) (a0 : AV) (a1 : AV) (a2 : AV) (K : KAV) (s0 : AHeap) : Prop :=
BIN PP .leq 3 a1 a0 s0 fun v1 s2 =>
JOIN (fun k3 => IFG true v1 (BIN PP .leq 3 a0 a2 s2 fun v6 s7 =>
k3 [a0, a2, v6] s7) (k3 [U, U, U] s2)) fun xs4 s5 =>
PICK v1 (nth xs4 2) (Bo false) s5 fun v8 s9 =>
K v8 s9
theorem F.impl_within_eq (G : Seal) (a0 : AV) (a1 : AV) (a2 : AV) (K : KAV) (s0 : AHeap) : F.impl_within G a0 a1 a2 K s0 = denF PP G { keep := [0, 1, 2, 6] } Tryz.f48 [a0, a1, a2] K s0 := by kernel_rfl
theorem F.impl_within_ok {G : Seal} {a0 : AV} {a1 : AV} {a2 : AV} {Q : KAV} {s0 : AHeap} (h : F.impl_within G a0 a1 a2 (Fin Q) s0) : ACalls PP G N.impl_within [a0, a1, a2] s0 Q :=
  acalls_of_den (fn := Tryz.f48) (C := { keep := [0, 1, 2, 6] }) mixed (by kernel_rfl) (by kernel_rfl) (by kernel_rfl) (Eq.mp (F.impl_within_eq G a0 a1 a2 _ _) h)

def F.impl_Code_verifies (G : Seal) (a0 : AV) (K : KAV) (s0 : AHeap) : Prop :=
BOX 5 a0 s0 fun c_1 s2 =>
LOAD (.agg 5) c_1 s2 fun v3 s4 =>
ACalls PP G N.impl_Code_verify [v3] s4 fun v5 s6 =>
TUP v5 0 s6 fun v7 s8 =>
TUP v5 1 s8 fun v9 s10 =>
BIN PP .eql 3 v7 (I 0) s10 fun v11 s12 =>
K v11 s12
theorem F.impl_Code_verifies_eq (G : Seal) (a0 : AV) (K : KAV) (s0 : AHeap) : F.impl_Code_verifies G a0 K s0 = denF PP G { keep := [0, 1, 2, 3] } Tryz.f49 [a0] K s0 := by kernel_rfl
theorem F.impl_Code_verifies_ok {G : Seal} {a0 : AV} {Q : KAV} {s0 : AHeap} (h : F.impl_Code_verifies G a0 (Fin Q) s0) : ACalls PP G N.impl_Code_verifies [a0] s0 Q :=
  acalls_of_den (fn := Tryz.f49) (C := { keep := [0, 1, 2, 3] }) mixed (by kernel_rfl) (by kernel_rfl) (by kernel_rfl) (Eq.mp (F.impl_Code_verifies_eq G a0 _ _) h)

def F.impl_areDifferent (G : Seal) (a0 : AV) (K : KAV) (s0 : AHeap) : Prop :=
ACalls PP G N.slices_Values_string_string [a0] s0 fun v1 s2 =>
ACalls PP G N.slices_Sorted_string [v1] s2 fun v3 s4 =>
ACalls PP G N.slices_Compact_string_string [v3] s4 fun v5 s6 =>
LENL v5 s6 fun v7 s8 =>
LENL a0 s8 fun v9 s10 =>
BIN PP .eql 3 v7 v9 s10 fun v11 s12 =>
K v11 s12
theorem F.impl_areDifferent_eq (G : Seal) (a0 : AV) (K : KAV) (s0 : AHeap) : F.impl_areDifferent G a0 K s0 = denF PP G { keep := [0, 2] } Tryz.f50 [a0] K s0 := by kernel_rfl
theorem F.impl_areDifferent_ok {G : Seal} {a0 : AV} {Q : KAV} {s0 : AHeap} (h : F.impl_areDifferent G a0 (Fin Q) s0) : ACalls PP G N.impl_areDifferent [a0] s0 Q :=
  acalls_of_den (fn := Tryz.f50) (C := { keep := [0, 2] }) mixed (by kernel_rfl) (by kernel_rfl) (by kernel_rfl) (Eq.mp (F.impl_areDifferent_eq G a0 _ _) h)

def F.impl_areAll_impl_Need (G : Seal) (a0 : AV) (a1 : AV) (K : KAV) (s0 : AHeap) : Prop :=
BOX 1 a1 s0 fun is_1 s2 =>
MKFN (.func N.impl_areAll_impl_Need_1) [] [is_1] s2 fun v3 s4 =>
ACalls PP G N.slices_ContainsFunc_impl_Need_impl_Need [a0, v3] s4 fun v5 s6 =>
UN PP .not v5 s6 fun v7 s8 =>
K v7 s8
theorem F.impl_areAll_impl_Need_eq (G : Seal) (a0 : AV) (a1 : AV) (K : KAV) (s0 : AHeap) : F.impl_areAll_impl_Need G a0 a1 K s0 = denF PP G { keep := [0, 1, 3, 4] } Tryz.f51 [a0, a1] K s0 := by kernel_rfl
theorem F.impl_areAll_impl_Need_ok {G : Seal} {a0 : AV} {a1 : AV} {Q : KAV} {s0 : AHeap} (h : F.impl_areAll_impl_Need G a0 a1 (Fin Q) s0) : ACalls PP G N.impl_areAll_impl_Need [a0, a1] s0 Q :=
  acalls_of_den (fn := Tryz.f51) (C := { keep := [0, 1, 3, 4] }) mixed (by kernel_rfl) (by kernel_rfl) (by kernel_rfl) (Eq.mp (F.impl_areAll_impl_Need_eq G a0 a1 _ _) h)

def F.impl_ObjectOK_1 (G : Seal) (a0 : AV) (K : KAV) (s0 : AHeap) : Prop :=
BOX 2 a0 s0 fun n_1 s2 =>
FA 0 n_1 s2 fun v3 s4 =>
LOAD .one v3 s4 fun v5 s6 =>
ACalls PP G N.impl_isName [v5] s6 fun v7 s8 =>
JOIN (fun k9 => IFG true v7 (FA 1 n_1 s8 fun v12 s13 =>
LOAD .one v12 s13 fun v14 s15 =>
ACalls PP G N.impl_isPrint [v14] s15 fun v16 s17 =>
k9 [v12, v14, v16] s17) (k9 [U, U, U] s8)) fun xs10 s11 =>
PICK v7 (nth xs10 2) (Bo false) s11 fun v18 s19 =>
K v18 s19
theorem F.impl_ObjectOK_1_eq (G : Seal) (a0 : AV) (K : KAV) (s0 : AHeap) : F.impl_ObjectOK_1 G a0 K s0 = denF PP G { keep := [0, 1, 2] } Tryz.f52 [a0] K s0 := by kernel_rfl
theorem F.impl_ObjectOK_1_ok {G : Seal} {a0 : AV} {Q : KAV} {s0 : AHeap} (h : F.impl_ObjectOK_1 G a0 (Fin Q) s0) : ACalls PP G N.impl_ObjectOK_1 [a0] s0 Q :=
  acalls_of_den (fn := Tryz.f52) (C := { keep := [0, 1, 2] }) mixed (by kernel_rfl) (by kernel_rfl) (by kernel_rfl) (Eq.mp (F.impl_ObjectOK_1_eq G a0 _ _) h)

def F.laws_eqInsS (G : Seal) (a0 : AV) (a1 : AV) (K : KAV) (s0 : AHeap) : Prop :=
JOIN (fun k1 =>
LENL a0 s0 fun v4 s5 =>
LENL a1 s5 fun v6 s7 =>
BIN PP .neq 3 v4 v6 s7 fun v8 s9 =>
IFB v8 (K (Bo false) s9) (k1 [Bo false, v8] s9)) fun xs2 s3 =>
JOIN (fun k10 =>
LOOP (fun rec13 xs14 s15 =>
JOIN (fun k16 =>
LENL a0 s15 fun v19 s20 =>
BIN PP .lss 3 (nth xs14 1) v19 s20 fun v21 s22 =>
IFB v21 (k16 [v21] s22) (k10 [nth xs14 0, nth xs14 1, v21, nth xs14 3] s22)) fun xs17 s18 =>
JOIN (fun k23 =>
IA (.slice 5) a0 (nth xs14 1) s18 fun v26 s27 =>
LOAD (.agg 5) v26 s27 fun v28 s29 =>
IA (.slice 5) a1 (nth xs14 1) s29 fun v30 s31 =>
LOAD (.agg 5) v30 s31 fun v32 s33 =>
ACalls PP G N.laws_eqIns [v28, v32] s33 fun v34 s35 =>
UN PP .not v34 s35 fun v36 s37 =>
IFB v36 (K (Bo false) s37) (k23 [nth xs14 0, v36] s37)) fun xs24 s25 =>
BIN PP .add 3 (nth xs14 1) (I 1) s25 fun v38 s39 =>
rec13 [nth xs24 0, v38, nth xs17 0, nth xs24 1] s39) [nth xs2 0, I 0, .un, .un] s3) fun xs11 s12 =>
K (Bo true) s12
theorem F.laws_eqInsS_eq (G : Seal) (a0 : AV) (a1 : AV) (K : KAV) (s0 : AHeap) : F.laws_eqInsS G a0 a1 K s0 = denF PP G { keep := [0, 1, 4, 5, 10, 14, 26] } Tryz.f53 [a0, a1] K s0 := by kernel_rfl
theorem F.laws_eqInsS_ok {G : Seal} {a0 : AV} {a1 : AV} {Q : KAV} {s0 : AHeap} (h : F.laws_eqInsS G a0 a1 (Fin Q) s0) : ACalls PP G N.laws_eqInsS [a0, a1] s0 Q :=
  acalls_of_den (fn := Tryz.f53) (C := { keep := [0, 1, 4, 5, 10, 14, 26] }) mixed (by kernel_rfl) (by kernel_rfl) (by kernel_rfl) (Eq.mp (F.laws_eqInsS_eq G a0 a1 _ _) h)

def F.spec_NameOK (G : Seal) (a0 : AV) (K : KAV) (s0 : AHeap) : Prop :=
ACalls PP G N.spec_l00Word [a0] s0 fun v1 s2 =>
K v1 s2
theorem F.spec_NameOK_eq (G : Seal) (a0 : AV) (K : KAV) (s0 : AHeap) : F.spec_NameOK G a0 K s0 = denF PP G { keep := [0, 2] } Tryz.f54 [a0] K s0 := by kernel_rfl
theorem F.spec_NameOK_ok {G : Seal} {a0 : AV} {Q : KAV} {s0 : AHeap} (h : F.spec_NameOK G a0 (Fin Q) s0) : ACalls PP G N.spec_NameOK [a0] s0 Q :=
  acalls_of_den (fn := Tryz.f54) (C := { keep := [0, 2] }) mixed (by kernel_rfl) (by kernel_rfl) (by kernel_rfl) (Eq.mp (F.spec_NameOK_eq G a0 _ _) h)

def F.spec_IsKey (G : Seal) (a0 : AV) (K : KAV) (s0 : AHeap) : Prop :=
ACalls PP G N.spec_l01Keys [] s0 fun v1 s2 =>
ACalls PP G N.spec_l01Place [v1, a0] s2 fun v3 s4 =>
BIN PP .geq 3 v3 (I 0) s4 fun v5 s6 =>
K v5 s6
theorem F.spec_IsKey_eq (G : Seal) (a0 : AV) (K : KAV) (s0 : AHeap) : F.spec_IsKey G a0 K s0 = denF PP G { keep := [0, 2] } Tryz.f55 [a0] K s0 := by kernel_rfl
theorem F.spec_IsKey_ok {G : Seal} {a0 : AV} {Q : KAV} {s0 : AHeap} (h : F.spec_IsKey G a0 (Fin Q) s0) : ACalls PP G N.spec_IsKey [a0] s0 Q :=
  acalls_of_den (fn := Tryz.f55) (C := { keep := [0, 2] }) mixed (by kernel_rfl) (by kernel_rfl) (by kernel_rfl) (Eq.mp (F.spec_IsKey_eq G a0 _ _) h)

def F.spec_l04Ins (G : Seal) (a0 : AV) (a1 : AV) (K : KAV) (s0 : AHeap) : Prop :=
BOX 5 a0 s0 fun x_1 s2 =>
BOX 5 a1 s2 fun c_3 s4 =>
FA 0 x_1 s4 fun v5 s6 =>
LOAD .one v5 s6 fun v7 s8 =>
BIN PP .eql 3 v7 (I 3) s8 fun v9 s10 =>
JOIN (fun k11 => IFG false v9 (FA 0 x_1 s10 fun v14 s15 =>
LOAD .one v14 s15 fun v16 s17 =>
BIN PP .eql 3 v16 (I 13) s17 fun v18 s19 =>
k11 [v14, v16, v18] s19) (k11 [U, U, U] s10)) fun xs12 s13 =>
PICK v9 (Bo true) (nth xs12 2) s13 fun v20 s21 =>
JOIN (fun k22 =>
FA 3 x_1 s21 fun v25 s26 =>
LOAD .one v25 s26 fun v27 s28 =>
BIN PP .neq 9 v27 (St (bs [])) s28 fun v29 s30 =>
JOIN (fun k31 => IFG false v29 (FA 4 x_1 s30 fun v34 s35 =>
LOAD .one v34 s35 fun v36 s37 =>
BIN PP .neq 9 v36 (St (bs [])) s37 fun v38 s39 =>
k31 [v34, v36, v38] s39) (k31 [U, U, U] s30)) fun xs32 s33 =>
PICK v29 (Bo true) (nth xs32 2) s33 fun v40 s41 =>
BIN PP .neq 4 v20 v40 s41 fun v42 s43 =>
JOIN (fun k44 => IFG false v42 (k44 [v20, v20] s43) (k44 [U, U] s43)) fun xs45 s46 =>
JOIN (fun k47 => IFG true (nth xs45 1) (FA 3 x_1 s46 fun v50 s51 =>
LOAD .one v50 s51 fun v52 s53 =>
ACalls PP G N.spec_l02Name [v52] s53 fun v54 s55 =>
UN PP .not v54 s55 fun v56 s57 =>
k47 [v50, v52, v54, v56, v56] s57) (k47 [U, U, U, U, U] s46)) fun xs48 s49 =>
JOIN (fun k58 => IFG false (nth xs48 4) (FA 4 x_1 s49 fun v61 s62 =>
LOAD .one v61 s62 fun v63 s64 =>
ACalls PP G N.spec_l02Name [v63] s64 fun v65 s66 =>
UN PP .not v65 s66 fun v67 s68 =>
k58 [v61, v63, v65, v67] s68) (k58 [U, U, U, U] s49)) fun xs59 s60 =>
JOIN (fun k69 => IFG true (nth xs45 1) (PICK (nth xs48 4) (Bo true) (nth xs59 3) s60 fun v72 s73 =>
k69 [v72] s73) (k69 [U] s60)) fun xs70 s71 =>
JOIN (fun k74 => IFG false v42 (PICK (nth xs45 1) (nth xs70 0) (Bo false) s71 fun v77 s78 =>
k74 [v77] s78) (k74 [U] s71)) fun xs75 s76 =>
PICK v42 (Bo true) (nth xs75 0) s76 fun v79 s80 =>
JOIN (fun k81 => IFG false v79 (FA 0 x_1 s80 fun v84 s85 =>
LOAD .one v84 s85 fun v86 s87 =>
BIN PP .neq 3 v86 (I 13) s87 fun v88 s89 =>
k81 [v84, v86, v88, v88] s89) (k81 [U, U, U, U] s80)) fun xs82 s83 =>
JOIN (fun k90 => IFG true (nth xs82 3) (FA 2 x_1 s83 fun v93 s94 =>
LOAD .one v93 s94 fun v95 s96 =>
BIN PP .neq 3 v95 (I 0) s96 fun v97 s98 =>
k90 [v93, v95, v97] s98) (k90 [U, U, U] s83)) fun xs91 s92 =>
JOIN (fun k99 => IFG false v79 (PICK (nth xs82 3) (nth xs91 2) (Bo false) s92 fun v102 s103 =>
k99 [v102] s103) (k99 [U] s92)) fun xs100 s101 =>
PICK v79 (Bo true) (nth xs100 0) s101 fun v104 s105 =>
IFB v104 (K (Bo false) s105) (k22 [Bo false, v104] s105)) fun xs23 s24 =>
JOIN (fun k106 =>
FA 0 x_1 s24 fun v109 s110 =>
LOAD .one v109 s110 fun v111 s112 =>
BIN PP .eql 3 v111 (I 1) s112 fun v113 s114 =>
IFB v113 (K (Bo true) s114) (BIN PP .eql 3 v111 (I 2) s114 fun v115 s116 =>
IFB v115 (FA 1 x_1 s116 fun v117 s118 =>
LOAD .one v117 s118 fun v119 s120 =>
FA 2 c_3 s120 fun v121 s122 =>
LOAD .one v121 s122 fun v123 s124 =>
BIN PP .sub 3 v123 (I 1) s124 fun v125 s126 =>
ACalls PP G N.spec_l01In [v119, I 0, v125] s126 fun v127 s128 =>
K v127 s128) (BIN PP .eql 3 v111 (I 6) s116 fun v129 s130 =>
IFB v129 (FA 1 x_1 s130 fun v131 s132 =>
LOAD .one v131 s132 fun v133 s134 =>
ACalls PP G N.spec_l01In [v133, I 1, I 100] s134 fun v135 s136 =>
K v135 s136) (BIN PP .eql 3 v111 (I 7) s130 fun v137 s138 =>
IFB v137 (FA 1 x_1 s138 fun v139 s140 =>
LOAD .one v139 s140 fun v141 s142 =>
ACalls PP G N.spec_l04Signs [] s142 fun v143 s144 =>
(LOAD .one v139 s144 (SAMEV v141 s144)) ∧
(LENL v143 s144 fun v145 s146 =>
BIN PP .sub 3 v145 (I 1) s146 fun v147 s148 =>
ACalls PP G N.spec_l01In [v141, I 0, v147] s148 fun v149 s150 =>
K v149 s150)) (JOIN (fun k151 =>
BIN PP .eql 3 v111 (I 11) s138 fun v154 s155 =>
IFB v154 (k151 [v154] s155) (BIN PP .eql 3 v111 (I 12) s155 fun v156 s157 =>
k151 [v156] s157)) fun xs152 s153 =>
IFB (nth xs152 0) (FA 1 x_1 s153 fun v158 s159 =>
LOAD .one v158 s159 fun v160 s161 =>
FA 4 c_3 s161 fun v162 s163 =>
LOAD .one v162 s163 fun v164 s165 =>
LENL v164 s165 fun v166 s167 =>
BIN PP .sub 3 v166 (I 1) s167 fun v168 s169 =>
ACalls PP G N.spec_l01In [v160, I 0, v168] s169 fun v170 s171 =>
K v170 s171) (BIN PP .eql 3 v111 (I 13) s153 fun v172 s173 =>
IFB v172 (FA 1 x_1 s173 fun v174 s175 =>
LOAD .one v174 s175 fun v176 s177 =>
ACalls PP G N.spec_l01In [v176, I 0, I 20] s177 fun v178 s179 =>
JOIN (fun k180 => IFG true v178 (FA 2 x_1 s179 fun v183 s184 =>
LOAD .one v183 s184 fun v185 s186 =>
ACalls PP G N.spec_l01In [v185, I 0, I 1] s186 fun v187 s188 =>
k180 [v183, v185, v187] s188) (k180 [U, U, U] s179)) fun xs181 s182 =>
PICK v178 (nth xs181 2) (Bo false) s182 fun v189 s190 =>
K v189 s190) (BIN PP .eql 3 v111 (I 14) s173 fun v191 s192 =>
IFB v191 (FA 1 x_1 s192 fun v193 s194 =>
LOAD .one v193 s194 fun v195 s196 =>
FA 3 c_3 s196 fun v197 s198 =>
LOAD .one v197 s198 fun v199 s200 =>
BIN PP .eql 3 v195 v199 s200 fun v201 s202 =>
K v201 s202) (JOIN (fun k203 =>
BIN PP .eql 3 v111 (I 15) s192 fun v206 s207 =>
IFB v206 (k203 [v206] s207) (BIN PP .eql 3 v111 (I 16) s207 fun v208 s209 =>
k203 [v208] s209)) fun xs204 s205 =>
IFB (nth xs204 0) (FA 1 x_1 s205 fun v210 s211 =>
LOAD .one v210 s211 fun v212 s213 =>
ACalls PP G N.spec_l01In [v212, I 1, I 3] s213 fun v214 s215 =>
JOIN (fun k216 => IFG true v214 (FA 0 x_1 s215 fun v219 s220 =>
LOAD .one v219 s220 fun v221 s222 =>
BIN PP .eql 3 v221 (I 15) s222 fun v223 s224 =>
k216 [v219, v221, v223, v223] s224) (k216 [U, U, U, U] s215)) fun xs217 s218 =>
JOIN (fun k225 => IFG false (nth xs217 3) (FA 1 x_1 s218 fun v228 s229 =>
LOAD .one v228 s229 fun v230 s231 =>
BIN PP .neq 3 v230 (I 2) s231 fun v232 s233 =>
k225 [v228, v230, v232] s233) (k225 [U, U, U] s218)) fun xs226 s227 =>
JOIN (fun k234 => IFG true v214 (PICK (nth xs217 3) (Bo true) (nth xs226 2) s227 fun v237 s238 =>
k234 [v237] s238) (k234 [U] s227)) fun xs235 s236 =>
PICK v214 (nth xs235 0) (Bo false) s236 fun v239 s240 =>
K v239 s240) (BIN PP .eql 3 v111 (I 17) s205 fun v241 s242 =>
IFB v241 (FA 1 x_1 s242 fun v243 s244 =>
LOAD .one v243 s244 fun v245 s246 =>
ACalls PP G N.spec_l01In [v245, I 1, I 5] s246 fun v247 s248 =>
K v247 s248) (k106 [nth xs23 0, v111, v113, v115, v129, v137, nth xs152 0, v172, v191, nth xs204 0, v241] s242)))))))))) fun xs107 s108 =>
FA 1 x_1 s108 fun v249 s250 =>
LOAD .one v249 s250 fun v251 s252 =>
BIN PP .eql 3 v251 (I 0) s252 fun v253 s254 =>
JOIN (fun k255 => IFG true v253 (FA 0 x_1 s254 fun v258 s259 =>
LOAD .one v258 s259 fun v260 s261 =>
ACalls PP G N.spec_l01In [v260, I 3, I 10] s261 fun v262 s263 =>
k255 [v258, v260, v262] s263) (k255 [U, U, U] s254)) fun xs256 s257 =>
PICK v253 (nth xs256 2) (Bo false) s257 fun v264 s265 =>
K v264 s265
theorem F.spec_l04Ins_eq (G : Seal) (a0 : AV) (a1 : AV) (K : KAV) (s0 : AHeap) : F.spec_l04Ins G a0 a1 K s0 = denF PP G { keep := [0, 1, 2, 3, 4, 5, 48, 50, 51, 53, 61, 66, 74, 84, 94, 101, 117] } Tryz.f56 [a0, a1] K s0 := by kernel_rfl
theorem F.spec_l04Ins_ok {G : Seal} {a0 : AV} {a1 : AV} {Q : KAV} {s0 : AHeap} (h : F.spec_l04Ins G a0 a1 (Fin Q) s0) : ACalls PP G N.spec_l04Ins [a0, a1] s0 Q :=
  acalls_of_den (fn := Tryz.f56) (C := { keep := [0, 1, 2, 3, 4, 5, 48, 50, 51, 53, 61, 66, 74, 84, 94, 101, 117] }) mixed (by kernel_rfl) (by kernel_rfl) (by kernel_rfl) (Eq.mp (F.spec_l04Ins_eq G a0 a1 _ _) h)

def F.spec_l04Effect (G : Seal) (a0 : AV) (K : KAV) (s0 : AHeap) : Prop :=
BOX 5 a0 s0 fun x_1 s2 =>
JOIN (fun k3 =>
FA 0 x_1 s2 fun v6 s7 =>
LOAD .one v6 s7 fun v8 s9 =>
JOIN (fun k10 =>
BIN PP .eql 3 v8 (I 1) s9 fun v13 s14 =>
IFB v13 (k10 [v13] s14) (BIN PP .eql 3 v8 (I 2) s14 fun v15 s16 =>
IFB v15 (k10 [v15] s16) (BIN PP .eql 3 v8 (I 3) s16 fun v17 s18 =>
k10 [v17] s18))) fun xs11 s12 =>
IFB (nth xs11 0) (K (.tu [I 0, I 1]) s12) (JOIN (fun k19 =>
BIN PP .eql 3 v8 (I 4) s12 fun v22 s23 =>
IFB v22 (k19 [v22] s23) (BIN PP .eql 3 v8 (I 8) s23 fun v24 s25 =>
IFB v24 (k19 [v24] s25) (BIN PP .eql 3 v8 (I 9) s25 fun v26 s27 =>
IFB v26 (k19 [v26] s27) (BIN PP .eql 3 v8 (I 10) s27 fun v28 s29 =>
k19 [v28] s29)))) fun xs20 s21 =>
IFB (nth xs20 0) (K (.tu [I 1, I 1]) s21) (BIN PP .eql 3 v8 (I 5) s21 fun v30 s31 =>
IFB v30 (K (.tu [I 2, I 0]) s31) (JOIN (fun k32 =>
BIN PP .eql 3 v8 (I 6) s31 fun v35 s36 =>
IFB v35 (k32 [v35] s36) (BIN PP .eql 3 v8 (I 7) s36 fun v37 s38 =>
k32 [v37] s38)) fun xs33 s34 =>
IFB (nth xs33 0) (K (.tu [I 2, I 1]) s34) (JOIN (fun k39 =>
BIN PP .eql 3 v8 (I 12) s34 fun v42 s43 =>
IFB v42 (k39 [v42] s43) (BIN PP .eql 3 v8 (I 15) s43 fun v44 s45 =>
IFB v44 (k39 [v44] s45) (BIN PP .eql 3 v8 (I 16) s45 fun v46 s47 =>
k39 [v46] s47))) fun xs40 s41 =>
IFB (nth xs40 0) (K (.tu [I 1, I 0]) s41) (BIN PP .eql 3 v8 (I 13) s41 fun v48 s49 =>
IFB v48 (FA 1 x_1 s49 fun v50 s51 =>
LOAD .one v50 s51 fun v52 s53 =>
FA 2 x_1 s53 fun v54 s55 =>
LOAD .one v54 s55 fun v56 s57 =>
K (.tu [v52, v56]) s57) (BIN PP .eql 3 v8 (I 14) s49 fun v58 s59 =>
IFB v58 (FA 1 x_1 s59 fun v60 s61 =>
LOAD .one v60 s61 fun v62 s63 =>
K (.tu [v62, I 0]) s63) (k3 [I 0, I 0, v8, nth xs11 0, nth xs20 0, v30, nth xs33 0, nth xs40 0, v48, v58] s59)))))))) fun xs4 s5 =>
K (.tu [I 0, I 0]) s5
theorem F.spec_l04Effect_eq (G : Seal) (a0 : AV) (K : KAV) (s0 : AHeap) : F.spec_l04Effect G a0 K s0 = denF PP G { keep := [0, 1, 2, 3, 5, 6, 10, 15, 17, 20, 24, 30] } Tryz.f57 [a0] K s0 := by kernel_rfl
theorem F.spec_l04Effect_ok {G : Seal} {a0 : AV} {Q : KAV} {s0 : AHeap} (h : F.spec_l04Effect G a0 (Fin Q) s0) : ACalls PP G N.spec_l04Effect [a0] s0 Q :=
  acalls_of_den (fn := Tryz.f57) (C := { keep := [0, 1, 2, 3, 5, 6, 10, 15, 17, 20, 24, 30] }) mixed (by kernel_rfl) (by kernel_rfl) (by kernel_rfl) (Eq.mp (F.spec_l04Effect_eq G a0 _ _) h)

def F.impl_NameOK (G : Seal) (a0 : AV) (K : KAV) (s0 : AHeap) : Prop :=
LENS a0 s0 fun v1 s2 =>
ACalls PP G N.impl_within [v1, I 1, I 40] s2 fun v3 s4 =>
JOIN (fun k5 => IFG true v3 (IX a0 (I 0) s4 fun v8 s9 =>
ACalls PP G N.impl_isLetter [v8] s9 fun v10 s11 =>
k5 [a0, v8, v10] s11) (k5 [U, U, U] s4)) fun xs6 s7 =>
PICK v3 (nth xs6 2) (Bo false) s7 fun v12 s13 =>
JOIN (fun k14 => IFG true v12 (CONV (.toBytes 5) a0 s13 fun v17 s18 =>
ACalls PP G N.impl_areAll_byte [v17, .fn (.func N.impl_isWordByte) [] []] s18 fun v19 s20 =>
k14 [a0, v17, v19] s20) (k14 [U, U, U] s13)) fun xs15 s16 =>
PICK v12 (nth xs15 2) (Bo false) s16 fun v21 s22 =>
K v21 s22
theorem F.impl_NameOK_eq (G : Seal) (a0 : AV) (K : KAV) (s0 : AHeap) : F.impl_NameOK G a0 K s0 = denF PP G { keep := [0, 2] } Tryz.f58 [a0] K s0 := by kernel_rfl
theorem F.impl_NameOK_ok {G : Seal} {a0 : AV} {Q : KAV} {s0 : AHeap} (h : F.impl_NameOK G a0 (Fin Q) s0) : ACalls PP G N.impl_NameOK [a0] s0 Q :=
  acalls_of_den (fn := Tryz.f58) (C := { keep := [0, 2] }) mixed (by kernel_rfl) (by kernel_rfl) (by kernel_rfl) (Eq.mp (F.impl_NameOK_eq G a0 _ _) h)

def F.impl_IsKey (G : Seal) (a0 : AV) (K : KAV) (s0 : AHeap) : Prop :=
ACalls PP G N.impl_keys [] s0 fun v1 s2 =>
ACalls PP G N.slices_Contains_string_string [v1, a0] s2 fun v3 s4 =>
K v3 s4
theorem F.impl_IsKey_eq (G : Seal) (a0 : AV) (K : KAV) (s0 : AHeap) : F.impl_IsKey G a0 K s0 = denF PP G { keep := [0, 2] } Tryz.f59 [a0] K s0 := by kernel_rfl
theorem F.impl_IsKey_ok {G : Seal} {a0 : AV} {Q : KAV} {s0 : AHeap} (h : F.impl_IsKey G a0 (Fin Q) s0) : ACalls PP G N.impl_IsKey [a0] s0 Q :=
  acalls_of_den (fn := Tryz.f59) (C := { keep := [0, 2] }) mixed (by kernel_rfl) (by kernel_rfl) (by kernel_rfl) (Eq.mp (F.impl_IsKey_eq G a0 _ _) h)

def F.impl_Code_verify (G : Seal) (a0 : AV) (K : KAV) (s0 : AHeap) : Prop :=
BOX 5 a0 s0 fun c_1 s2 =>
FA 0 c_1 s2 fun v3 s4 =>
LOAD .one v3 s4 fun v5 s6 =>
BIN PP .eql 9 v5 (St (bs [])) s6 fun v7 s8 =>
JOIN (fun k9 => IFG true v7 (FA 2 c_1 s8 fun v12 s13 =>
LOAD .one v12 s13 fun v14 s15 =>
BIN PP .eql 3 v14 (I 0) s15 fun v16 s17 =>
k9 [v12, v14, v16] s17) (k9 [U, U, U] s8)) fun xs10 s11 =>
PICK v7 (nth xs10 2) (Bo false) s11 fun v18 s19 =>
JOIN (fun k20 => IFG true v18 (FA 3 c_1 s19 fun v23 s24 =>
LOAD .one v23 s24 fun v25 s26 =>
BIN PP .eql 3 v25 (I 0) s26 fun v27 s28 =>
k20 [v23, v25, v27] s28) (k20 [U, U, U] s19)) fun xs21 s22 =>
PICK v18 (nth xs21 2) (Bo false) s22 fun v29 s30 =>
JOIN (fun k31 =>
FA 4 c_1 s30 fun v34 s35 =>
LOAD .one v34 s35 fun v36 s37 =>
LENL v36 s37 fun v38 s39 =>
ACalls PP G N.impl_within [v38, I 1, I 2000] s39 fun v40 s41 =>
UN PP .not v40 s41 fun v42 s43 =>
JOIN (fun k44 => IFG false v42 (FA 1 c_1 s43 fun v47 s48 =>
LOAD .one v47 s48 fun v49 s50 =>
ACalls PP G N.impl_within [v49, I 0, I 20] s50 fun v51 s52 =>
UN PP .not v51 s52 fun v53 s54 =>
k44 [v47, v49, v51, v53] s54) (k44 [U, U, U, U] s43)) fun xs45 s46 =>
PICK v42 (Bo true) (nth xs45 3) s46 fun v55 s56 =>
JOIN (fun k57 => IFG false v55 (FA 2 c_1 s56 fun v60 s61 =>
LOAD .one v60 s61 fun v62 s63 =>
FA 1 c_1 s63 fun v64 s65 =>
LOAD .one v64 s65 fun v66 s67 =>
ACalls PP G N.impl_within [v62, v66, I 2000] s67 fun v68 s69 =>
UN PP .not v68 s69 fun v70 s71 =>
k57 [v60, v62, v64, v66, v68, v70] s71) (k57 [U, U, U, U, U, U] s56)) fun xs58 s59 =>
PICK v55 (Bo true) (nth xs58 5) s59 fun v72 s73 =>
JOIN (fun k74 => IFG false v72 (FA 3 c_1 s73 fun v77 s78 =>
LOAD .one v77 s78 fun v79 s80 =>
ACalls PP G N.impl_within [v79, I 0, I 1] s80 fun v81 s82 =>
UN PP .not v81 s82 fun v83 s84 =>
k74 [v77, v79, v81, v83] s84) (k74 [U, U, U, U] s73)) fun xs75 s76 =>
PICK v72 (Bo true) (nth xs75 3) s76 fun v85 s86 =>
JOIN (fun k87 => IFG false v85 (FA 0 c_1 s86 fun v90 s91 =>
LOAD .one v90 s91 fun v92 s93 =>
ACalls PP G N.impl_isName [v92] s93 fun v94 s95 =>
UN PP .not v94 s95 fun v96 s97 =>
k87 [v90, v92, v94, v96, v96] s97) (k87 [U, U, U, U, U] s86)) fun xs88 s89 =>
JOIN (fun k98 => IFG true (nth xs88 4) (UN PP .not v29 s89 fun v101 s102 =>
k98 [v29, v101] s102) (k98 [U, U] s89)) fun xs99 s100 =>
JOIN (fun k103 => IFG false v85 (PICK (nth xs88 4) (nth xs99 1) (Bo false) s100 fun v106 s107 =>
k103 [v106] s107) (k103 [U] s100)) fun xs104 s105 =>
PICK v85 (Bo true) (nth xs104 0) s105 fun v108 s109 =>
IFB v108 (K (.tu [I 1, I 0]) s109) (k31 [I 0, I 0, v108] s109)) fun xs32 s33 =>
JOIN (fun k110 =>
FA 4 c_1 s33 fun v113 s114 =>
LOAD .one v113 s114 fun v115 s116 =>
MKFN (.func N.impl_Code_verify_1) [] [c_1] s116 fun v117 s118 =>
ACalls PP G N.slices_IndexFunc_impl_Ins_impl_Ins [v115, v117] s118 fun v119 s120 =>
BIN PP .geq 3 v119 (I 0) s120 fun v121 s122 =>
IFB v121 (K (.tu [I 3, v119]) s122) (k110 [nth xs32 0, nth xs32 1, v119, v121] s122)) fun xs111 s112 =>
LOAD (.agg 5) c_1 s112 fun v123 s124 =>
ACalls PP G N.impl_Code_flow [v123] s124 fun v125 s126 =>
TUP v125 0 s126 fun v127 s128 =>
TUP v125 1 s128 fun v129 s130 =>
K (.tu [v127, v129]) s130
theorem F.impl_Code_verify_eq (G : Seal) (a0 : AV) (K : KAV) (s0 : AHeap) : F.impl_Code_verify G a0 K s0 = denF PP G { keep := [0, 1, 2, 3, 4, 5, 53, 59] } Tryz.f60 [a0] K s0 := by kernel_rfl
theorem F.impl_Code_verify_ok {G : Seal} {a0 : AV} {Q : KAV} {s0 : AHeap} (h : F.impl_Code_verify G a0 (Fin Q) s0) : ACalls PP G N.impl_Code_verify [a0] s0 Q :=
  acalls_of_den (fn := Tryz.f60) (C := { keep := [0, 1, 2, 3, 4, 5, 53, 59] }) mixed (by kernel_rfl) (by kernel_rfl) (by kernel_rfl) (Eq.mp (F.impl_Code_verify_eq G a0 _ _) h)

def F.slices_Sorted_string (G : Seal) (a0 : AV) (K : KAV) (s0 : AHeap) : Prop :=
ACalls PP G N.slices_Collect_string [a0] s0 fun v1 s2 =>
ACalls PP G N.slices_Sort_string_string [v1] s2 fun v3 s4 =>
K v1 s4
theorem F.slices_Sorted_string_eq (G : Seal) (a0 : AV) (K : KAV) (s0 : AHeap) : F.slices_Sorted_string G a0 K s0 = denF PP G { keep := [0, 2, 3] } Tryz.f62 [a0] K s0 := by kernel_rfl
theorem F.slices_Sorted_string_ok {G : Seal} {a0 : AV} {Q : KAV} {s0 : AHeap} (h : F.slices_Sorted_string G a0 (Fin Q) s0) : ACalls PP G N.slices_Sorted_string [a0] s0 Q :=
  acalls_of_den (fn := Tryz.f62) (C := { keep := [0, 2, 3] }) mixed (by kernel_rfl) (by kernel_rfl) (by kernel_rfl) (Eq.mp (F.slices_Sorted_string_eq G a0 _ _) h)

def F.slices_Values_string_string (G : Seal) (a0 : AV) (K : KAV) (s0 : AHeap) : Prop :=
BOX 1 a0 s0 fun s_1 s2 =>
MKFN (.func N.slices_Values_string_string_1) [] [s_1] s2 fun v3 s4 =>
K v3 s4
theorem F.slices_Values_string_string_eq (G : Seal) (a0 : AV) (K : KAV) (s0 : AHeap) : F.slices_Values_string_string G a0 K s0 = denF PP G { keep := [0, 1, 2] } Tryz.f63 [a0] K s0 := by kernel_rfl
theorem F.slices_Values_string_string_ok {G : Seal} {a0 : AV} {Q : KAV} {s0 : AHeap} (h : F.slices_Values_string_string G a0 (Fin Q) s0) : ACalls PP G N.slices_Values_string_string [a0] s0 Q :=
  acalls_of_den (fn := Tryz.f63) (C := { keep := [0, 1, 2] }) mixed (by kernel_rfl) (by kernel_rfl) (by kernel_rfl) (Eq.mp (F.slices_Values_string_string_eq G a0 _ _) h)

def F.slices_ContainsFunc_impl_Need_impl_Need (G : Seal) (a0 : AV) (a1 : AV) (K : KAV) (s0 : AHeap) : Prop :=
ACalls PP G N.slices_IndexFunc_impl_Need_impl_Need [a0, a1] s0 fun v1 s2 =>
BIN PP .geq 3 v1 (I 0) s2 fun v3 s4 =>
K v3 s4
theorem F.slices_ContainsFunc_impl_Need_impl_Need_eq (G : Seal) (a0 : AV) (a1 : AV) (K : KAV) (s0 : AHeap) : F.slices_ContainsFunc_impl_Need_impl_Need G a0 a1 K s0 = denF PP G { keep := [0, 1, 4] } Tryz.f64 [a0, a1] K s0 := by kernel_rfl
theorem F.slices_ContainsFunc_impl_Need_impl_Need_ok {G : Seal} {a0 : AV} {a1 : AV} {Q : KAV} {s0 : AHeap} (h : F.slices_ContainsFunc_impl_Need_impl_Need G a0 a1 (Fin Q) s0) : ACalls PP G N.slices_ContainsFunc_impl_Need_impl_Need [a0, a1] s0 Q :=
  acalls_of_den (fn := Tryz.f64) (C := { keep := [0, 1, 4] }) mixed (by kernel_rfl) (by kernel_rfl) (by kernel_rfl) (Eq.mp (F.slices_ContainsFunc_impl_Need_impl_Need_eq G a0 a1 _ _) h)

def F.impl_areAll_impl_Need_1 (G : Seal) (a0 : AV) (a1 : AV) (K : KAV) (s0 : AHeap) : Prop :=
BOX 2 a0 s0 fun x_1 s2 =>
LOAD .one a1 s2 fun v3 s4 =>
LOAD (.agg 2) x_1 s4 fun v5 s6 =>
CALL PP G v3 [v5] s6 fun v7 s8 =>
UN PP .not v7 s8 fun v9 s10 =>
K v9 s10
theorem F.impl_areAll_impl_Need_1_eq (G : Seal) (a0 : AV) (a1 : AV) (K : KAV) (s0 : AHeap) : F.impl_areAll_impl_Need_1 G a0 a1 K s0 = denF PP G { keep := [0, 1, 2, 3] } Tryz.f65 [a0, a1] K s0 := by kernel_rfl
theorem F.impl_areAll_impl_Need_1_ok {G : Seal} {a0 : AV} {a1 : AV} {Q : KAV} {s0 : AHeap} (h : F.impl_areAll_impl_Need_1 G a0 a1 (Fin Q) s0) : ACalls PP G N.impl_areAll_impl_Need_1 [a0, a1] s0 Q :=
  acalls_of_den (fn := Tryz.f65) (C := { keep := [0, 1, 2, 3] }) mixed (by kernel_rfl) (by kernel_rfl) (by kernel_rfl) (Eq.mp (F.impl_areAll_impl_Need_1_eq G a0 a1 _ _) h)

def F.laws_eqIns (G : Seal) (a0 : AV) (a1 : AV) (K : KAV) (s0 : AHeap) : Prop :=
BOX 5 a0 s0 fun a_1 s2 =>
BOX 5 a1 s2 fun b_3 s4 =>
JOIN (fun k5 =>
FA 0 a_1 s4 fun v8 s9 =>
LOAD .one v8 s9 fun v10 s11 =>
FA 0 b_3 s11 fun v12 s13 =>
LOAD .one v12 s13 fun v14 s15 =>
BIN PP .neq 3 v10 v14 s15 fun v16 s17 =>
IFB v16 (K (Bo false) s17) (k5 [Bo false, v16] s17)) fun xs6 s7 =>
JOIN (fun k18 =>
FA 1 a_1 s7 fun v21 s22 =>
LOAD .one v21 s22 fun v23 s24 =>
FA 1 b_3 s24 fun v25 s26 =>
LOAD .one v25 s26 fun v27 s28 =>
BIN PP .neq 3 v23 v27 s28 fun v29 s30 =>
IFB v29 (K (Bo false) s30) (k18 [nth xs6 0, v29] s30)) fun xs19 s20 =>
JOIN (fun k31 =>
FA 2 a_1 s20 fun v34 s35 =>
LOAD .one v34 s35 fun v36 s37 =>
FA 2 b_3 s37 fun v38 s39 =>
LOAD .one v38 s39 fun v40 s41 =>
BIN PP .neq 3 v36 v40 s41 fun v42 s43 =>
IFB v42 (K (Bo false) s43) (k31 [nth xs19 0, v42] s43)) fun xs32 s33 =>
JOIN (fun k44 =>
FA 3 a_1 s33 fun v47 s48 =>
LOAD .one v47 s48 fun v49 s50 =>
FA 3 b_3 s50 fun v51 s52 =>
LOAD .one v51 s52 fun v53 s54 =>
BIN PP .neq 9 v49 v53 s54 fun v55 s56 =>
IFB v55 (K (Bo false) s56) (k44 [nth xs32 0, v55] s56)) fun xs45 s46 =>
JOIN (fun k57 =>
FA 4 a_1 s46 fun v60 s61 =>
LOAD .one v60 s61 fun v62 s63 =>
FA 4 b_3 s63 fun v64 s65 =>
LOAD .one v64 s65 fun v66 s67 =>
BIN PP .neq 9 v62 v66 s67 fun v68 s69 =>
IFB v68 (K (Bo false) s69) (k57 [nth xs45 0, v68] s69)) fun xs58 s59 =>
K (Bo true) s59
theorem F.laws_eqIns_eq (G : Seal) (a0 : AV) (a1 : AV) (K : KAV) (s0 : AHeap) : F.laws_eqIns G a0 a1 K s0 = denF PP G { keep := [0, 1, 2, 3, 4, 9, 14, 19, 24, 29] } Tryz.f66 [a0, a1] K s0 := by kernel_rfl
theorem F.laws_eqIns_ok {G : Seal} {a0 : AV} {a1 : AV} {Q : KAV} {s0 : AHeap} (h : F.laws_eqIns G a0 a1 (Fin Q) s0) : ACalls PP G N.laws_eqIns [a0, a1] s0 Q :=
  acalls_of_den (fn := Tryz.f66) (C := { keep := [0, 1, 2, 3, 4, 9, 14, 19, 24, 29] }) mixed (by kernel_rfl) (by kernel_rfl) (by kernel_rfl) (Eq.mp (F.laws_eqIns_eq G a0 a1 _ _) h)

def F.spec_l00Word (G : Seal) (a0 : AV) (K : KAV) (s0 : AHeap) : Prop :=
JOIN (fun k1 =>
LENS a0 s0 fun v4 s5 =>
BIN PP .lss 3 v4 (I 1) s5 fun v6 s7 =>
JOIN (fun k8 => IFG false v6 (LENS a0 s7 fun v11 s12 =>
BIN PP .gtr 3 v11 (I 40) s12 fun v13 s14 =>
k8 [a0, v11, v13] s14) (k8 [U, U, U] s7)) fun xs9 s10 =>
PICK v6 (Bo true) (nth xs9 2) s10 fun v15 s16 =>
JOIN (fun k17 => IFG false v15 (IX a0 (I 0) s16 fun v20 s21 =>
ACalls PP G N.spec_l00Letter [v20] s21 fun v22 s23 =>
UN PP .not v22 s23 fun v24 s25 =>
k17 [a0, v20, v22, v24] s25) (k17 [U, U, U, U] s16)) fun xs18 s19 =>
PICK v15 (Bo true) (nth xs18 3) s19 fun v26 s27 =>
IFB v26 (K (Bo false) s27) (k1 [Bo false, v26] s27)) fun xs2 s3 =>
JOIN (fun k28 =>
LOOP (fun rec31 xs32 s33 =>
JOIN (fun k34 =>
LENS a0 s33 fun v37 s38 =>
BIN PP .lss 3 (nth xs32 1) v37 s38 fun v39 s40 =>
IFB v39 (k34 [v39] s40) (k28 [nth xs32 0, nth xs32 1, v39, nth xs32 3] s40)) fun xs35 s36 =>
JOIN (fun k41 =>
IX a0 (nth xs32 1) s36 fun v44 s45 =>
ACalls PP G N.spec_l00Letter [v44] s45 fun v46 s47 =>
UN PP .not v46 s47 fun v48 s49 =>
JOIN (fun k50 => IFG true v48 (IX a0 (nth xs32 1) s49 fun v53 s54 =>
ACalls PP G N.spec_l00Digit [v53] s54 fun v55 s56 =>
UN PP .not v55 s56 fun v57 s58 =>
k50 [a0, nth xs32 1, v53, v55, v57] s58) (k50 [U, U, U, U, U] s49)) fun xs51 s52 =>
PICK v48 (nth xs51 4) (Bo false) s52 fun v59 s60 =>
IFB v59 (K (Bo false) s60) (k41 [nth xs32 0, v59] s60)) fun xs42 s43 =>
BIN PP .add 3 (nth xs32 1) (I 1) s43 fun v61 s62 =>
rec31 [nth xs42 0, v61, nth xs35 0, nth xs42 1] s62) [nth xs2 0, I 1, .un, .un] s3) fun xs29 s30 =>
K (Bo true) s30
theorem F.spec_l00Word_eq (G : Seal) (a0 : AV) (K : KAV) (s0 : AHeap) : F.spec_l00Word G a0 K s0 = denF PP G { keep := [0, 2, 3, 17, 21, 35] } Tryz.f67 [a0] K s0 := by kernel_rfl
theorem F.spec_l00Word_ok {G : Seal} {a0 : AV} {Q : KAV} {s0 : AHeap} (h : F.spec_l00Word G a0 (Fin Q) s0) : ACalls PP G N.spec_l00Word [a0] s0 Q :=
  acalls_of_den (fn := Tryz.f67) (C := { keep := [0, 2, 3, 17, 21, 35] }) mixed (by kernel_rfl) (by kernel_rfl) (by kernel_rfl) (Eq.mp (F.spec_l00Word_eq G a0 _ _) h)

def F.spec_l01Keys (G : Seal) (K : KAV) (s0 : AHeap) : Prop :=
LIT false 1 [St (bs [77, 79, 68, 85, 76, 69]), St (bs [73, 77, 80, 79, 82, 84]), St (bs [67, 79, 78, 83, 84]), St (bs [86, 65, 82]), St (bs [80, 82, 79, 67, 69, 68, 85, 82, 69]), St (bs [66, 69, 71, 73, 78]), St (bs [69, 78, 68]), St (bs [73, 70]), St (bs [84, 72, 69, 78]), St (bs [69, 76, 83, 73, 70]), St (bs [69, 76, 83, 69]), St (bs [87, 72, 73, 76, 69]), St (bs [68, 79]), St (bs [82, 69, 84, 85, 82, 78]), St (bs [79, 82]), St (bs [68, 73, 86]), St (bs [77, 79, 68]), St (bs [84, 82, 85, 69]), St (bs [70, 65, 76, 83, 69]), St (bs [65, 82, 82, 65, 89]), St (bs [79, 70]), St (bs [73, 78, 84, 69, 71, 69, 82]), St (bs [66, 79, 79, 76, 69, 65, 78]), St (bs [67, 72, 65, 82]), St (bs [87, 82, 73, 84, 69]), St (bs [82, 69, 65, 68]), St (bs [79, 82, 68]), St (bs [67, 72, 82]), St (bs [76, 69, 78])] s0 fun v1 s2 =>
K v1 s2
theorem F.spec_l01Keys_eq (G : Seal) (K : KAV) (s0 : AHeap) : F.spec_l01Keys G K s0 = denF PP G { keep := [0] } Tryz.f68 [] K s0 := by kernel_rfl
theorem F.spec_l01Keys_ok {G : Seal} {Q : KAV} {s0 : AHeap} (h : F.spec_l01Keys G (Fin Q) s0) : ACalls PP G N.spec_l01Keys [] s0 Q :=
  acalls_of_den (fn := Tryz.f68) (C := { keep := [0] }) mixed (by kernel_rfl) (by kernel_rfl) (by kernel_rfl) (Eq.mp (F.spec_l01Keys_eq G _ _) h)

def F.spec_l04Signs (G : Seal) (K : KAV) (s0 : AHeap) : Prop :=
LIT false 1 [St (bs [43]), St (bs [45]), St (bs [42]), St (bs [68, 73, 86]), St (bs [77, 79, 68]), St (bs [61]), St (bs [35]), St (bs [60]), St (bs [60, 61]), St (bs [62]), St (bs [62, 61])] s0 fun v1 s2 =>
K v1 s2
theorem F.spec_l04Signs_eq (G : Seal) (K : KAV) (s0 : AHeap) : F.spec_l04Signs G K s0 = denF PP G { keep := [0] } Tryz.f69 [] K s0 := by kernel_rfl
theorem F.spec_l04Signs_ok {G : Seal} {Q : KAV} {s0 : AHeap} (h : F.spec_l04Signs G (Fin Q) s0) : ACalls PP G N.spec_l04Signs [] s0 Q :=
  acalls_of_den (fn := Tryz.f69) (C := { keep := [0] }) mixed (by kernel_rfl) (by kernel_rfl) (by kernel_rfl) (Eq.mp (F.spec_l04Signs_eq G _ _) h)

def F.impl_isLetter (G : Seal) (a0 : AV) (K : KAV) (s0 : AHeap) : Prop :=
BIN PP .geq 5 a0 (.sc (.int .u8 97)) s0 fun v1 s2 =>
JOIN (fun k3 => IFG true v1 (BIN PP .leq 5 a0 (.sc (.int .u8 122)) s2 fun v6 s7 =>
k3 [a0, v6] s7) (k3 [U, U] s2)) fun xs4 s5 =>
PICK v1 (nth xs4 1) (Bo false) s5 fun v8 s9 =>
JOIN (fun k10 => IFG false v8 (BIN PP .geq 5 a0 (.sc (.int .u8 65)) s9 fun v13 s14 =>
k10 [a0, v13, v13] s14) (k10 [U, U, U] s9)) fun xs11 s12 =>
JOIN (fun k15 => IFG true (nth xs11 2) (BIN PP .leq 5 a0 (.sc (.int .u8 90)) s12 fun v18 s19 =>
k15 [a0, v18] s19) (k15 [U, U] s12)) fun xs16 s17 =>
JOIN (fun k20 => IFG false v8 (PICK (nth xs11 2) (nth xs16 1) (Bo false) s17 fun v23 s24 =>
k20 [v23] s24) (k20 [U] s17)) fun xs21 s22 =>
PICK v8 (Bo true) (nth xs21 0) s22 fun v25 s26 =>
JOIN (fun k27 => IFG false v25 (BIN PP .eql 5 a0 (.sc (.int .u8 95)) s26 fun v30 s31 =>
k27 [a0, v30] s31) (k27 [U, U] s26)) fun xs28 s29 =>
PICK v25 (Bo true) (nth xs28 1) s29 fun v32 s33 =>
K v32 s33
theorem F.impl_isLetter_eq (G : Seal) (a0 : AV) (K : KAV) (s0 : AHeap) : F.impl_isLetter G a0 K s0 = denF PP G { keep := [0, 2] } Tryz.f70 [a0] K s0 := by kernel_rfl
theorem F.impl_isLetter_ok {G : Seal} {a0 : AV} {Q : KAV} {s0 : AHeap} (h : F.impl_isLetter G a0 (Fin Q) s0) : ACalls PP G N.impl_isLetter [a0] s0 Q :=
  acalls_of_den (fn := Tryz.f70) (C := { keep := [0, 2] }) mixed (by kernel_rfl) (by kernel_rfl) (by kernel_rfl) (Eq.mp (F.impl_isLetter_eq G a0 _ _) h)

def F.impl_areAll_byte (G : Seal) (a0 : AV) (a1 : AV) (K : KAV) (s0 : AHeap) : Prop :=
BOX 1 a1 s0 fun is_1 s2 =>
MKFN (.func N.impl_areAll_byte_1) [] [is_1] s2 fun v3 s4 =>
ACalls PP G N.slices_ContainsFunc_byte_byte [a0, v3] s4 fun v5 s6 =>
UN PP .not v5 s6 fun v7 s8 =>
K v7 s8
theorem F.impl_areAll_byte_eq (G : Seal) (a0 : AV) (a1 : AV) (K : KAV) (s0 : AHeap) : F.impl_areAll_byte G a0 a1 K s0 = denF PP G { keep := [0, 1, 3, 4] } Tryz.f71 [a0, a1] K s0 := by kernel_rfl
theorem F.impl_areAll_byte_ok {G : Seal} {a0 : AV} {a1 : AV} {Q : KAV} {s0 : AHeap} (h : F.impl_areAll_byte G a0 a1 (Fin Q) s0) : ACalls PP G N.impl_areAll_byte [a0, a1] s0 Q :=
  acalls_of_den (fn := Tryz.f71) (C := { keep := [0, 1, 3, 4] }) mixed (by kernel_rfl) (by kernel_rfl) (by kernel_rfl) (Eq.mp (F.impl_areAll_byte_eq G a0 a1 _ _) h)

def F.impl_isWordByte (G : Seal) (a0 : AV) (K : KAV) (s0 : AHeap) : Prop :=
ACalls PP G N.impl_isLetter [a0] s0 fun v1 s2 =>
JOIN (fun k3 => IFG false v1 (ACalls PP G N.impl_isDigit [a0] s2 fun v6 s7 =>
k3 [a0, v6] s7) (k3 [U, U] s2)) fun xs4 s5 =>
PICK v1 (Bo true) (nth xs4 1) s5 fun v8 s9 =>
K v8 s9
theorem F.impl_isWordByte_eq (G : Seal) (a0 : AV) (K : KAV) (s0 : AHeap) : F.impl_isWordByte G a0 K s0 = denF PP G { keep := [0, 2] } Tryz.f72 [a0] K s0 := by kernel_rfl
theorem F.impl_isWordByte_ok {G : Seal} {a0 : AV} {Q : KAV} {s0 : AHeap} (h : F.impl_isWordByte G a0 (Fin Q) s0) : ACalls PP G N.impl_isWordByte [a0] s0 Q :=
  acalls_of_den (fn := Tryz.f72) (C := { keep := [0, 2] }) mixed (by kernel_rfl) (by kernel_rfl) (by kernel_rfl) (Eq.mp (F.impl_isWordByte_eq G a0 _ _) h)

def F.slices_Contains_string_string (G : Seal) (a0 : AV) (a1 : AV) (K : KAV) (s0 : AHeap) : Prop :=
ACalls PP G N.slices_Index_string_string [a0, a1] s0 fun v1 s2 =>
BIN PP .geq 3 v1 (I 0) s2 fun v3 s4 =>
K v3 s4
theorem F.slices_Contains_string_string_eq (G : Seal) (a0 : AV) (a1 : AV) (K : KAV) (s0 : AHeap) : F.slices_Contains_string_string G a0 a1 K s0 = denF PP G { keep := [0, 1, 4] } Tryz.f73 [a0, a1] K s0 := by kernel_rfl
theorem F.slices_Contains_string_string_ok {G : Seal} {a0 : AV} {a1 : AV} {Q : KAV} {s0 : AHeap} (h : F.slices_Contains_string_string G a0 a1 (Fin Q) s0) : ACalls PP G N.slices_Contains_string_string [a0, a1] s0 Q :=
  acalls_of_den (fn := Tryz.f73) (C := { keep := [0, 1, 4] }) mixed (by kernel_rfl) (by kernel_rfl) (by kernel_rfl) (Eq.mp (F.slices_Contains_string_string_eq G a0 a1 _ _) h)

def F.impl_keys (G : Seal) (K : KAV) (s0 : AHeap) : Prop :=
ACalls PP G N.strings_Fields [St (bs [77, 79, 68, 85, 76, 69, 32, 73, 77, 80, 79, 82, 84, 32, 67, 79, 78, 83, 84, 32, 86, 65, 82, 32, 80, 82, 79, 67, 69, 68, 85, 82, 69, 32, 66, 69, 71, 73, 78, 32, 69, 78, 68, 32, 73, 70, 32, 84, 72, 69, 78, 32, 69, 76, 83, 73, 70, 32, 69, 76, 83, 69, 32, 87, 72, 73, 76, 69, 32, 68, 79, 32, 82, 69, 84, 85, 82, 78, 32, 79, 82, 32, 68, 73, 86, 32, 77, 79, 68, 32, 84, 82, 85, 69, 32, 70, 65, 76, 83, 69, 32, 65, 82, 82, 65, 89, 32, 79, 70, 32, 73, 78, 84, 69, 71, 69, 82, 32, 66, 79, 79, 76, 69, 65, 78, 32, 67, 72, 65, 82, 32, 87, 82, 73, 84, 69, 32, 82, 69, 65, 68, 32, 79, 82, 68, 32, 67, 72, 82, 32, 76, 69, 78])] s0 fun v1 s2 =>
K v1 s2
theorem F.impl_keys_eq (G : Seal) (K : KAV) (s0 : AHeap) : F.impl_keys G K s0 = denF PP G { keep := [0] } Tryz.f74 [] K s0 := by kernel_rfl
theorem F.impl_keys_ok {G : Seal} {Q : KAV} {s0 : AHeap} (h : F.impl_keys G (Fin Q) s0) : ACalls PP G N.impl_keys [] s0 Q :=
  acalls_of_den (fn := Tryz.f74) (C := { keep := [0] }) mixed (by kernel_rfl) (by kernel_rfl) (by kernel_rfl) (Eq.mp (F.impl_keys_eq G _ _) h)

def F.slices_IndexFunc_impl_Ins_impl_Ins (G : Seal) (a0 : AV) (a1 : AV) (K : KAV) (s0 : AHeap) : Prop :=
JOIN (fun k1 =>
LENL a0 s0 fun v4 s5 =>
LOOP (fun rec6 xs7 s8 =>
BIN PP .lss 3 (nth xs7 2) v4 s8 fun v9 s10 =>
JOIN (fun k11 =>
IFB v9 (k11 [] s10) (k1 [nth xs7 0, nth xs7 1, v4, nth xs7 2, v9, nth xs7 4] s10)) fun xs12 s13 =>
JOIN (fun k14 =>
IA (.slice 5) a0 (nth xs7 2) s13 fun v17 s18 =>
LOAD (.agg 5) v17 s18 fun v19 s20 =>
CALL PP G a1 [v19] s20 fun v21 s22 =>
IFB v21 (K (nth xs7 2) s22) (k14 [nth xs7 0, nth xs7 2, v21] s22)) fun xs15 s16 =>
BIN PP .add 3 (nth xs7 2) (I 1) s16 fun v23 s24 =>
rec6 [nth xs15 0, nth xs15 1, v23, v9, nth xs15 2] s24) [I 0, .un, I 0, .un, .un] s5) fun xs2 s3 =>
K (I (-1)) s3
theorem F.slices_IndexFunc_impl_Ins_impl_Ins_eq (G : Seal) (a0 : AV) (a1 : AV) (K : KAV) (s0 : AHeap) : F.slices_IndexFunc_impl_Ins_impl_Ins G a0 a1 K s0 = denF PP G { keep := [0, 1, 4, 5, 7, 8, 9, 16] } Tryz.f75 [a0, a1] K s0 := by kernel_rfl
theorem F.slices_IndexFunc_impl_Ins_impl_Ins_ok {G : Seal} {a0 : AV} {a1 : AV} {Q : KAV} {s0 : AHeap} (h : F.slices_IndexFunc_impl_Ins_impl_Ins G a0 a1 (Fin Q) s0) : ACalls PP G N.slices_IndexFunc_impl_Ins_impl_Ins [a0, a1] s0 Q :=
  acalls_of_den (fn := Tryz.f75) (C := { keep := [0, 1, 4, 5, 7, 8, 9, 16] }) mixed (by kernel_rfl) (by kernel_rfl) (by kernel_rfl) (Eq.mp (F.slices_IndexFunc_impl_Ins_impl_Ins_eq G a0 a1 _ _) h)

def F.impl_Code_verify_1 (G : Seal) (a0 : AV) (a1 : AV) (K : KAV) (s0 : AHeap) : Prop :=
BOX 5 a0 s0 fun x_1 s2 =>
LOAD (.agg 5) a1 s2 fun v3 s4 =>
LOAD (.agg 5) x_1 s4 fun v5 s6 =>
ACalls PP G N.impl_Code_isIns [v3, v5] s6 fun v7 s8 =>
UN PP .not v7 s8 fun v9 s10 =>
K v9 s10
theorem F.impl_Code_verify_1_eq (G : Seal) (a0 : AV) (a1 : AV) (K : KAV) (s0 : AHeap) : F.impl_Code_verify_1 G a0 a1 K s0 = denF PP G { keep := [0, 1, 2, 3] } Tryz.f76 [a0, a1] K s0 := by kernel_rfl
theorem F.impl_Code_verify_1_ok {G : Seal} {a0 : AV} {a1 : AV} {Q : KAV} {s0 : AHeap} (h : F.impl_Code_verify_1 G a0 a1 (Fin Q) s0) : ACalls PP G N.impl_Code_verify_1 [a0, a1] s0 Q :=
  acalls_of_den (fn := Tryz.f76) (C := { keep := [0, 1, 2, 3] }) mixed (by kernel_rfl) (by kernel_rfl) (by kernel_rfl) (Eq.mp (F.impl_Code_verify_1_eq G a0 a1 _ _) h)

def F.impl_Code_isIns (G : Seal) (a0 : AV) (a1 : AV) (K : KAV) (s0 : AHeap) : Prop :=
BOX 5 a0 s0 fun c_1 s2 =>
BOX 5 a1 s2 fun x_3 s4 =>
JOIN (fun k5 =>
FA 0 x_3 s4 fun v8 s9 =>
LOAD .one v8 s9 fun v10 s11 =>
ACalls PP G N.impl_hasPlace [v10] s11 fun v12 s13 =>
IFB v12 (FA 3 x_3 s13 fun v14 s15 =>
LOAD .one v14 s15 fun v16 s17 =>
ACalls PP G N.impl_isName [v16] s17 fun v18 s19 =>
UN PP .not v18 s19 fun v20 s21 =>
JOIN (fun k22 => IFG false v20 (FA 4 x_3 s21 fun v25 s26 =>
LOAD .one v25 s26 fun v27 s28 =>
ACalls PP G N.impl_isName [v27] s28 fun v29 s30 =>
UN PP .not v29 s30 fun v31 s32 =>
k22 [v25, v27, v29, v31] s32) (k22 [U, U, U, U] s21)) fun xs23 s24 =>
PICK v20 (Bo true) (nth xs23 3) s24 fun v33 s34 =>
IFB v33 (K (Bo false) s34) (k5 [Bo false, v12, v33, .un] s34)) (FA 3 x_3 s13 fun v35 s36 =>
LOAD .one v35 s36 fun v37 s38 =>
BIN PP .neq 9 v37 (St (bs [])) s38 fun v39 s40 =>
JOIN (fun k41 => IFG false v39 (FA 4 x_3 s40 fun v44 s45 =>
LOAD .one v44 s45 fun v46 s47 =>
BIN PP .neq 9 v46 (St (bs [])) s47 fun v48 s49 =>
k41 [v44, v46, v48] s49) (k41 [U, U, U] s40)) fun xs42 s43 =>
PICK v39 (Bo true) (nth xs42 2) s43 fun v50 s51 =>
IFB v50 (K (Bo false) s51) (k5 [Bo false, v12, .un, v50] s51))) fun xs6 s7 =>
JOIN (fun k52 =>
FA 0 x_3 s7 fun v55 s56 =>
LOAD .one v55 s56 fun v57 s58 =>
BIN PP .neq 3 v57 (I 13) s58 fun v59 s60 =>
JOIN (fun k61 => IFG true v59 (FA 2 x_3 s60 fun v64 s65 =>
LOAD .one v64 s65 fun v66 s67 =>
BIN PP .neq 3 v66 (I 0) s67 fun v68 s69 =>
k61 [v64, v66, v68] s69) (k61 [U, U, U] s60)) fun xs62 s63 =>
PICK v59 (nth xs62 2) (Bo false) s63 fun v70 s71 =>
IFB v70 (K (Bo false) s71) (k52 [nth xs6 0, v70] s71)) fun xs53 s54 =>
JOIN (fun k72 =>
FA 0 x_3 s54 fun v75 s76 =>
LOAD .one v75 s76 fun v77 s78 =>
BIN PP .eql 3 v77 (I 1) s78 fun v79 s80 =>
IFB v79 (K (Bo true) s80) (BIN PP .eql 3 v77 (I 2) s80 fun v81 s82 =>
IFB v81 (FA 1 x_3 s82 fun v83 s84 =>
LOAD .one v83 s84 fun v85 s86 =>
FA 2 c_1 s86 fun v87 s88 =>
LOAD .one v87 s88 fun v89 s90 =>
BIN PP .sub 3 v89 (I 1) s90 fun v91 s92 =>
ACalls PP G N.impl_within [v85, I 0, v91] s92 fun v93 s94 =>
K v93 s94) (BIN PP .eql 3 v77 (I 6) s82 fun v95 s96 =>
IFB v95 (FA 1 x_3 s96 fun v97 s98 =>
LOAD .one v97 s98 fun v99 s100 =>
ACalls PP G N.impl_within [v99, I 1, I 100] s100 fun v101 s102 =>
K v101 s102) (BIN PP .eql 3 v77 (I 7) s96 fun v103 s104 =>
IFB v103 (FA 1 x_3 s104 fun v105 s106 =>
LOAD .one v105 s106 fun v107 s108 =>
ACalls PP G N.impl_works [] s108 fun v109 s110 =>
(LOAD .one v105 s110 (SAMEV v107 s110)) ∧
(LENL v109 s110 fun v111 s112 =>
BIN PP .sub 3 v111 (I 1) s112 fun v113 s114 =>
ACalls PP G N.impl_within [v107, I 0, v113] s114 fun v115 s116 =>
K v115 s116)) (JOIN (fun k117 =>
BIN PP .eql 3 v77 (I 11) s104 fun v120 s121 =>
IFB v120 (k117 [v120] s121) (BIN PP .eql 3 v77 (I 12) s121 fun v122 s123 =>
k117 [v122] s123)) fun xs118 s119 =>
IFB (nth xs118 0) (FA 1 x_3 s119 fun v124 s125 =>
LOAD .one v124 s125 fun v126 s127 =>
FA 4 c_1 s127 fun v128 s129 =>
LOAD .one v128 s129 fun v130 s131 =>
LENL v130 s131 fun v132 s133 =>
BIN PP .sub 3 v132 (I 1) s133 fun v134 s135 =>
ACalls PP G N.impl_within [v126, I 0, v134] s135 fun v136 s137 =>
K v136 s137) (BIN PP .eql 3 v77 (I 13) s119 fun v138 s139 =>
IFB v138 (FA 1 x_3 s139 fun v140 s141 =>
LOAD .one v140 s141 fun v142 s143 =>
ACalls PP G N.impl_within [v142, I 0, I 20] s143 fun v144 s145 =>
JOIN (fun k146 => IFG true v144 (FA 2 x_3 s145 fun v149 s150 =>
LOAD .one v149 s150 fun v151 s152 =>
ACalls PP G N.impl_within [v151, I 0, I 1] s152 fun v153 s154 =>
k146 [v149, v151, v153] s154) (k146 [U, U, U] s145)) fun xs147 s148 =>
PICK v144 (nth xs147 2) (Bo false) s148 fun v155 s156 =>
K v155 s156) (BIN PP .eql 3 v77 (I 14) s139 fun v157 s158 =>
IFB v157 (FA 1 x_3 s158 fun v159 s160 =>
LOAD .one v159 s160 fun v161 s162 =>
FA 3 c_1 s162 fun v163 s164 =>
LOAD .one v163 s164 fun v165 s166 =>
BIN PP .eql 3 v161 v165 s166 fun v167 s168 =>
K v167 s168) (BIN PP .eql 3 v77 (I 15) s158 fun v169 s170 =>
IFB v169 (FA 1 x_3 s170 fun v171 s172 =>
LOAD .one v171 s172 fun v173 s174 =>
ACalls PP G N.impl_isType [v173] s174 fun v175 s176 =>
K v175 s176) (BIN PP .eql 3 v77 (I 16) s170 fun v177 s178 =>
IFB v177 (FA 1 x_3 s178 fun v179 s180 =>
LOAD .one v179 s180 fun v181 s182 =>
BIN PP .eql 3 v181 (I 1) s182 fun v183 s184 =>
JOIN (fun k185 => IFG false v183 (FA 1 x_3 s184 fun v188 s189 =>
LOAD .one v188 s189 fun v190 s191 =>
BIN PP .eql 3 v190 (I 3) s191 fun v192 s193 =>
k185 [v188, v190, v192] s193) (k185 [U, U, U] s184)) fun xs186 s187 =>
PICK v183 (Bo true) (nth xs186 2) s187 fun v194 s195 =>
K v194 s195) (BIN PP .eql 3 v77 (I 17) s178 fun v196 s197 =>
IFB v196 (FA 1 x_3 s197 fun v198 s199 =>
LOAD .one v198 s199 fun v200 s201 =>
ACalls PP G N.impl_within [v200, I 1, I 5] s201 fun v202 s203 =>
K v202 s203) (k72 [nth xs53 0, v77, v79, v81, v95, v103, nth xs118 0, v138, v157, v169, v177, v196] s197))))))))))) fun xs73 s74 =>
FA 0 x_3 s74 fun v204 s205 =>
LOAD .one v204 s205 fun v206 s207 =>
ACalls PP G N.impl_within [v206, I 1, I 17] s207 fun v208 s209 =>
JOIN (fun k210 => IFG true v208 (FA 1 x_3 s209 fun v213 s214 =>
LOAD .one v213 s214 fun v215 s216 =>
BIN PP .eql 3 v215 (I 0) s216 fun v217 s218 =>
k210 [v213, v215, v217] s218) (k210 [U, U, U] s209)) fun xs211 s212 =>
PICK v208 (nth xs211 2) (Bo false) s212 fun v219 s220 =>
K v219 s220
theorem F.impl_Code_isIns_eq (G : Seal) (a0 : AV) (a1 : AV) (K : KAV) (s0 : AHeap) : F.impl_Code_isIns G a0 a1 K s0 = denF PP G { keep := [0, 1, 2, 3, 4, 7, 17, 25, 33, 35, 36, 38, 46, 51, 59, 69, 79, 86, 91, 101] } Tryz.f77 [a0, a1] K s0 := by kernel_rfl
theorem F.impl_Code_isIns_ok {G : Seal} {a0 : AV} {a1 : AV} {Q : KAV} {s0 : AHeap} (h : F.impl_Code_isIns G a0 a1 (Fin Q) s0) : ACalls PP G N.impl_Code_isIns [a0, a1] s0 Q :=
  acalls_of_den (fn := Tryz.f77) (C := { keep := [0, 1, 2, 3, 4, 7, 17, 25, 33, 35, 36, 38, 46, 51, 59, 69, 79, 86, 91, 101] }) mixed (by kernel_rfl) (by kernel_rfl) (by kernel_rfl) (Eq.mp (F.impl_Code_isIns_eq G a0 a1 _ _) h)

def F.impl_Code_flow (G : Seal) (a0 : AV) (K : KAV) (s0 : AHeap) : Prop :=
BOX 5 a0 s0 fun c_1 s2 =>
LIT false 1 [I (-1)] s2 fun v3 s4 =>
FA 4 c_1 s4 fun v5 s6 =>
LOAD .one v5 s6 fun v7 s8 =>
LENL v7 s8 fun v9 s10 =>
ACalls PP G N.slices_Repeat_int_int [v3, v9] s10 fun v11 s12 =>
IA (.slice 1) v11 (I 0) s12 fun v13 s14 =>
STORE 1 v13 (I 0) s14 fun u15 s16 =>
JOIN (fun k17 =>
LOOP (fun rec20 xs21 s22 =>
JOIN (fun k23 =>
IFB (nth xs21 2) (k23 [nth xs21 2] s22) (k17 [nth xs21 0, nth xs21 1, nth xs21 2, nth xs21 3, nth xs21 4, nth xs21 5, nth xs21 2, nth xs21 7, nth xs21 8, nth xs21 9, nth xs21 10, nth xs21 11] s22)) fun xs24 s25 =>
FA 4 c_1 s25 fun v26 s27 =>
LOAD .one v26 s27 fun v28 s29 =>
LENL v28 s29 fun v30 s31 =>
LOOP (fun rec32 xs33 s34 =>
BIN PP .lss 3 (nth xs33 6) v30 s34 fun v35 s36 =>
JOIN (fun k37 =>
IFB v35 (k37 [] s36) (rec20 [nth xs33 0, nth xs33 1, nth xs33 2, nth xs33 3, nth xs33 4, nth xs33 5, nth xs24 0, v30, nth xs33 6, v35, nth xs33 8, nth xs33 9] s36)) fun xs38 s39 =>
JOIN (fun k40 =>
JOIN (fun k43 =>
IA (.slice 1) v11 (nth xs33 6) s39 fun v46 s47 =>
LOAD .one v46 s47 fun v48 s49 =>
BIN PP .eql 3 v48 (I (-1)) s49 fun v50 s51 =>
IFB v50 (k40 [nth xs33 0, nth xs33 1, nth xs33 2, nth xs33 6, nth xs33 4, nth xs33 5, v50, nth xs33 9] s51) (k43 [v50] s51)) fun xs44 s45 =>
LOAD (.agg 5) c_1 s45 fun v52 s53 =>
ACalls PP G N.impl_Code_reach [v52, v11, nth xs33 6] s53 fun v54 s55 =>
TUP v54 0 s55 fun v56 s57 =>
TUP v54 1 s57 fun v58 s59 =>
JOIN (fun k60 =>
BIN PP .neq 3 v58 (I 0) s59 fun v63 s64 =>
IFB v63 (K (.tu [v58, nth xs33 6]) s64) (k60 [nth xs33 0, nth xs33 1, v63] s64)) fun xs61 s62 =>
JOIN (fun k65 => IFG false (nth xs33 2) (k65 [v56] s62) (k65 [U] s62)) fun xs66 s67 =>
PICK (nth xs33 2) (Bo true) (nth xs66 0) s67 fun v68 s69 =>
k40 [nth xs61 0, nth xs61 1, v68, nth xs33 6, v56, v58, nth xs44 0, nth xs61 2] s69) fun xs41 s42 =>
BIN PP .add 3 (nth xs33 6) (I 1) s42 fun v70 s71 =>
rec32 [nth xs41 0, nth xs41 1, nth xs41 2, nth xs41 3, nth xs41 4, nth xs41 5, v70, v35, nth xs41 6, nth xs41 7] s71) [nth xs21 0, nth xs21 1, Bo false, nth xs21 3, nth xs21 4, nth xs21 5, I 0, nth xs21 9, nth xs21 10, nth xs21 11] s31) [I 0, I 0, Bo true, .un, .un, .un, .un, .un, .un, .un, .un, .un] s16) fun xs18 s19 =>
K (.tu [I 0, I 0]) s19
theorem F.impl_Code_flow_eq (G : Seal) (a0 : AV) (K : KAV) (s0 : AHeap) : F.impl_Code_flow G a0 K s0 = denF PP G { keep := [0, 1, 2, 3, 4, 5, 6, 7, 8, 16, 19, 20, 21, 27, 36] } Tryz.f78 [a0] K s0 := by kernel_rfl
theorem F.impl_Code_flow_ok {G : Seal} {a0 : AV} {Q : KAV} {s0 : AHeap} (h : F.impl_Code_flow G a0 (Fin Q) s0) : ACalls PP G N.impl_Code_flow [a0] s0 Q :=
  acalls_of_den (fn := Tryz.f78) (C := { keep := [0, 1, 2, 3, 4, 5, 6, 7, 8, 16, 19, 20, 21, 27, 36] }) mixed (by kernel_rfl) (by kernel_rfl) (by kernel_rfl) (Eq.mp (F.impl_Code_flow_eq G a0 _ _) h)

def F.slices_Collect_string (G : Seal) (a0 : AV) (K : KAV) (s0 : AHeap) : Prop :=
ACalls PP G N.slices_AppendSeq_string_string [.nl, a0] s0 fun v1 s2 =>
K v1 s2
theorem F.slices_Collect_string_eq (G : Seal) (a0 : AV) (K : KAV) (s0 : AHeap) : F.slices_Collect_string G a0 K s0 = denF PP G { keep := [0, 2] } Tryz.f79 [a0] K s0 := by kernel_rfl
theorem F.slices_Collect_string_ok {G : Seal} {a0 : AV} {Q : KAV} {s0 : AHeap} (h : F.slices_Collect_string G a0 (Fin Q) s0) : ACalls PP G N.slices_Collect_string [a0] s0 Q :=
  acalls_of_den (fn := Tryz.f79) (C := { keep := [0, 2] }) mixed (by kernel_rfl) (by kernel_rfl) (by kernel_rfl) (Eq.mp (F.slices_Collect_string_eq G a0 _ _) h)

def F.slices_Values_string_string_1 (G : Seal) (a0 : AV) (a1 : AV) (K : KAV) (s0 : AHeap) : Prop :=
LOAD .one a1 s0 fun v1 s2 =>
LENL v1 s2 fun v3 s4 =>
LOOP (fun rec5 xs6 s7 =>
BIN PP .lss 3 (nth xs6 1) v3 s7 fun v8 s9 =>
JOIN (fun k10 =>
IFB v8 (k10 [] s9) (K (.tu []) s9)) fun xs11 s12 =>
JOIN (fun k13 =>
IA (.slice 1) v1 (nth xs6 1) s12 fun v16 s17 =>
LOAD .one v16 s17 fun v18 s19 =>
CALL PP G a0 [v18] s19 fun v20 s21 =>
UN PP .not v20 s21 fun v22 s23 =>
IFB v22 (K (.tu []) s23) (k13 [v18, v22] s23)) fun xs14 s15 =>
BIN PP .add 3 (nth xs6 1) (I 1) s15 fun v24 s25 =>
rec5 [nth xs14 0, v24, v8, nth xs14 1] s25) [.un, I 0, .un, .un] s4
theorem F.slices_Values_string_string_1_eq (G : Seal) (a0 : AV) (a1 : AV) (K : KAV) (s0 : AHeap) : F.slices_Values_string_string_1 G a0 a1 K s0 = denF PP G { keep := [0, 1, 4, 5, 6, 7, 8, 14] } Tryz.f81 [a0, a1] K s0 := by kernel_rfl
theorem F.slices_Values_string_string_1_ok {G : Seal} {a0 : AV} {a1 : AV} {Q : KAV} {s0 : AHeap} (h : F.slices_Values_string_string_1 G a0 a1 (Fin Q) s0) : ACalls PP G N.slices_Values_string_string_1 [a0, a1] s0 Q :=
  acalls_of_den (fn := Tryz.f81) (C := { keep := [0, 1, 4, 5, 6, 7, 8, 14] }) mixed (by kernel_rfl) (by kernel_rfl) (by kernel_rfl) (Eq.mp (F.slices_Values_string_string_1_eq G a0 a1 _ _) h)

def F.slices_IndexFunc_impl_Need_impl_Need (G : Seal) (a0 : AV) (a1 : AV) (K : KAV) (s0 : AHeap) : Prop :=
JOIN (fun k1 =>
LENL a0 s0 fun v4 s5 =>
LOOP (fun rec6 xs7 s8 =>
BIN PP .lss 3 (nth xs7 2) v4 s8 fun v9 s10 =>
JOIN (fun k11 =>
IFB v9 (k11 [] s10) (k1 [nth xs7 0, nth xs7 1, v4, nth xs7 2, v9, nth xs7 4] s10)) fun xs12 s13 =>
JOIN (fun k14 =>
IA (.slice 2) a0 (nth xs7 2) s13 fun v17 s18 =>
LOAD (.agg 2) v17 s18 fun v19 s20 =>
CALL PP G a1 [v19] s20 fun v21 s22 =>
IFB v21 (K (nth xs7 2) s22) (k14 [nth xs7 0, nth xs7 2, v21] s22)) fun xs15 s16 =>
BIN PP .add 3 (nth xs7 2) (I 1) s16 fun v23 s24 =>
rec6 [nth xs15 0, nth xs15 1, v23, v9, nth xs15 2] s24) [I 0, .un, I 0, .un, .un] s5) fun xs2 s3 =>
K (I (-1)) s3
theorem F.slices_IndexFunc_impl_Need_impl_Need_eq (G : Seal) (a0 : AV) (a1 : AV) (K : KAV) (s0 : AHeap) : F.slices_IndexFunc_impl_Need_impl_Need G a0 a1 K s0 = denF PP G { keep := [0, 1, 4, 5, 7, 8, 9, 16] } Tryz.f82 [a0, a1] K s0 := by kernel_rfl
theorem F.slices_IndexFunc_impl_Need_impl_Need_ok {G : Seal} {a0 : AV} {a1 : AV} {Q : KAV} {s0 : AHeap} (h : F.slices_IndexFunc_impl_Need_impl_Need G a0 a1 (Fin Q) s0) : ACalls PP G N.slices_IndexFunc_impl_Need_impl_Need [a0, a1] s0 Q :=
  acalls_of_den (fn := Tryz.f82) (C := { keep := [0, 1, 4, 5, 7, 8, 9, 16] }) mixed (by kernel_rfl) (by kernel_rfl) (by kernel_rfl) (Eq.mp (F.slices_IndexFunc_impl_Need_impl_Need_eq G a0 a1 _ _) h)

def F.spec_l00Letter (G : Seal) (a0 : AV) (K : KAV) (s0 : AHeap) : Prop :=
BIN PP .geq 5 a0 (.sc (.int .u8 97)) s0 fun v1 s2 =>
JOIN (fun k3 => IFG true v1 (BIN PP .leq 5 a0 (.sc (.int .u8 122)) s2 fun v6 s7 =>
k3 [a0, v6] s7) (k3 [U, U] s2)) fun xs4 s5 =>
PICK v1 (nth xs4 1) (Bo false) s5 fun v8 s9 =>
JOIN (fun k10 => IFG false v8 (BIN PP .geq 5 a0 (.sc (.int .u8 65)) s9 fun v13 s14 =>
k10 [a0, v13, v13] s14) (k10 [U, U, U] s9)) fun xs11 s12 =>
JOIN (fun k15 => IFG true (nth xs11 2) (BIN PP .leq 5 a0 (.sc (.int .u8 90)) s12 fun v18 s19 =>
k15 [a0, v18] s19) (k15 [U, U] s12)) fun xs16 s17 =>
JOIN (fun k20 => IFG false v8 (PICK (nth xs11 2) (nth xs16 1) (Bo false) s17 fun v23 s24 =>
k20 [v23] s24) (k20 [U] s17)) fun xs21 s22 =>
PICK v8 (Bo true) (nth xs21 0) s22 fun v25 s26 =>
JOIN (fun k27 => IFG false v25 (BIN PP .eql 5 a0 (.sc (.int .u8 95)) s26 fun v30 s31 =>
k27 [a0, v30] s31) (k27 [U, U] s26)) fun xs28 s29 =>
PICK v25 (Bo true) (nth xs28 1) s29 fun v32 s33 =>
K v32 s33
theorem F.spec_l00Letter_eq (G : Seal) (a0 : AV) (K : KAV) (s0 : AHeap) : F.spec_l00Letter G a0 K s0 = denF PP G { keep := [0, 2] } Tryz.f83 [a0] K s0 := by kernel_rfl
theorem F.spec_l00Letter_ok {G : Seal} {a0 : AV} {Q : KAV} {s0 : AHeap} (h : F.spec_l00Letter G a0 (Fin Q) s0) : ACalls PP G N.spec_l00Letter [a0] s0 Q :=
  acalls_of_den (fn := Tryz.f83) (C := { keep := [0, 2] }) mixed (by kernel_rfl) (by kernel_rfl) (by kernel_rfl) (Eq.mp (F.spec_l00Letter_eq G a0 _ _) h)

def F.spec_l00Digit (G : Seal) (a0 : AV) (K : KAV) (s0 : AHeap) : Prop :=
BIN PP .geq 5 a0 (.sc (.int .u8 48)) s0 fun v1 s2 =>
JOIN (fun k3 => IFG true v1 (BIN PP .leq 5 a0 (.sc (.int .u8 57)) s2 fun v6 s7 =>
k3 [a0, v6] s7) (k3 [U, U] s2)) fun xs4 s5 =>
PICK v1 (nth xs4 1) (Bo false) s5 fun v8 s9 =>
K v8 s9
theorem F.spec_l00Digit_eq (G : Seal) (a0 : AV) (K : KAV) (s0 : AHeap) : F.spec_l00Digit G a0 K s0 = denF PP G { keep := [0, 2] } Tryz.f84 [a0] K s0 := by kernel_rfl
theorem F.spec_l00Digit_ok {G : Seal} {a0 : AV} {Q : KAV} {s0 : AHeap} (h : F.spec_l00Digit G a0 (Fin Q) s0) : ACalls PP G N.spec_l00Digit [a0] s0 Q :=
  acalls_of_den (fn := Tryz.f84) (C := { keep := [0, 2] }) mixed (by kernel_rfl) (by kernel_rfl) (by kernel_rfl) (Eq.mp (F.spec_l00Digit_eq G a0 _ _) h)

def F.slices_ContainsFunc_byte_byte (G : Seal) (a0 : AV) (a1 : AV) (K : KAV) (s0 : AHeap) : Prop :=
ACalls PP G N.slices_IndexFunc_byte_byte [a0, a1] s0 fun v1 s2 =>
BIN PP .geq 3 v1 (I 0) s2 fun v3 s4 =>
K v3 s4
theorem F.slices_ContainsFunc_byte_byte_eq (G : Seal) (a0 : AV) (a1 : AV) (K : KAV) (s0 : AHeap) : F.slices_ContainsFunc_byte_byte G a0 a1 K s0 = denF PP G { keep := [0, 1, 4] } Tryz.f85 [a0, a1] K s0 := by kernel_rfl
theorem F.slices_ContainsFunc_byte_byte_ok {G : Seal} {a0 : AV} {a1 : AV} {Q : KAV} {s0 : AHeap} (h : F.slices_ContainsFunc_byte_byte G a0 a1 (Fin Q) s0) : ACalls PP G N.slices_ContainsFunc_byte_byte [a0, a1] s0 Q :=
  acalls_of_den (fn := Tryz.f85) (C := { keep := [0, 1, 4] }) mixed (by kernel_rfl) (by kernel_rfl) (by kernel_rfl) (Eq.mp (F.slices_ContainsFunc_byte_byte_eq G a0 a1 _ _) h)

def F.impl_areAll_byte_1 (G : Seal) (a0 : AV) (a1 : AV) (K : KAV) (s0 : AHeap) : Prop :=
LOAD .one a1 s0 fun v1 s2 =>
CALL PP G v1 [a0] s2 fun v3 s4 =>
UN PP .not v3 s4 fun v5 s6 =>
K v5 s6
theorem F.impl_areAll_byte_1_eq (G : Seal) (a0 : AV) (a1 : AV) (K : KAV) (s0 : AHeap) : F.impl_areAll_byte_1 G a0 a1 K s0 = denF PP G { keep := [0, 1, 3] } Tryz.f86 [a0, a1] K s0 := by kernel_rfl
theorem F.impl_areAll_byte_1_ok {G : Seal} {a0 : AV} {a1 : AV} {Q : KAV} {s0 : AHeap} (h : F.impl_areAll_byte_1 G a0 a1 (Fin Q) s0) : ACalls PP G N.impl_areAll_byte_1 [a0, a1] s0 Q :=
  acalls_of_den (fn := Tryz.f86) (C := { keep := [0, 1, 3] }) mixed (by kernel_rfl) (by kernel_rfl) (by kernel_rfl) (Eq.mp (F.impl_areAll_byte_1_eq G a0 a1 _ _) h)

def F.impl_isDigit (G : Seal) (a0 : AV) (K : KAV) (s0 : AHeap) : Prop :=
BIN PP .geq 5 a0 (.sc (.int .u8 48)) s0 fun v1 s2 =>
JOIN (fun k3 => IFG true v1 (BIN PP .leq 5 a0 (.sc (.int .u8 57)) s2 fun v6 s7 =>
k3 [a0, v6] s7) (k3 [U, U] s2)) fun xs4 s5 =>
PICK v1 (nth xs4 1) (Bo false) s5 fun v8 s9 =>
K v8 s9
theorem F.impl_isDigit_eq (G : Seal) (a0 : AV) (K : KAV) (s0 : AHeap) : F.impl_isDigit G a0 K s0 = denF PP G { keep := [0, 2] } Tryz.f87 [a0] K s0 := by kernel_rfl
theorem F.impl_isDigit_ok {G : Seal} {a0 : AV} {Q : KAV} {s0 : AHeap} (h : F.impl_isDigit G a0 (Fin Q) s0) : ACalls PP G N.impl_isDigit [a0] s0 Q :=
  acalls_of_den (fn := Tryz.f87) (C := { keep := [0, 2] }) mixed (by kernel_rfl) (by kernel_rfl) (by kernel_rfl) (Eq.mp (F.impl_isDigit_eq G a0 _ _) h)

def F.slices_Index_string_string (G : Seal) (a0 : AV) (a1 : AV) (K : KAV) (s0 : AHeap) : Prop :=
JOIN (fun k1 =>
LENL a0 s0 fun v4 s5 =>
LOOP (fun rec6 xs7 s8 =>
BIN PP .lss 3 (nth xs7 2) v4 s8 fun v9 s10 =>
JOIN (fun k11 =>
IFB v9 (k11 [] s10) (k1 [nth xs7 0, nth xs7 1, v4, nth xs7 2, v9, nth xs7 4] s10)) fun xs12 s13 =>
JOIN (fun k14 =>
IA (.slice 1) a0 (nth xs7 2) s13 fun v17 s18 =>
LOAD .one v17 s18 fun v19 s20 =>
BIN PP .eql 9 a1 v19 s20 fun v21 s22 =>
IFB v21 (K (nth xs7 2) s22) (k14 [nth xs7 0, nth xs7 2, v21] s22)) fun xs15 s16 =>
BIN PP .add 3 (nth xs7 2) (I 1) s16 fun v23 s24 =>
rec6 [nth xs15 0, nth xs15 1, v23, v9, nth xs15 2] s24) [I 0, .un, I 0, .un, .un] s5) fun xs2 s3 =>
K (I (-1)) s3
theorem F.slices_Index_string_string_eq (G : Seal) (a0 : AV) (a1 : AV) (K : KAV) (s0 : AHeap) : F.slices_Index_string_string G a0 a1 K s0 = denF PP G { keep := [0, 1, 4, 5, 7, 8, 9, 16] } Tryz.f88 [a0, a1] K s0 := by kernel_rfl
theorem F.slices_Index_string_string_ok {G : Seal} {a0 : AV} {a1 : AV} {Q : KAV} {s0 : AHeap} (h : F.slices_Index_string_string G a0 a1 (Fin Q) s0) : ACalls PP G N.slices_Index_string_string [a0, a1] s0 Q :=
  acalls_of_den (fn := Tryz.f88) (C := { keep := [0, 1, 4, 5, 7, 8, 9, 16] }) mixed (by kernel_rfl) (by kernel_rfl) (by kernel_rfl) (Eq.mp (F.slices_Index_string_string_eq G a0 a1 _ _) h)

def F.impl_works (G : Seal) (K : KAV) (s0 : AHeap) : Prop :=
ACalls PP G N.strings_Fields [St (bs [43, 32, 45, 32, 42, 32, 68, 73, 86, 32, 77, 79, 68, 32, 61, 32, 35, 32, 60, 32, 60, 61, 32, 62, 32, 62, 61])] s0 fun v1 s2 =>
K v1 s2
theorem F.impl_works_eq (G : Seal) (K : KAV) (s0 : AHeap) : F.impl_works G K s0 = denF PP G { keep := [0] } Tryz.f90 [] K s0 := by kernel_rfl
theorem F.impl_works_ok {G : Seal} {Q : KAV} {s0 : AHeap} (h : F.impl_works G (Fin Q) s0) : ACalls PP G N.impl_works [] s0 Q :=
  acalls_of_den (fn := Tryz.f90) (C := { keep := [0] }) mixed (by kernel_rfl) (by kernel_rfl) (by kernel_rfl) (Eq.mp (F.impl_works_eq G _ _) h)

def F.impl_isType (G : Seal) (a0 : AV) (K : KAV) (s0 : AHeap) : Prop :=
ACalls PP G N.impl_within [a0, I 1, I 3] s0 fun v1 s2 =>
K v1 s2
theorem F.impl_isType_eq (G : Seal) (a0 : AV) (K : KAV) (s0 : AHeap) : F.impl_isType G a0 K s0 = denF PP G { keep := [0, 2] } Tryz.f91 [a0] K s0 := by kernel_rfl
theorem F.impl_isType_ok {G : Seal} {a0 : AV} {Q : KAV} {s0 : AHeap} (h : F.impl_isType G a0 (Fin Q) s0) : ACalls PP G N.impl_isType [a0] s0 Q :=
  acalls_of_den (fn := Tryz.f91) (C := { keep := [0, 2] }) mixed (by kernel_rfl) (by kernel_rfl) (by kernel_rfl) (Eq.mp (F.impl_isType_eq G a0 _ _) h)

def F.slices_Repeat_int_int (G : Seal) (a0 : AV) (a1 : AV) (K : KAV) (s0 : AHeap) : Prop :=
JOIN (fun k1 =>
BIN PP .lss 3 a1 (I 0) s0 fun v4 s5 =>
IFB v4 (False) (k1 [v4] s5)) fun xs2 s3 =>
LENL a0 s3 fun v6 s7 =>
CONV (.int .u64) v6 s7 fun v8 s9 =>
CONV (.int .u64) a1 s9 fun v10 s11 =>
ACalls PP G N.math_bits_Mul [v8, v10] s11 fun v12 s13 =>
TUP v12 0 s13 fun v14 s15 =>
TUP v12 1 s15 fun v16 s17 =>
JOIN (fun k18 =>
BIN PP .gtr 72 v14 (.sc (.int .u64 0)) s17 fun v21 s22 =>
JOIN (fun k23 => IFG false v21 (BIN PP .gtr 72 v16 (.sc (.int .u64 9223372036854775807)) s22 fun v26 s27 =>
k23 [v16, v26] s27) (k23 [U, U] s22)) fun xs24 s25 =>
PICK v21 (Bo true) (nth xs24 1) s25 fun v28 s29 =>
IFB v28 (False) (k18 [v28] s29)) fun xs19 s20 =>
CONV (.int .i64) v16 s20 fun v30 s31 =>
MAKE 1 [I 0] 8 v30 v30 s31 fun v32 s33 =>
COPY 1 v32 a0 s33 fun v34 s35 =>
JOIN (fun k36 =>
LOOP (fun rec39 xs40 s41 =>
JOIN (fun k42 =>
LENL v32 s41 fun v45 s46 =>
BIN PP .lss 3 (nth xs40 0) v45 s46 fun v47 s48 =>
IFB v47 (k42 [v47] s48) (k36 [nth xs40 0, v47] s48)) fun xs43 s44 =>
CUTL 1 v32 (some (nth xs40 0)) none s44 fun v49 s50 =>
CUTL 1 v32 none (some (nth xs40 0)) s50 fun v51 s52 =>
COPY 1 v49 v51 s52 fun v53 s54 =>
BIN PP .add 3 (nth xs40 0) v53 s54 fun v55 s56 =>
rec39 [v55, nth xs43 0] s56) [v34, .un] s35) fun xs37 s38 =>
K v32 s38
theorem F.slices_Repeat_int_int_eq (G : Seal) (a0 : AV) (a1 : AV) (K : KAV) (s0 : AHeap) : F.slices_Repeat_int_int G a0 a1 K s0 = denF PP G { keep := [0, 1, 4, 5, 6, 7, 8, 10, 26, 37] } Tryz.f92 [a0, a1] K s0 := by kernel_rfl
theorem F.slices_Repeat_int_int_ok {G : Seal} {a0 : AV} {a1 : AV} {Q : KAV} {s0 : AHeap} (h : F.slices_Repeat_int_int G a0 a1 (Fin Q) s0) : ACalls PP G N.slices_Repeat_int_int [a0, a1] s0 Q :=
  acalls_of_den (fn := Tryz.f92) (C := { keep := [0, 1, 4, 5, 6, 7, 8, 10, 26, 37] }) mixed (by kernel_rfl) (by kernel_rfl) (by kernel_rfl) (Eq.mp (F.slices_Repeat_int_int_eq G a0 a1 _ _) h)

def F.impl_Code_reach (G : Seal) (a0 : AV) (a1 : AV) (a2 : AV) (K : KAV) (s0 : AHeap) : Prop :=
BOX 5 a0 s0 fun c_1 s2 =>
FA 4 c_1 s2 fun v3 s4 =>
LOAD .one v3 s4 fun v5 s6 =>
IA (.slice 5) v5 a2 s6 fun v7 s8 =>
LOAD (.agg 5) v7 s8 fun v9 s10 =>
NEW [I 0, I 0, I 0, St (bs []), St (bs [])] s10 fun x_11 s12 =>
STORE 5 x_11 v9 s12 fun u13 s14 =>
LOAD (.agg 5) x_11 s14 fun v15 s16 =>
ACalls PP G N.impl_Ins_stacks [v15] s16 fun v17 s18 =>
TUP v17 0 s18 fun v19 s20 =>
TUP v17 1 s20 fun v21 s22 =>
IA (.slice 1) a1 a2 s22 fun v23 s24 =>
LOAD .one v23 s24 fun v25 s26 =>
BIN PP .sub 3 v25 v19 s26 fun v27 s28 =>
JOIN (fun k29 =>
BIN PP .lss 3 v27 (I 0) s28 fun v32 s33 =>
IFB v32 (K (.tu [Bo false, I 11]) s33) (k29 [Bo false, I 0, v32] s33)) fun xs30 s31 =>
BIN PP .add 3 v27 v21 s31 fun v34 s35 =>
JOIN (fun k36 =>
BIN PP .gtr 3 v34 (I 60) s35 fun v39 s40 =>
IFB v39 (K (.tu [Bo false, I 14]) s40) (FA 0 x_11 s40 fun v41 s42 =>
LOAD .one v41 s42 fun v43 s44 =>
BIN PP .eql 3 v43 (I 14) s44 fun v45 s46 =>
JOIN (fun k47 => IFG true v45 (BIN PP .gtr 3 v34 (I 0) s46 fun v50 s51 =>
k47 [v34, v50] s51) (k47 [U, U] s46)) fun xs48 s49 =>
PICK v45 (nth xs48 1) (Bo false) s49 fun v52 s53 =>
IFB v52 (K (.tu [Bo false, I 8]) s53) (k36 [nth xs30 0, nth xs30 1, v39, v52] s53))) fun xs37 s38 =>
JOIN (fun k54 =>
LOAD (.agg 5) x_11 s38 fun v57 s58 =>
ACalls PP G N.impl_Ins_follows [v57, a2] s58 fun v59 s60 =>
LENL v59 s60 fun v61 s62 =>
LOOP (fun rec63 xs64 s65 =>
BIN PP .lss 3 (nth xs64 4) v61 s65 fun v66 s67 =>
JOIN (fun k68 =>
IFB v66 (k68 [] s67) (k54 [nth xs64 0, nth xs64 1, nth xs64 2, nth xs64 3, v59, v61, nth xs64 4, v66, nth xs64 6, nth xs64 7, nth xs64 8] s67)) fun xs69 s70 =>
JOIN (fun k71 =>
IA (.slice 1) v59 (nth xs64 4) s70 fun v74 s75 =>
LOAD .one v74 s75 fun v76 s77 =>
FA 4 c_1 s77 fun v78 s79 =>
LOAD .one v78 s79 fun v80 s81 =>
LENL v80 s81 fun v82 s83 =>
BIN PP .eql 3 v76 v82 s83 fun v84 s85 =>
IFB v84 (K (.tu [Bo false, I 10]) s85) (IA (.slice 1) a1 v76 s85 fun v86 s87 =>
LOAD .one v86 s87 fun v88 s89 =>
BIN PP .eql 3 v88 (I (-1)) s89 fun v90 s91 =>
IFB v90 (IA (.slice 1) a1 v76 s91 fun v92 s93 =>
STORE 1 v92 v34 s93 fun u94 s95 =>
k71 [nth xs64 0, nth xs64 1, Bo true, v76, v84, v90, nth xs64 8] s95) (IA (.slice 1) a1 v76 s91 fun v96 s97 =>
LOAD .one v96 s97 fun v98 s99 =>
BIN PP .neq 3 v98 v34 s99 fun v100 s101 =>
IFB v100 (K (.tu [Bo false, I 8]) s101) (k71 [nth xs64 0, nth xs64 1, nth xs64 2, v76, v84, v90, v100] s101)))) fun xs72 s73 =>
BIN PP .add 3 (nth xs64 4) (I 1) s73 fun v102 s103 =>
rec63 [nth xs72 0, nth xs72 1, nth xs72 2, nth xs72 3, v102, v66, nth xs72 4, nth xs72 5, nth xs72 6] s103) [nth xs37 0, nth xs37 1, Bo false, .un, I 0, .un, .un, .un, .un] s62) fun xs55 s56 =>
K (.tu [nth xs55 2, I 0]) s56
theorem F.impl_Code_reach_eq (G : Seal) (a0 : AV) (a1 : AV) (a2 : AV) (K : KAV) (s0 : AHeap) : F.impl_Code_reach G a0 a1 a2 K s0 = denF PP G { keep := [0, 1, 2, 3, 6, 7, 8, 9, 10, 11, 12, 14, 32, 36, 39, 49, 50, 51, 52, 55, 61, 71] } Tryz.f93 [a0, a1, a2] K s0 := by kernel_rfl
theorem F.impl_Code_reach_ok {G : Seal} {a0 : AV} {a1 : AV} {a2 : AV} {Q : KAV} {s0 : AHeap} (h : F.impl_Code_reach G a0 a1 a2 (Fin Q) s0) : ACalls PP G N.impl_Code_reach [a0, a1, a2] s0 Q :=
  acalls_of_den (fn := Tryz.f93) (C := { keep := [0, 1, 2, 3, 6, 7, 8, 9, 10, 11, 12, 14, 32, 36, 39, 49, 50, 51, 52, 55, 61, 71] }) mixed (by kernel_rfl) (by kernel_rfl) (by kernel_rfl) (Eq.mp (F.impl_Code_reach_eq G a0 a1 a2 _ _) h)

def F.math_bits_Len (G : Seal) (a0 : AV) (K : KAV) (s0 : AHeap) : Prop :=
JOIN (fun k1 =>
IFB (Bo false) (CONV (.int .u32) a0 s0 fun v4 s5 =>
ACalls PP G N.math_bits_Len32 [v4] s5 fun v6 s7 =>
K v6 s7) (k1 [I 0] s0)) fun xs2 s3 =>
ACalls PP G N.math_bits_Len64 [a0] s3 fun v8 s9 =>
K v8 s9
theorem F.math_bits_Len_eq (G : Seal) (a0 : AV) (K : KAV) (s0 : AHeap) : F.math_bits_Len G a0 K s0 = denF PP G { keep := [0, 2] } Tryz.f96 [a0] K s0 := by kernel_rfl
theorem F.math_bits_Len_ok {G : Seal} {a0 : AV} {Q : KAV} {s0 : AHeap} (h : F.math_bits_Len G a0 (Fin Q) s0) : ACalls PP G N.math_bits_Len [a0] s0 Q :=
  acalls_of_den (fn := Tryz.f96) (C := { keep := [0, 2] }) mixed (by kernel_rfl) (by kernel_rfl) (by kernel_rfl) (Eq.mp (F.math_bits_Len_eq G a0 _ _) h)

def F.slices_IndexFunc_byte_byte (G : Seal) (a0 : AV) (a1 : AV) (K : KAV) (s0 : AHeap) : Prop :=
JOIN (fun k1 =>
LENL a0 s0 fun v4 s5 =>
LOOP (fun rec6 xs7 s8 =>
BIN PP .lss 3 (nth xs7 2) v4 s8 fun v9 s10 =>
JOIN (fun k11 =>
IFB v9 (k11 [] s10) (k1 [nth xs7 0, nth xs7 1, v4, nth xs7 2, v9, nth xs7 4] s10)) fun xs12 s13 =>
JOIN (fun k14 =>
IA (.slice 1) a0 (nth xs7 2) s13 fun v17 s18 =>
LOAD .one v17 s18 fun v19 s20 =>
CALL PP G a1 [v19] s20 fun v21 s22 =>
IFB v21 (K (nth xs7 2) s22) (k14 [nth xs7 0, nth xs7 2, v21] s22)) fun xs15 s16 =>
BIN PP .add 3 (nth xs7 2) (I 1) s16 fun v23 s24 =>
rec6 [nth xs15 0, nth xs15 1, v23, v9, nth xs15 2] s24) [I 0, .un, I 0, .un, .un] s5) fun xs2 s3 =>
K (I (-1)) s3
theorem F.slices_IndexFunc_byte_byte_eq (G : Seal) (a0 : AV) (a1 : AV) (K : KAV) (s0 : AHeap) : F.slices_IndexFunc_byte_byte G a0 a1 K s0 = denF PP G { keep := [0, 1, 4, 5, 7, 8, 9, 16] } Tryz.f97 [a0, a1] K s0 := by kernel_rfl
theorem F.slices_IndexFunc_byte_byte_ok {G : Seal} {a0 : AV} {a1 : AV} {Q : KAV} {s0 : AHeap} (h : F.slices_IndexFunc_byte_byte G a0 a1 (Fin Q) s0) : ACalls PP G N.slices_IndexFunc_byte_byte [a0, a1] s0 Q :=
  acalls_of_den (fn := Tryz.f97) (C := { keep := [0, 1, 4, 5, 7, 8, 9, 16] }) mixed (by kernel_rfl) (by kernel_rfl) (by kernel_rfl) (Eq.mp (F.slices_IndexFunc_byte_byte_eq G a0 a1 _ _) h)

def F.math_bits_Mul (G : Seal) (a0 : AV) (a1 : AV) (K : KAV) (s0 : AHeap) : Prop :=
JOIN (fun k1 =>
IFB (Bo false) (CONV (.int .u32) a0 s0 fun v4 s5 =>
CONV (.int .u32) a1 s5 fun v6 s7 =>
ACalls PP G N.math_bits_Mul32 [v4, v6] s7 fun v8 s9 =>
TUP v8 0 s9 fun v10 s11 =>
TUP v8 1 s11 fun v12 s13 =>
CONV (.int .u64) v10 s13 fun v14 s15 =>
CONV (.int .u64) v12 s15 fun v16 s17 =>
K (.tu [v14, v16]) s17) (k1 [.sc (.int .u64 0), .sc (.int .u64 0), .un, .un] s0)) fun xs2 s3 =>
ACalls PP G N.math_bits_Mul64 [a0, a1] s3 fun v18 s19 =>
TUP v18 0 s19 fun v20 s21 =>
TUP v18 1 s21 fun v22 s23 =>
K (.tu [v20, v22]) s23
theorem F.math_bits_Mul_eq (G : Seal) (a0 : AV) (a1 : AV) (K : KAV) (s0 : AHeap) : F.math_bits_Mul G a0 a1 K s0 = denF PP G { keep := [0, 1, 4, 5, 6, 7, 8, 9] } Tryz.f100 [a0, a1] K s0 := by kernel_rfl
theorem F.math_bits_Mul_ok {G : Seal} {a0 : AV} {a1 : AV} {Q : KAV} {s0 : AHeap} (h : F.math_bits_Mul G a0 a1 (Fin Q) s0) : ACalls PP G N.math_bits_Mul [a0, a1] s0 Q :=
  acalls_of_den (fn := Tryz.f100) (C := { keep := [0, 1, 4, 5, 6, 7, 8, 9] }) mixed (by kernel_rfl) (by kernel_rfl) (by kernel_rfl) (Eq.mp (F.math_bits_Mul_eq G a0 a1 _ _) h)

def F.impl_Ins_stacks (G : Seal) (a0 : AV) (K : KAV) (s0 : AHeap) : Prop :=
BOX 5 a0 s0 fun x_1 s2 =>
JOIN (fun k3 =>
FA 0 x_1 s2 fun v6 s7 =>
LOAD .one v6 s7 fun v8 s9 =>
JOIN (fun k10 =>
BIN PP .eql 3 v8 (I 1) s9 fun v13 s14 =>
IFB v13 (k10 [v13] s14) (BIN PP .eql 3 v8 (I 2) s14 fun v15 s16 =>
IFB v15 (k10 [v15] s16) (BIN PP .eql 3 v8 (I 3) s16 fun v17 s18 =>
k10 [v17] s18))) fun xs11 s12 =>
IFB (nth xs11 0) (K (.tu [I 0, I 1]) s12) (JOIN (fun k19 =>
BIN PP .eql 3 v8 (I 4) s12 fun v22 s23 =>
IFB v22 (k19 [v22] s23) (BIN PP .eql 3 v8 (I 8) s23 fun v24 s25 =>
IFB v24 (k19 [v24] s25) (BIN PP .eql 3 v8 (I 9) s25 fun v26 s27 =>
IFB v26 (k19 [v26] s27) (BIN PP .eql 3 v8 (I 10) s27 fun v28 s29 =>
k19 [v28] s29)))) fun xs20 s21 =>
IFB (nth xs20 0) (K (.tu [I 1, I 1]) s21) (BIN PP .eql 3 v8 (I 5) s21 fun v30 s31 =>
IFB v30 (K (.tu [I 2, I 0]) s31) (JOIN (fun k32 =>
BIN PP .eql 3 v8 (I 6) s31 fun v35 s36 =>
IFB v35 (k32 [v35] s36) (BIN PP .eql 3 v8 (I 7) s36 fun v37 s38 =>
k32 [v37] s38)) fun xs33 s34 =>
IFB (nth xs33 0) (K (.tu [I 2, I 1]) s34) (JOIN (fun k39 =>
BIN PP .eql 3 v8 (I 12) s34 fun v42 s43 =>
IFB v42 (k39 [v42] s43) (BIN PP .eql 3 v8 (I 15) s43 fun v44 s45 =>
IFB v44 (k39 [v44] s45) (BIN PP .eql 3 v8 (I 16) s45 fun v46 s47 =>
k39 [v46] s47))) fun xs40 s41 =>
IFB (nth xs40 0) (K (.tu [I 1, I 0]) s41) (BIN PP .eql 3 v8 (I 13) s41 fun v48 s49 =>
IFB v48 (FA 1 x_1 s49 fun v50 s51 =>
LOAD .one v50 s51 fun v52 s53 =>
FA 2 x_1 s53 fun v54 s55 =>
LOAD .one v54 s55 fun v56 s57 =>
K (.tu [v52, v56]) s57) (BIN PP .eql 3 v8 (I 14) s49 fun v58 s59 =>
IFB v58 (FA 1 x_1 s59 fun v60 s61 =>
LOAD .one v60 s61 fun v62 s63 =>
K (.tu [v62, I 0]) s63) (k3 [I 0, I 0, v8, nth xs11 0, nth xs20 0, v30, nth xs33 0, nth xs40 0, v48, v58] s59)))))))) fun xs4 s5 =>
K (.tu [I 0, I 0]) s5
theorem F.impl_Ins_stacks_eq (G : Seal) (a0 : AV) (K : KAV) (s0 : AHeap) : F.impl_Ins_stacks G a0 K s0 = denF PP G { keep := [0, 1, 2, 3, 5, 6, 10, 15, 17, 20, 24, 30] } Tryz.f101 [a0] K s0 := by kernel_rfl
theorem F.impl_Ins_stacks_ok {G : Seal} {a0 : AV} {Q : KAV} {s0 : AHeap} (h : F.impl_Ins_stacks G a0 (Fin Q) s0) : ACalls PP G N.impl_Ins_stacks [a0] s0 Q :=
  acalls_of_den (fn := Tryz.f101) (C := { keep := [0, 1, 2, 3, 5, 6, 10, 15, 17, 20, 24, 30] }) mixed (by kernel_rfl) (by kernel_rfl) (by kernel_rfl) (Eq.mp (F.impl_Ins_stacks_eq G a0 _ _) h)

def F.impl_Ins_follows (G : Seal) (a0 : AV) (a1 : AV) (K : KAV) (s0 : AHeap) : Prop :=
BOX 5 a0 s0 fun x_1 s2 =>
JOIN (fun k3 =>
FA 0 x_1 s2 fun v6 s7 =>
LOAD .one v6 s7 fun v8 s9 =>
BIN PP .eql 3 v8 (I 11) s9 fun v10 s11 =>
IFB v10 (FA 1 x_1 s11 fun v12 s13 =>
LOAD .one v12 s13 fun v14 s15 =>
LIT false 1 [v14] s15 fun v16 s17 =>
K v16 s17) (BIN PP .eql 3 v8 (I 12) s11 fun v18 s19 =>
IFB v18 (FA 1 x_1 s19 fun v20 s21 =>
LOAD .one v20 s21 fun v22 s23 =>
BIN PP .add 3 a1 (I 1) s23 fun v24 s25 =>
LIT false 1 [v22, v24] s25 fun v26 s27 =>
K v26 s27) (JOIN (fun k28 =>
BIN PP .eql 3 v8 (I 14) s19 fun v31 s32 =>
IFB v31 (k28 [v31] s32) (BIN PP .eql 3 v8 (I 17) s32 fun v33 s34 =>
k28 [v33] s34)) fun xs29 s30 =>
IFB (nth xs29 0) (K .nl s30) (k3 [.nl, v8, v10, v18, nth xs29 0] s30)))) fun xs4 s5 =>
BIN PP .add 3 a1 (I 1) s5 fun v35 s36 =>
LIT false 1 [v35] s36 fun v37 s38 =>
K v37 s38
theorem F.impl_Ins_follows_eq (G : Seal) (a0 : AV) (a1 : AV) (K : KAV) (s0 : AHeap) : F.impl_Ins_follows G a0 a1 K s0 = denF PP G { keep := [0, 1, 2, 4, 6, 7, 12, 19] } Tryz.f102 [a0, a1] K s0 := by kernel_rfl
theorem F.impl_Ins_follows_ok {G : Seal} {a0 : AV} {a1 : AV} {Q : KAV} {s0 : AHeap} (h : F.impl_Ins_follows G a0 a1 (Fin Q) s0) : ACalls PP G N.impl_Ins_follows [a0, a1] s0 Q :=
  acalls_of_den (fn := Tryz.f102) (C := { keep := [0, 1, 2, 4, 6, 7, 12, 19] }) mixed (by kernel_rfl) (by kernel_rfl) (by kernel_rfl) (Eq.mp (F.impl_Ins_follows_eq G a0 a1 _ _) h)

def F.math_bits_Len32 (G : Seal) (a0 : AV) (K : KAV) (s0 : AHeap) : Prop :=
JOIN (fun k1 =>
BIN PP .geq 126 a0 (.sc (.int .u32 65536)) s0 fun v4 s5 =>
IFB v4 (BIN PP .shr 126 a0 (.sc (.int .u64 16)) s5 fun v6 s7 =>
k1 [v6, I 16, v4] s7) (k1 [a0, I 0, v4] s5)) fun xs2 s3 =>
JOIN (fun k8 =>
BIN PP .geq 126 (nth xs2 0) (.sc (.int .u32 256)) s3 fun v11 s12 =>
IFB v11 (BIN PP .shr 126 (nth xs2 0) (.sc (.int .u64 8)) s12 fun v13 s14 =>
BIN PP .add 3 (nth xs2 1) (I 8) s14 fun v15 s16 =>
k8 [v13, v15, v11] s16) (k8 [nth xs2 0, nth xs2 1, v11] s12)) fun xs9 s10 =>
CONV (.int .u8) (nth xs9 0) s10 fun v17 s18 =>
IX (St (bs [0, 1, 2, 2, 3, 3, 3, 3, 4, 4, 4, 4, 4, 4, 4, 4, 5, 5, 5, 5, 5, 5, 5, 5, 5, 5, 5, 5, 5, 5, 5, 5, 6, 6, 6, 6, 6, 6, 6, 6, 6, 6, 6, 6, 6, 6, 6, 6, 6, 6, 6, 6, 6, 6, 6, 6, 6, 6, 6, 6, 6, 6, 6, 6, 7, 7, 7, 7, 7, 7, 7, 7, 7, 7, 7, 7, 7, 7, 7, 7, 7, 7, 7, 7, 7, 7, 7, 7, 7, 7, 7, 7, 7, 7, 7, 7, 7, 7, 7, 7, 7, 7, 7, 7, 7, 7, 7, 7, 7, 7, 7, 7, 7, 7, 7, 7, 7, 7, 7, 7, 7, 7, 7, 7, 7, 7, 7, 7, 8, 8, 8, 8, 8, 8, 8, 8, 8, 8, 8, 8, 8, 8, 8, 8, 8, 8, 8, 8, 8, 8, 8, 8, 8, 8, 8, 8, 8, 8, 8, 8, 8, 8, 8, 8, 8, 8, 8, 8, 8, 8, 8, 8, 8, 8, 8, 8, 8, 8, 8, 8, 8, 8, 8, 8, 8, 8, 8, 8, 8, 8, 8, 8, 8, 8, 8, 8, 8, 8, 8, 8, 8, 8, 8, 8, 8, 8, 8, 8, 8, 8, 8, 8, 8, 8, 8, 8, 8, 8, 8, 8, 8, 8, 8, 8, 8, 8, 8, 8, 8, 8, 8, 8, 8, 8, 8, 8, 8, 8, 8, 8, 8, 8, 8, 8, 8, 8, 8, 8, 8, 8, 8, 8, 8, 8, 8, 8])) v17 s18 fun v19 s20 =>
CONV (.int .i64) v19 s20 fun v21 s22 =>
BIN PP .add 3 (nth xs9 1) v21 s22 fun v23 s24 =>
K v23 s24
theorem F.math_bits_Len32_eq (G : Seal) (a0 : AV) (K : KAV) (s0 : AHeap) : F.math_bits_Len32 G a0 K s0 = denF PP G { keep := [0, 2, 4, 8] } Tryz.f112 [a0] K s0 := by kernel_rfl
theorem F.math_bits_Len32_ok {G : Seal} {a0 : AV} {Q : KAV} {s0 : AHeap} (h : F.math_bits_Len32 G a0 (Fin Q) s0) : ACalls PP G N.math_bits_Len32 [a0] s0 Q :=
  acalls_of_den (fn := Tryz.f112) (C := { keep := [0, 2, 4, 8] }) mixed (by kernel_rfl) (by kernel_rfl) (by kernel_rfl) (Eq.mp (F.math_bits_Len32_eq G a0 _ _) h)

def F.math_bits_Len64 (G : Seal) (a0 : AV) (K : KAV) (s0 : AHeap) : Prop :=
JOIN (fun k1 =>
BIN PP .geq 128 a0 (.sc (.int .u64 4294967296)) s0 fun v4 s5 =>
IFB v4 (BIN PP .shr 128 a0 (.sc (.int .u64 32)) s5 fun v6 s7 =>
k1 [v6, I 32, v4] s7) (k1 [a0, I 0, v4] s5)) fun xs2 s3 =>
JOIN (fun k8 =>
BIN PP .geq 128 (nth xs2 0) (.sc (.int .u64 65536)) s3 fun v11 s12 =>
IFB v11 (BIN PP .shr 128 (nth xs2 0) (.sc (.int .u64 16)) s12 fun v13 s14 =>
BIN PP .add 3 (nth xs2 1) (I 16) s14 fun v15 s16 =>
k8 [v13, v15, v11] s16) (k8 [nth xs2 0, nth xs2 1, v11] s12)) fun xs9 s10 =>
JOIN (fun k17 =>
BIN PP .geq 128 (nth xs9 0) (.sc (.int .u64 256)) s10 fun v20 s21 =>
IFB v20 (BIN PP .shr 128 (nth xs9 0) (.sc (.int .u64 8)) s21 fun v22 s23 =>
BIN PP .add 3 (nth xs9 1) (I 8) s23 fun v24 s25 =>
k17 [v22, v24, v20] s25) (k17 [nth xs9 0, nth xs9 1, v20] s21)) fun xs18 s19 =>
CONV (.int .u8) (nth xs18 0) s19 fun v26 s27 =>
IX (St (bs [0, 1, 2, 2, 3, 3, 3, 3, 4, 4, 4, 4, 4, 4, 4, 4, 5, 5, 5, 5, 5, 5, 5, 5, 5, 5, 5, 5, 5, 5, 5, 5, 6, 6, 6, 6, 6, 6, 6, 6, 6, 6, 6, 6, 6, 6, 6, 6, 6, 6, 6, 6, 6, 6, 6, 6, 6, 6, 6, 6, 6, 6, 6, 6, 7, 7, 7, 7, 7, 7, 7, 7, 7, 7, 7, 7, 7, 7, 7, 7, 7, 7, 7, 7, 7, 7, 7, 7, 7, 7, 7, 7, 7, 7, 7, 7, 7, 7, 7, 7, 7, 7, 7, 7, 7, 7, 7, 7, 7, 7, 7, 7, 7, 7, 7, 7, 7, 7, 7, 7, 7, 7, 7, 7, 7, 7, 7, 7, 8, 8, 8, 8, 8, 8, 8, 8, 8, 8, 8, 8, 8, 8, 8, 8, 8, 8, 8, 8, 8, 8, 8, 8, 8, 8, 8, 8, 8, 8, 8, 8, 8, 8, 8, 8, 8, 8, 8, 8, 8, 8, 8, 8, 8, 8, 8, 8, 8, 8, 8, 8, 8, 8, 8, 8, 8, 8, 8, 8, 8, 8, 8, 8, 8, 8, 8, 8, 8, 8, 8, 8, 8, 8, 8, 8, 8, 8, 8, 8, 8, 8, 8, 8, 8, 8, 8, 8, 8, 8, 8, 8, 8, 8, 8, 8, 8, 8, 8, 8, 8, 8, 8, 8, 8, 8, 8, 8, 8, 8, 8, 8, 8, 8, 8, 8, 8, 8, 8, 8, 8, 8, 8, 8, 8, 8, 8, 8])) v26 s27 fun v28 s29 =>
CONV (.int .i64) v28 s29 fun v30 s31 =>
BIN PP .add 3 (nth xs18 1) v30 s31 fun v32 s33 =>
K v32 s33
theorem F.math_bits_Len64_eq (G : Seal) (a0 : AV) (K : KAV) (s0 : AHeap) : F.math_bits_Len64 G a0 K s0 = denF PP G { keep := [0, 2, 4, 8, 14] } Tryz.f113 [a0] K s0 := by kernel_rfl
theorem F.math_bits_Len64_ok {G : Seal} {a0 : AV} {Q : KAV} {s0 : AHeap} (h : F.math_bits_Len64 G a0 (Fin Q) s0) : ACalls PP G N.math_bits_Len64 [a0] s0 Q :=
  acalls_of_den (fn := Tryz.f113) (C := { keep := [0, 2, 4, 8, 14] }) mixed (by kernel_rfl) (by kernel_rfl) (by kernel_rfl) (Eq.mp (F.math_bits_Len64_eq G a0 _ _) h)

def F.math_bits_Mul32 (G : Seal) (a0 : AV) (a1 : AV) (K : KAV) (s0 : AHeap) : Prop :=
CONV (.int .u64) a0 s0 fun v1 s2 =>
CONV (.int .u64) a1 s2 fun v3 s4 =>
BIN PP .mul 128 v1 v3 s4 fun v5 s6 =>
BIN PP .shr 128 v5 (.sc (.int .u64 32)) s6 fun v7 s8 =>
CONV (.int .u32) v7 s8 fun v9 s10 =>
CONV (.int .u32) v5 s10 fun v11 s12 =>
K (.tu [v9, v11]) s12
theorem F.math_bits_Mul32_eq (G : Seal) (a0 : AV) (a1 : AV) (K : KAV) (s0 : AHeap) : F.math_bits_Mul32 G a0 a1 K s0 = denF PP G { keep := [0, 1, 4, 5, 6] } Tryz.f115 [a0, a1] K s0 := by kernel_rfl
theorem F.math_bits_Mul32_ok {G : Seal} {a0 : AV} {a1 : AV} {Q : KAV} {s0 : AHeap} (h : F.math_bits_Mul32 G a0 a1 (Fin Q) s0) : ACalls PP G N.math_bits_Mul32 [a0, a1] s0 Q :=
  acalls_of_den (fn := Tryz.f115) (C := { keep := [0, 1, 4, 5, 6] }) mixed (by kernel_rfl) (by kernel_rfl) (by kernel_rfl) (Eq.mp (F.math_bits_Mul32_eq G a0 a1 _ _) h)

def F.math_bits_Mul64 (G : Seal) (a0 : AV) (a1 : AV) (K : KAV) (s0 : AHeap) : Prop :=
BIN PP .and 128 a0 (.sc (.int .u64 4294967295)) s0 fun v1 s2 =>
BIN PP .shr 128 a0 (.sc (.int .u64 32)) s2 fun v3 s4 =>
BIN PP .and 128 a1 (.sc (.int .u64 4294967295)) s4 fun v5 s6 =>
BIN PP .shr 128 a1 (.sc (.int .u64 32)) s6 fun v7 s8 =>
BIN PP .mul 128 v1 v5 s8 fun v9 s10 =>
BIN PP .mul 128 v3 v5 s10 fun v11 s12 =>
BIN PP .shr 128 v9 (.sc (.int .u64 32)) s12 fun v13 s14 =>
BIN PP .add 128 v11 v13 s14 fun v15 s16 =>
BIN PP .and 128 v15 (.sc (.int .u64 4294967295)) s16 fun v17 s18 =>
BIN PP .shr 128 v15 (.sc (.int .u64 32)) s18 fun v19 s20 =>
BIN PP .mul 128 v1 v7 s20 fun v21 s22 =>
BIN PP .add 128 v17 v21 s22 fun v23 s24 =>
BIN PP .mul 128 v3 v7 s24 fun v25 s26 =>
BIN PP .add 128 v25 v19 s26 fun v27 s28 =>
BIN PP .shr 128 v23 (.sc (.int .u64 32)) s28 fun v29 s30 =>
BIN PP .add 128 v27 v29 s30 fun v31 s32 =>
BIN PP .mul 128 a0 a1 s32 fun v33 s34 =>
K (.tu [v31, v33]) s34
theorem F.math_bits_Mul64_eq (G : Seal) (a0 : AV) (a1 : AV) (K : KAV) (s0 : AHeap) : F.math_bits_Mul64 G a0 a1 K s0 = denF PP G { keep := [0, 1, 4, 5, 6, 7, 8, 9, 10, 11, 12, 13] } Tryz.f116 [a0, a1] K s0 := by kernel_rfl
theorem F.math_bits_Mul64_ok {G : Seal} {a0 : AV} {a1 : AV} {Q : KAV} {s0 : AHeap} (h : F.math_bits_Mul64 G a0 a1 (Fin Q) s0) : ACalls PP G N.math_bits_Mul64 [a0, a1] s0 Q :=
  acalls_of_den (fn := Tryz.f116) (C := { keep := [0, 1, 4, 5, 6, 7, 8, 9, 10, 11, 12, 13] }) mixed (by kernel_rfl) (by kernel_rfl) (by kernel_rfl) (Eq.mp (F.math_bits_Mul64_eq G a0 a1 _ _) h)

end Go.Al
