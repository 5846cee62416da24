/- Printed by wip/types.py: what the evaluator asks of each type. -/
import Derived.Test.YtopfodhjlhpdmaaGreatDoorAE1
namespace Go.Proofs.YtopfodhjlhpdmaaGreatDoor
namespace AE
open Go
theorem szOf_1 : szOf Tryz.prog 1 = 1 := by kernel_rfl
theorem aggT_1 : aggT Tryz.prog 1 = some false := by kernel_rfl
theorem elemT_1 : elemT Tryz.prog 1 = none := by kernel_rfl
theorem bytesOf_1 : bytesOf Tryz.prog 1 = some 8 := by kernel_rfl
theorem zeroOf_1 : zeroOf Tryz.prog 1 = some [A.nilf] := by kernel_rfl
theorem arrT_1 : arrT Tryz.prog 1 = none := by kernel_rfl
theorem isStr_1 : isStr Tryz.prog 1 = false := by kernel_rfl
theorem isBool_1 : isBool Tryz.prog 1 = false := by kernel_rfl
theorem isPtr_1 : isPtr Tryz.prog 1 = false := by kernel_rfl
theorem isU8_1 : isU8 Tryz.prog 1 = false := by kernel_rfl
theorem isIfc_1 : isIfc Tryz.prog 1 = false := by kernel_rfl
theorem ifcT_1 : ifcT Tryz.prog 1 = false := by kernel_rfl
theorem seqT_1 : seqT Tryz.prog 1 = false := by kernel_rfl
theorem sliceable_1 : sliceable Tryz.prog 1 = false := by kernel_rfl
theorem szOf_2 : szOf Tryz.prog 2 = 1 := by kernel_rfl
theorem aggT_2 : aggT Tryz.prog 2 = some false := by kernel_rfl
theorem elemT_2 : elemT Tryz.prog 2 = none := by kernel_rfl
theorem bytesOf_2 : bytesOf Tryz.prog 2 = some 8 := by kernel_rfl
theorem zeroOf_2 : zeroOf Tryz.prog 2 = some [A.int .i64 0] := by kernel_rfl
theorem arrT_2 : arrT Tryz.prog 2 = none := by kernel_rfl
theorem isStr_2 : isStr Tryz.prog 2 = false := by kernel_rfl
theorem isBool_2 : isBool Tryz.prog 2 = false := by kernel_rfl
theorem isPtr_2 : isPtr Tryz.prog 2 = false := by kernel_rfl
theorem isU8_2 : isU8 Tryz.prog 2 = false := by kernel_rfl
theorem isIfc_2 : isIfc Tryz.prog 2 = false := by kernel_rfl
theorem ifcT_2 : ifcT Tryz.prog 2 = false := by kernel_rfl
theorem seqT_2 : seqT Tryz.prog 2 = false := by kernel_rfl
theorem sliceable_2 : sliceable Tryz.prog 2 = false := by kernel_rfl
theorem szOf_3 : szOf Tryz.prog 3 = 1 := by kernel_rfl
theorem aggT_3 : aggT Tryz.prog 3 = some false := by kernel_rfl
theorem elemT_3 : elemT Tryz.prog 3 = none := by kernel_rfl
theorem bytesOf_3 : bytesOf Tryz.prog 3 = some 8 := by kernel_rfl
theorem zeroOf_3 : zeroOf Tryz.prog 3 = some [A.int .i64 0] := by kernel_rfl
theorem arrT_3 : arrT Tryz.prog 3 = none := by kernel_rfl
theorem isStr_3 : isStr Tryz.prog 3 = false := by kernel_rfl
theorem isBool_3 : isBool Tryz.prog 3 = false := by kernel_rfl
theorem isPtr_3 : isPtr Tryz.prog 3 = false := by kernel_rfl
theorem isU8_3 : isU8 Tryz.prog 3 = false := by kernel_rfl
theorem isIfc_3 : isIfc Tryz.prog 3 = false := by kernel_rfl
theorem ifcT_3 : ifcT Tryz.prog 3 = false := by kernel_rfl
theorem seqT_3 : seqT Tryz.prog 3 = false := by kernel_rfl
theorem sliceable_3 : sliceable Tryz.prog 3 = false := by kernel_rfl
theorem szOf_4 : szOf Tryz.prog 4 = 1 := by kernel_rfl
theorem aggT_4 : aggT Tryz.prog 4 = some false := by kernel_rfl
theorem elemT_4 : elemT Tryz.prog 4 = none := by kernel_rfl
theorem bytesOf_4 : bytesOf Tryz.prog 4 = some 1 := by kernel_rfl
theorem zeroOf_4 : zeroOf Tryz.prog 4 = some [A.bool false] := by kernel_rfl
theorem arrT_4 : arrT Tryz.prog 4 = none := by kernel_rfl
theorem isStr_4 : isStr Tryz.prog 4 = false := by kernel_rfl
theorem isBool_4 : isBool Tryz.prog 4 = true := by kernel_rfl
theorem isPtr_4 : isPtr Tryz.prog 4 = false := by kernel_rfl
theorem isU8_4 : isU8 Tryz.prog 4 = false := by kernel_rfl
theorem isIfc_4 : isIfc Tryz.prog 4 = false := by kernel_rfl
theorem ifcT_4 : ifcT Tryz.prog 4 = false := by kernel_rfl
theorem seqT_4 : seqT Tryz.prog 4 = false := by kernel_rfl
theorem sliceable_4 : sliceable Tryz.prog 4 = false := by kernel_rfl
theorem szOf_5 : szOf Tryz.prog 5 = 1 := by kernel_rfl
theorem aggT_5 : aggT Tryz.prog 5 = some false := by kernel_rfl
theorem elemT_5 : elemT Tryz.prog 5 = none := by kernel_rfl
theorem bytesOf_5 : bytesOf Tryz.prog 5 = some 1 := by kernel_rfl
theorem zeroOf_5 : zeroOf Tryz.prog 5 = some [A.int .u8 0] := by kernel_rfl
theorem arrT_5 : arrT Tryz.prog 5 = none := by kernel_rfl
theorem isStr_5 : isStr Tryz.prog 5 = false := by kernel_rfl
theorem isBool_5 : isBool Tryz.prog 5 = false := by kernel_rfl
theorem isPtr_5 : isPtr Tryz.prog 5 = false := by kernel_rfl
theorem isU8_5 : isU8 Tryz.prog 5 = true := by kernel_rfl
theorem isIfc_5 : isIfc Tryz.prog 5 = false := by kernel_rfl
theorem ifcT_5 : ifcT Tryz.prog 5 = false := by kernel_rfl
theorem seqT_5 : seqT Tryz.prog 5 = false := by kernel_rfl
theorem sliceable_5 : sliceable Tryz.prog 5 = false := by kernel_rfl
theorem szOf_9 : szOf Tryz.prog 9 = 1 := by kernel_rfl
theorem aggT_9 : aggT Tryz.prog 9 = some false := by kernel_rfl
theorem elemT_9 : elemT Tryz.prog 9 = none := by kernel_rfl
theorem bytesOf_9 : bytesOf Tryz.prog 9 = some 16 := by kernel_rfl
theorem zeroOf_9 : zeroOf Tryz.prog 9 = some [A.str []] := by kernel_rfl
theorem arrT_9 : arrT Tryz.prog 9 = none := by kernel_rfl
theorem isStr_9 : isStr Tryz.prog 9 = true := by kernel_rfl
theorem isBool_9 : isBool Tryz.prog 9 = false := by kernel_rfl
theorem isPtr_9 : isPtr Tryz.prog 9 = false := by kernel_rfl
theorem isU8_9 : isU8 Tryz.prog 9 = false := by kernel_rfl
theorem isIfc_9 : isIfc Tryz.prog 9 = false := by kernel_rfl
theorem ifcT_9 : ifcT Tryz.prog 9 = false := by kernel_rfl
theorem seqT_9 : seqT Tryz.prog 9 = true := by kernel_rfl
theorem sliceable_9 : sliceable Tryz.prog 9 = true := by kernel_rfl
theorem szOf_10 : szOf Tryz.prog 10 = 1 := by kernel_rfl
theorem aggT_10 : aggT Tryz.prog 10 = some false := by kernel_rfl
theorem elemT_10 : elemT Tryz.prog 10 = none := by kernel_rfl
theorem bytesOf_10 : bytesOf Tryz.prog 10 = some 16 := by kernel_rfl
theorem zeroOf_10 : zeroOf Tryz.prog 10 = some [A.str []] := by kernel_rfl
theorem arrT_10 : arrT Tryz.prog 10 = none := by kernel_rfl
theorem isStr_10 : isStr Tryz.prog 10 = true := by kernel_rfl
theorem isBool_10 : isBool Tryz.prog 10 = false := by kernel_rfl
theorem isPtr_10 : isPtr Tryz.prog 10 = false := by kernel_rfl
theorem isU8_10 : isU8 Tryz.prog 10 = false := by kernel_rfl
theorem isIfc_10 : isIfc Tryz.prog 10 = false := by kernel_rfl
theorem ifcT_10 : ifcT Tryz.prog 10 = false := by kernel_rfl
theorem seqT_10 : seqT Tryz.prog 10 = true := by kernel_rfl
theorem sliceable_10 : sliceable Tryz.prog 10 = true := by kernel_rfl
theorem szOf_12 : szOf Tryz.prog 12 = 1 := by kernel_rfl
theorem aggT_12 : aggT Tryz.prog 12 = some false := by kernel_rfl
theorem elemT_12 : elemT Tryz.prog 12 = none := by kernel_rfl
theorem bytesOf_12 : bytesOf Tryz.prog 12 = some 8 := by kernel_rfl
theorem zeroOf_12 : zeroOf Tryz.prog 12 = some [A.int .u64 0] := by kernel_rfl
theorem arrT_12 : arrT Tryz.prog 12 = none := by kernel_rfl
theorem isStr_12 : isStr Tryz.prog 12 = false := by kernel_rfl
theorem isBool_12 : isBool Tryz.prog 12 = false := by kernel_rfl
theorem isPtr_12 : isPtr Tryz.prog 12 = false := by kernel_rfl
theorem isU8_12 : isU8 Tryz.prog 12 = false := by kernel_rfl
theorem isIfc_12 : isIfc Tryz.prog 12 = false := by kernel_rfl
theorem ifcT_12 : ifcT Tryz.prog 12 = false := by kernel_rfl
theorem seqT_12 : seqT Tryz.prog 12 = false := by kernel_rfl
theorem sliceable_12 : sliceable Tryz.prog 12 = false := by kernel_rfl
theorem szOf_14 : szOf Tryz.prog 14 = 2 := by kernel_rfl
theorem aggT_14 : aggT Tryz.prog 14 = some true := by kernel_rfl
theorem elemT_14 : elemT Tryz.prog 14 = none := by kernel_rfl
theorem bytesOf_14 : bytesOf Tryz.prog 14 = some 24 := by kernel_rfl
theorem zeroOf_14 : zeroOf Tryz.prog 14 = some [A.str [], A.int .u64 0] := by kernel_rfl
theorem arrT_14 : arrT Tryz.prog 14 = none := by kernel_rfl
theorem fieldT_14_0 : fieldT Tryz.prog 14 0 = some (0, 9) := by kernel_rfl
theorem fieldT_14_1 : fieldT Tryz.prog 14 1 = some (1, 12) := by kernel_rfl
theorem isStr_14 : isStr Tryz.prog 14 = false := by kernel_rfl
theorem isBool_14 : isBool Tryz.prog 14 = false := by kernel_rfl
theorem isPtr_14 : isPtr Tryz.prog 14 = false := by kernel_rfl
theorem isU8_14 : isU8 Tryz.prog 14 = false := by kernel_rfl
theorem isIfc_14 : isIfc Tryz.prog 14 = false := by kernel_rfl
theorem ifcT_14 : ifcT Tryz.prog 14 = false := by kernel_rfl
theorem fieldsOk_14 : fieldsOk Tryz.prog 14 = true := by kernel_rfl
theorem seqT_14 : seqT Tryz.prog 14 = false := by kernel_rfl
theorem sliceable_14 : sliceable Tryz.prog 14 = false := by kernel_rfl
theorem szOf_20 : szOf Tryz.prog 20 = 1 := by kernel_rfl
theorem aggT_20 : aggT Tryz.prog 20 = some false := by kernel_rfl
theorem elemT_20 : elemT Tryz.prog 20 = none := by kernel_rfl
theorem bytesOf_20 : bytesOf Tryz.prog 20 = some 16 := by kernel_rfl
theorem zeroOf_20 : zeroOf Tryz.prog 20 = some [A.nili] := by kernel_rfl
theorem arrT_20 : arrT Tryz.prog 20 = none := by kernel_rfl
theorem isStr_20 : isStr Tryz.prog 20 = false := by kernel_rfl
theorem isBool_20 : isBool Tryz.prog 20 = false := by kernel_rfl
theorem isPtr_20 : isPtr Tryz.prog 20 = false := by kernel_rfl
theorem isU8_20 : isU8 Tryz.prog 20 = false := by kernel_rfl
theorem isIfc_20 : isIfc Tryz.prog 20 = true := by kernel_rfl
theorem ifcT_20 : ifcT Tryz.prog 20 = true := by kernel_rfl
theorem seqT_20 : seqT Tryz.prog 20 = false := by kernel_rfl
theorem sliceable_20 : sliceable Tryz.prog 20 = false := by kernel_rfl
theorem szOf_21 : szOf Tryz.prog 21 = 1 := by kernel_rfl
theorem aggT_21 : aggT Tryz.prog 21 = some false := by kernel_rfl
theorem elemT_21 : elemT Tryz.prog 21 = none := by kernel_rfl
theorem bytesOf_21 : bytesOf Tryz.prog 21 = some 4 := by kernel_rfl
theorem zeroOf_21 : zeroOf Tryz.prog 21 = some [A.int .i32 0] := by kernel_rfl
theorem arrT_21 : arrT Tryz.prog 21 = none := by kernel_rfl
theorem isStr_21 : isStr Tryz.prog 21 = false := by kernel_rfl
theorem isBool_21 : isBool Tryz.prog 21 = false := by kernel_rfl
theorem isPtr_21 : isPtr Tryz.prog 21 = false := by kernel_rfl
theorem isU8_21 : isU8 Tryz.prog 21 = false := by kernel_rfl
theorem isIfc_21 : isIfc Tryz.prog 21 = false := by kernel_rfl
theorem ifcT_21 : ifcT Tryz.prog 21 = false := by kernel_rfl
theorem seqT_21 : seqT Tryz.prog 21 = false := by kernel_rfl
theorem sliceable_21 : sliceable Tryz.prog 21 = false := by kernel_rfl
theorem szOf_22 : szOf Tryz.prog 22 = 1 := by kernel_rfl
theorem aggT_22 : aggT Tryz.prog 22 = some false := by kernel_rfl
theorem elemT_22 : elemT Tryz.prog 22 = some 24 := by kernel_rfl
theorem bytesOf_22 : bytesOf Tryz.prog 22 = some 24 := by kernel_rfl
theorem zeroOf_22 : zeroOf Tryz.prog 22 = some [A.nils] := by kernel_rfl
theorem arrT_22 : arrT Tryz.prog 22 = none := by kernel_rfl
theorem isStr_22 : isStr Tryz.prog 22 = false := by kernel_rfl
theorem isBool_22 : isBool Tryz.prog 22 = false := by kernel_rfl
theorem isPtr_22 : isPtr Tryz.prog 22 = false := by kernel_rfl
theorem isU8_22 : isU8 Tryz.prog 22 = false := by kernel_rfl
theorem isIfc_22 : isIfc Tryz.prog 22 = false := by kernel_rfl
theorem ifcT_22 : ifcT Tryz.prog 22 = false := by kernel_rfl
theorem seqT_22 : seqT Tryz.prog 22 = true := by kernel_rfl
theorem sliceable_22 : sliceable Tryz.prog 22 = true := by kernel_rfl
theorem szOf_24 : szOf Tryz.prog 24 = 3 := by kernel_rfl
theorem aggT_24 : aggT Tryz.prog 24 = some true := by kernel_rfl
theorem elemT_24 : elemT Tryz.prog 24 = none := by kernel_rfl
theorem bytesOf_24 : bytesOf Tryz.prog 24 = some 40 := by kernel_rfl
theorem zeroOf_24 : zeroOf Tryz.prog 24 = some [A.int .i64 0, A.int .i64 0, A.nils] := by kernel_rfl
theorem arrT_24 : arrT Tryz.prog 24 = none := by kernel_rfl
theorem fieldT_24_0 : fieldT Tryz.prog 24 0 = some (0, 3) := by kernel_rfl
theorem fieldT_24_1 : fieldT Tryz.prog 24 1 = some (1, 3) := by kernel_rfl
theorem fieldT_24_2 : fieldT Tryz.prog 24 2 = some (2, 22) := by kernel_rfl
theorem isStr_24 : isStr Tryz.prog 24 = false := by kernel_rfl
theorem isBool_24 : isBool Tryz.prog 24 = false := by kernel_rfl
theorem isPtr_24 : isPtr Tryz.prog 24 = false := by kernel_rfl
theorem isU8_24 : isU8 Tryz.prog 24 = false := by kernel_rfl
theorem isIfc_24 : isIfc Tryz.prog 24 = false := by kernel_rfl
theorem ifcT_24 : ifcT Tryz.prog 24 = false := by kernel_rfl
theorem fieldsOk_24 : fieldsOk Tryz.prog 24 = true := by kernel_rfl
theorem seqT_24 : seqT Tryz.prog 24 = false := by kernel_rfl
theorem sliceable_24 : sliceable Tryz.prog 24 = false := by kernel_rfl
theorem szOf_25 : szOf Tryz.prog 25 = 1 := by kernel_rfl
theorem aggT_25 : aggT Tryz.prog 25 = some false := by kernel_rfl
theorem elemT_25 : elemT Tryz.prog 25 = some 27 := by kernel_rfl
theorem bytesOf_25 : bytesOf Tryz.prog 25 = some 24 := by kernel_rfl
theorem zeroOf_25 : zeroOf Tryz.prog 25 = some [A.nils] := by kernel_rfl
theorem arrT_25 : arrT Tryz.prog 25 = none := by kernel_rfl
theorem isStr_25 : isStr Tryz.prog 25 = false := by kernel_rfl
theorem isBool_25 : isBool Tryz.prog 25 = false := by kernel_rfl
theorem isPtr_25 : isPtr Tryz.prog 25 = false := by kernel_rfl
theorem isU8_25 : isU8 Tryz.prog 25 = false := by kernel_rfl
theorem isIfc_25 : isIfc Tryz.prog 25 = false := by kernel_rfl
theorem ifcT_25 : ifcT Tryz.prog 25 = false := by kernel_rfl
theorem seqT_25 : seqT Tryz.prog 25 = true := by kernel_rfl
theorem sliceable_25 : sliceable Tryz.prog 25 = true := by kernel_rfl
theorem szOf_27 : szOf Tryz.prog 27 = 4 := by kernel_rfl
theorem aggT_27 : aggT Tryz.prog 27 = some true := by kernel_rfl
theorem elemT_27 : elemT Tryz.prog 27 = none := by kernel_rfl
theorem bytesOf_27 : bytesOf Tryz.prog 27 = some 48 := by kernel_rfl
theorem zeroOf_27 : zeroOf Tryz.prog 27 = some [A.int .i64 0, A.int .i64 0, A.int .i64 0, A.nils] := by kernel_rfl
theorem arrT_27 : arrT Tryz.prog 27 = none := by kernel_rfl
theorem fieldT_27_0 : fieldT Tryz.prog 27 0 = some (0, 3) := by kernel_rfl
theorem fieldT_27_1 : fieldT Tryz.prog 27 1 = some (1, 3) := by kernel_rfl
theorem fieldT_27_2 : fieldT Tryz.prog 27 2 = some (2, 3) := by kernel_rfl
theorem fieldT_27_3 : fieldT Tryz.prog 27 3 = some (3, 25) := by kernel_rfl
theorem isStr_27 : isStr Tryz.prog 27 = false := by kernel_rfl
theorem isBool_27 : isBool Tryz.prog 27 = false := by kernel_rfl
theorem isPtr_27 : isPtr Tryz.prog 27 = false := by kernel_rfl
theorem isU8_27 : isU8 Tryz.prog 27 = false := by kernel_rfl
theorem isIfc_27 : isIfc Tryz.prog 27 = false := by kernel_rfl
theorem ifcT_27 : ifcT Tryz.prog 27 = false := by kernel_rfl
theorem fieldsOk_27 : fieldsOk Tryz.prog 27 = true := by kernel_rfl
theorem seqT_27 : seqT Tryz.prog 27 = false := by kernel_rfl
theorem sliceable_27 : sliceable Tryz.prog 27 = false := by kernel_rfl
theorem szOf_29 : szOf Tryz.prog 29 = 1 := by kernel_rfl
theorem aggT_29 : aggT Tryz.prog 29 = some false := by kernel_rfl
theorem elemT_29 : elemT Tryz.prog 29 = none := by kernel_rfl
theorem bytesOf_29 : bytesOf Tryz.prog 29 = some 8 := by kernel_rfl
theorem zeroOf_29 : zeroOf Tryz.prog 29 = some [A.nilf] := by kernel_rfl
theorem arrT_29 : arrT Tryz.prog 29 = none := by kernel_rfl
theorem isStr_29 : isStr Tryz.prog 29 = false := by kernel_rfl
theorem isBool_29 : isBool Tryz.prog 29 = false := by kernel_rfl
theorem isPtr_29 : isPtr Tryz.prog 29 = false := by kernel_rfl
theorem isU8_29 : isU8 Tryz.prog 29 = false := by kernel_rfl
theorem isIfc_29 : isIfc Tryz.prog 29 = false := by kernel_rfl
theorem ifcT_29 : ifcT Tryz.prog 29 = false := by kernel_rfl
theorem seqT_29 : seqT Tryz.prog 29 = false := by kernel_rfl
theorem sliceable_29 : sliceable Tryz.prog 29 = false := by kernel_rfl
theorem szOf_30 : szOf Tryz.prog 30 = 1 := by kernel_rfl
theorem aggT_30 : aggT Tryz.prog 30 = some false := by kernel_rfl
theorem elemT_30 : elemT Tryz.prog 30 = none := by kernel_rfl
theorem bytesOf_30 : bytesOf Tryz.prog 30 = some 8 := by kernel_rfl
theorem zeroOf_30 : zeroOf Tryz.prog 30 = some [A.nilf] := by kernel_rfl
theorem arrT_30 : arrT Tryz.prog 30 = none := by kernel_rfl
theorem isStr_30 : isStr Tryz.prog 30 = false := by kernel_rfl
theorem isBool_30 : isBool Tryz.prog 30 = false := by kernel_rfl
theorem isPtr_30 : isPtr Tryz.prog 30 = false := by kernel_rfl
theorem isU8_30 : isU8 Tryz.prog 30 = false := by kernel_rfl
theorem isIfc_30 : isIfc Tryz.prog 30 = false := by kernel_rfl
theorem ifcT_30 : ifcT Tryz.prog 30 = false := by kernel_rfl
theorem seqT_30 : seqT Tryz.prog 30 = false := by kernel_rfl
theorem sliceable_30 : sliceable Tryz.prog 30 = false := by kernel_rfl
theorem szOf_31 : szOf Tryz.prog 31 = 1 := by kernel_rfl
theorem aggT_31 : aggT Tryz.prog 31 = some false := by kernel_rfl
theorem elemT_31 : elemT Tryz.prog 31 = some 5 := by kernel_rfl
theorem bytesOf_31 : bytesOf Tryz.prog 31 = some 24 := by kernel_rfl
theorem zeroOf_31 : zeroOf Tryz.prog 31 = some [A.nils] := by kernel_rfl
theorem arrT_31 : arrT Tryz.prog 31 = none := by kernel_rfl
theorem isStr_31 : isStr Tryz.prog 31 = false := by kernel_rfl
theorem isBool_31 : isBool Tryz.prog 31 = false := by kernel_rfl
theorem isPtr_31 : isPtr Tryz.prog 31 = false := by kernel_rfl
theorem isU8_31 : isU8 Tryz.prog 31 = false := by kernel_rfl
theorem isIfc_31 : isIfc Tryz.prog 31 = false := by kernel_rfl
theorem ifcT_31 : ifcT Tryz.prog 31 = false := by kernel_rfl
theorem seqT_31 : seqT Tryz.prog 31 = true := by kernel_rfl
theorem sliceable_31 : sliceable Tryz.prog 31 = true := by kernel_rfl
theorem szOf_32 : szOf Tryz.prog 32 = 1 := by kernel_rfl
theorem aggT_32 : aggT Tryz.prog 32 = some false := by kernel_rfl
theorem elemT_32 : elemT Tryz.prog 32 = none := by kernel_rfl
theorem bytesOf_32 : bytesOf Tryz.prog 32 = some 8 := by kernel_rfl
theorem zeroOf_32 : zeroOf Tryz.prog 32 = some [A.int .i64 0] := by kernel_rfl
theorem arrT_32 : arrT Tryz.prog 32 = none := by kernel_rfl
theorem isStr_32 : isStr Tryz.prog 32 = false := by kernel_rfl
theorem isBool_32 : isBool Tryz.prog 32 = false := by kernel_rfl
theorem isPtr_32 : isPtr Tryz.prog 32 = false := by kernel_rfl
theorem isU8_32 : isU8 Tryz.prog 32 = false := by kernel_rfl
theorem isIfc_32 : isIfc Tryz.prog 32 = false := by kernel_rfl
theorem ifcT_32 : ifcT Tryz.prog 32 = false := by kernel_rfl
theorem seqT_32 : seqT Tryz.prog 32 = false := by kernel_rfl
theorem sliceable_32 : sliceable Tryz.prog 32 = false := by kernel_rfl
theorem szOf_39 : szOf Tryz.prog 39 = 1 := by kernel_rfl
theorem aggT_39 : aggT Tryz.prog 39 = some false := by kernel_rfl
theorem elemT_39 : elemT Tryz.prog 39 = none := by kernel_rfl
theorem bytesOf_39 : bytesOf Tryz.prog 39 = some 8 := by kernel_rfl
theorem zeroOf_39 : zeroOf Tryz.prog 39 = some [A.nilf] := by kernel_rfl
theorem arrT_39 : arrT Tryz.prog 39 = none := by kernel_rfl
theorem isStr_39 : isStr Tryz.prog 39 = false := by kernel_rfl
theorem isBool_39 : isBool Tryz.prog 39 = false := by kernel_rfl
theorem isPtr_39 : isPtr Tryz.prog 39 = false := by kernel_rfl
theorem isU8_39 : isU8 Tryz.prog 39 = false := by kernel_rfl
theorem isIfc_39 : isIfc Tryz.prog 39 = false := by kernel_rfl
theorem ifcT_39 : ifcT Tryz.prog 39 = false := by kernel_rfl
theorem seqT_39 : seqT Tryz.prog 39 = false := by kernel_rfl
theorem sliceable_39 : sliceable Tryz.prog 39 = false := by kernel_rfl
theorem szOf_40 : szOf Tryz.prog 40 = 1 := by kernel_rfl
theorem aggT_40 : aggT Tryz.prog 40 = some false := by kernel_rfl
theorem elemT_40 : elemT Tryz.prog 40 = none := by kernel_rfl
theorem bytesOf_40 : bytesOf Tryz.prog 40 = some 8 := by kernel_rfl
theorem zeroOf_40 : zeroOf Tryz.prog 40 = some [A.nilf] := by kernel_rfl
theorem arrT_40 : arrT Tryz.prog 40 = none := by kernel_rfl
theorem isStr_40 : isStr Tryz.prog 40 = false := by kernel_rfl
theorem isBool_40 : isBool Tryz.prog 40 = false := by kernel_rfl
theorem isPtr_40 : isPtr Tryz.prog 40 = false := by kernel_rfl
theorem isU8_40 : isU8 Tryz.prog 40 = false := by kernel_rfl
theorem isIfc_40 : isIfc Tryz.prog 40 = false := by kernel_rfl
theorem ifcT_40 : ifcT Tryz.prog 40 = false := by kernel_rfl
theorem seqT_40 : seqT Tryz.prog 40 = false := by kernel_rfl
theorem sliceable_40 : sliceable Tryz.prog 40 = false := by kernel_rfl
theorem szOf_41 : szOf Tryz.prog 41 = 1 := by kernel_rfl
theorem aggT_41 : aggT Tryz.prog 41 = some false := by kernel_rfl
theorem elemT_41 : elemT Tryz.prog 41 = none := by kernel_rfl
theorem bytesOf_41 : bytesOf Tryz.prog 41 = some 8 := by kernel_rfl
theorem zeroOf_41 : zeroOf Tryz.prog 41 = some [A.nilf] := by kernel_rfl
theorem arrT_41 : arrT Tryz.prog 41 = none := by kernel_rfl
theorem isStr_41 : isStr Tryz.prog 41 = false := by kernel_rfl
theorem isBool_41 : isBool Tryz.prog 41 = false := by kernel_rfl
theorem isPtr_41 : isPtr Tryz.prog 41 = false := by kernel_rfl
theorem isU8_41 : isU8 Tryz.prog 41 = false := by kernel_rfl
theorem isIfc_41 : isIfc Tryz.prog 41 = false := by kernel_rfl
theorem ifcT_41 : ifcT Tryz.prog 41 = false := by kernel_rfl
theorem seqT_41 : seqT Tryz.prog 41 = false := by kernel_rfl
theorem sliceable_41 : sliceable Tryz.prog 41 = false := by kernel_rfl
theorem szOf_42 : szOf Tryz.prog 42 = 1 := by kernel_rfl
theorem aggT_42 : aggT Tryz.prog 42 = some false := by kernel_rfl
theorem elemT_42 : elemT Tryz.prog 42 = some 92 := by kernel_rfl
theorem bytesOf_42 : bytesOf Tryz.prog 42 = some 24 := by kernel_rfl
theorem zeroOf_42 : zeroOf Tryz.prog 42 = some [A.nils] := by kernel_rfl
theorem arrT_42 : arrT Tryz.prog 42 = none := by kernel_rfl
theorem isStr_42 : isStr Tryz.prog 42 = false := by kernel_rfl
theorem isBool_42 : isBool Tryz.prog 42 = false := by kernel_rfl
theorem isPtr_42 : isPtr Tryz.prog 42 = false := by kernel_rfl
theorem isU8_42 : isU8 Tryz.prog 42 = false := by kernel_rfl
theorem isIfc_42 : isIfc Tryz.prog 42 = false := by kernel_rfl
theorem ifcT_42 : ifcT Tryz.prog 42 = false := by kernel_rfl
theorem seqT_42 : seqT Tryz.prog 42 = true := by kernel_rfl
theorem sliceable_42 : sliceable Tryz.prog 42 = true := by kernel_rfl
theorem szOf_44 : szOf Tryz.prog 44 = 4 := by kernel_rfl
theorem aggT_44 : aggT Tryz.prog 44 = some true := by kernel_rfl
theorem elemT_44 : elemT Tryz.prog 44 = none := by kernel_rfl
theorem bytesOf_44 : bytesOf Tryz.prog 44 = some 64 := by kernel_rfl
theorem zeroOf_44 : zeroOf Tryz.prog 44 = some [A.int .i64 0, A.int .i64 0, A.nils, A.nils] := by kernel_rfl
theorem arrT_44 : arrT Tryz.prog 44 = none := by kernel_rfl
theorem fieldT_44_0 : fieldT Tryz.prog 44 0 = some (0, 24) := by kernel_rfl
theorem fieldT_44_1 : fieldT Tryz.prog 44 1 = some (3, 42) := by kernel_rfl
theorem isStr_44 : isStr Tryz.prog 44 = false := by kernel_rfl
theorem isBool_44 : isBool Tryz.prog 44 = false := by kernel_rfl
theorem isPtr_44 : isPtr Tryz.prog 44 = false := by kernel_rfl
theorem isU8_44 : isU8 Tryz.prog 44 = false := by kernel_rfl
theorem isIfc_44 : isIfc Tryz.prog 44 = false := by kernel_rfl
theorem ifcT_44 : ifcT Tryz.prog 44 = false := by kernel_rfl
theorem fieldsOk_44 : fieldsOk Tryz.prog 44 = true := by kernel_rfl
theorem seqT_44 : seqT Tryz.prog 44 = false := by kernel_rfl
theorem sliceable_44 : sliceable Tryz.prog 44 = false := by kernel_rfl
theorem szOf_46 : szOf Tryz.prog 46 = 1 := by kernel_rfl
theorem aggT_46 : aggT Tryz.prog 46 = some false := by kernel_rfl
theorem elemT_46 : elemT Tryz.prog 46 = some 3 := by kernel_rfl
theorem bytesOf_46 : bytesOf Tryz.prog 46 = some 24 := by kernel_rfl
theorem zeroOf_46 : zeroOf Tryz.prog 46 = some [A.nils] := by kernel_rfl
theorem arrT_46 : arrT Tryz.prog 46 = none := by kernel_rfl
theorem isStr_46 : isStr Tryz.prog 46 = false := by kernel_rfl
theorem isBool_46 : isBool Tryz.prog 46 = false := by kernel_rfl
theorem isPtr_46 : isPtr Tryz.prog 46 = false := by kernel_rfl
theorem isU8_46 : isU8 Tryz.prog 46 = false := by kernel_rfl
theorem isIfc_46 : isIfc Tryz.prog 46 = false := by kernel_rfl
theorem ifcT_46 : ifcT Tryz.prog 46 = false := by kernel_rfl
theorem seqT_46 : seqT Tryz.prog 46 = true := by kernel_rfl
theorem sliceable_46 : sliceable Tryz.prog 46 = true := by kernel_rfl
theorem szOf_48 : szOf Tryz.prog 48 = 1 := by kernel_rfl
theorem aggT_48 : aggT Tryz.prog 48 = some false := by kernel_rfl
theorem elemT_48 : elemT Tryz.prog 48 = none := by kernel_rfl
theorem bytesOf_48 : bytesOf Tryz.prog 48 = some 8 := by kernel_rfl
theorem zeroOf_48 : zeroOf Tryz.prog 48 = some [A.nilf] := by kernel_rfl
theorem arrT_48 : arrT Tryz.prog 48 = none := by kernel_rfl
theorem isStr_48 : isStr Tryz.prog 48 = false := by kernel_rfl
theorem isBool_48 : isBool Tryz.prog 48 = false := by kernel_rfl
theorem isPtr_48 : isPtr Tryz.prog 48 = false := by kernel_rfl
theorem isU8_48 : isU8 Tryz.prog 48 = false := by kernel_rfl
theorem isIfc_48 : isIfc Tryz.prog 48 = false := by kernel_rfl
theorem ifcT_48 : ifcT Tryz.prog 48 = false := by kernel_rfl
theorem seqT_48 : seqT Tryz.prog 48 = false := by kernel_rfl
theorem sliceable_48 : sliceable Tryz.prog 48 = false := by kernel_rfl
theorem szOf_50 : szOf Tryz.prog 50 = 1 := by kernel_rfl
theorem aggT_50 : aggT Tryz.prog 50 = some false := by kernel_rfl
theorem elemT_50 : elemT Tryz.prog 50 = none := by kernel_rfl
theorem bytesOf_50 : bytesOf Tryz.prog 50 = some 8 := by kernel_rfl
theorem zeroOf_50 : zeroOf Tryz.prog 50 = some [A.nilf] := by kernel_rfl
theorem arrT_50 : arrT Tryz.prog 50 = none := by kernel_rfl
theorem isStr_50 : isStr Tryz.prog 50 = false := by kernel_rfl
theorem isBool_50 : isBool Tryz.prog 50 = false := by kernel_rfl
theorem isPtr_50 : isPtr Tryz.prog 50 = false := by kernel_rfl
theorem isU8_50 : isU8 Tryz.prog 50 = false := by kernel_rfl
theorem isIfc_50 : isIfc Tryz.prog 50 = false := by kernel_rfl
theorem ifcT_50 : ifcT Tryz.prog 50 = false := by kernel_rfl
theorem seqT_50 : seqT Tryz.prog 50 = false := by kernel_rfl
theorem sliceable_50 : sliceable Tryz.prog 50 = false := by kernel_rfl
theorem szOf_51 : szOf Tryz.prog 51 = 1 := by kernel_rfl
theorem aggT_51 : aggT Tryz.prog 51 = some false := by kernel_rfl
theorem elemT_51 : elemT Tryz.prog 51 = none := by kernel_rfl
theorem bytesOf_51 : bytesOf Tryz.prog 51 = some 8 := by kernel_rfl
theorem zeroOf_51 : zeroOf Tryz.prog 51 = some [A.nilf] := by kernel_rfl
theorem arrT_51 : arrT Tryz.prog 51 = none := by kernel_rfl
theorem isStr_51 : isStr Tryz.prog 51 = false := by kernel_rfl
theorem isBool_51 : isBool Tryz.prog 51 = false := by kernel_rfl
theorem isPtr_51 : isPtr Tryz.prog 51 = false := by kernel_rfl
theorem isU8_51 : isU8 Tryz.prog 51 = false := by kernel_rfl
theorem isIfc_51 : isIfc Tryz.prog 51 = false := by kernel_rfl
theorem ifcT_51 : ifcT Tryz.prog 51 = false := by kernel_rfl
theorem seqT_51 : seqT Tryz.prog 51 = false := by kernel_rfl
theorem sliceable_51 : sliceable Tryz.prog 51 = false := by kernel_rfl
theorem szOf_52 : szOf Tryz.prog 52 = 1 := by kernel_rfl
theorem aggT_52 : aggT Tryz.prog 52 = some false := by kernel_rfl
theorem elemT_52 : elemT Tryz.prog 52 = none := by kernel_rfl
theorem bytesOf_52 : bytesOf Tryz.prog 52 = some 8 := by kernel_rfl
theorem zeroOf_52 : zeroOf Tryz.prog 52 = some [A.nilf] := by kernel_rfl
theorem arrT_52 : arrT Tryz.prog 52 = none := by kernel_rfl
theorem isStr_52 : isStr Tryz.prog 52 = false := by kernel_rfl
theorem isBool_52 : isBool Tryz.prog 52 = false := by kernel_rfl
theorem isPtr_52 : isPtr Tryz.prog 52 = false := by kernel_rfl
theorem isU8_52 : isU8 Tryz.prog 52 = false := by kernel_rfl
theorem isIfc_52 : isIfc Tryz.prog 52 = false := by kernel_rfl
theorem ifcT_52 : ifcT Tryz.prog 52 = false := by kernel_rfl
theorem seqT_52 : seqT Tryz.prog 52 = false := by kernel_rfl
theorem sliceable_52 : sliceable Tryz.prog 52 = false := by kernel_rfl
theorem szOf_53 : szOf Tryz.prog 53 = 1 := by kernel_rfl
theorem aggT_53 : aggT Tryz.prog 53 = some false := by kernel_rfl
theorem elemT_53 : elemT Tryz.prog 53 = none := by kernel_rfl
theorem bytesOf_53 : bytesOf Tryz.prog 53 = some 8 := by kernel_rfl
theorem zeroOf_53 : zeroOf Tryz.prog 53 = some [A.nilf] := by kernel_rfl
theorem arrT_53 : arrT Tryz.prog 53 = none := by kernel_rfl
theorem isStr_53 : isStr Tryz.prog 53 = false := by kernel_rfl
theorem isBool_53 : isBool Tryz.prog 53 = false := by kernel_rfl
theorem isPtr_53 : isPtr Tryz.prog 53 = false := by kernel_rfl
theorem isU8_53 : isU8 Tryz.prog 53 = false := by kernel_rfl
theorem isIfc_53 : isIfc Tryz.prog 53 = false := by kernel_rfl
theorem ifcT_53 : ifcT Tryz.prog 53 = false := by kernel_rfl
theorem seqT_53 : seqT Tryz.prog 53 = false := by kernel_rfl
theorem sliceable_53 : sliceable Tryz.prog 53 = false := by kernel_rfl
theorem szOf_54 : szOf Tryz.prog 54 = 1 := by kernel_rfl
theorem aggT_54 : aggT Tryz.prog 54 = some false := by kernel_rfl
theorem elemT_54 : elemT Tryz.prog 54 = none := by kernel_rfl
theorem bytesOf_54 : bytesOf Tryz.prog 54 = some 8 := by kernel_rfl
theorem zeroOf_54 : zeroOf Tryz.prog 54 = some [A.nilf] := by kernel_rfl
theorem arrT_54 : arrT Tryz.prog 54 = none := by kernel_rfl
theorem isStr_54 : isStr Tryz.prog 54 = false := by kernel_rfl
theorem isBool_54 : isBool Tryz.prog 54 = false := by kernel_rfl
theorem isPtr_54 : isPtr Tryz.prog 54 = false := by kernel_rfl
theorem isU8_54 : isU8 Tryz.prog 54 = false := by kernel_rfl
theorem isIfc_54 : isIfc Tryz.prog 54 = false := by kernel_rfl
theorem ifcT_54 : ifcT Tryz.prog 54 = false := by kernel_rfl
theorem seqT_54 : seqT Tryz.prog 54 = false := by kernel_rfl
theorem sliceable_54 : sliceable Tryz.prog 54 = false := by kernel_rfl
theorem szOf_55 : szOf Tryz.prog 55 = 1 := by kernel_rfl
theorem aggT_55 : aggT Tryz.prog 55 = some false := by kernel_rfl
theorem elemT_55 : elemT Tryz.prog 55 = none := by kernel_rfl
theorem bytesOf_55 : bytesOf Tryz.prog 55 = some 8 := by kernel_rfl
theorem zeroOf_55 : zeroOf Tryz.prog 55 = some [A.nilf] := by kernel_rfl
theorem arrT_55 : arrT Tryz.prog 55 = none := by kernel_rfl
theorem isStr_55 : isStr Tryz.prog 55 = false := by kernel_rfl
theorem isBool_55 : isBool Tryz.prog 55 = false := by kernel_rfl
theorem isPtr_55 : isPtr Tryz.prog 55 = false := by kernel_rfl
theorem isU8_55 : isU8 Tryz.prog 55 = false := by kernel_rfl
theorem isIfc_55 : isIfc Tryz.prog 55 = false := by kernel_rfl
theorem ifcT_55 : ifcT Tryz.prog 55 = false := by kernel_rfl
theorem seqT_55 : seqT Tryz.prog 55 = false := by kernel_rfl
theorem sliceable_55 : sliceable Tryz.prog 55 = false := by kernel_rfl
theorem szOf_56 : szOf Tryz.prog 56 = 1 := by kernel_rfl
theorem aggT_56 : aggT Tryz.prog 56 = some false := by kernel_rfl
theorem elemT_56 : elemT Tryz.prog 56 = none := by kernel_rfl
theorem bytesOf_56 : bytesOf Tryz.prog 56 = some 8 := by kernel_rfl
theorem zeroOf_56 : zeroOf Tryz.prog 56 = some [A.nilf] := by kernel_rfl
theorem arrT_56 : arrT Tryz.prog 56 = none := by kernel_rfl
theorem isStr_56 : isStr Tryz.prog 56 = false := by kernel_rfl
theorem isBool_56 : isBool Tryz.prog 56 = false := by kernel_rfl
theorem isPtr_56 : isPtr Tryz.prog 56 = false := by kernel_rfl
theorem isU8_56 : isU8 Tryz.prog 56 = false := by kernel_rfl
theorem isIfc_56 : isIfc Tryz.prog 56 = false := by kernel_rfl
theorem ifcT_56 : ifcT Tryz.prog 56 = false := by kernel_rfl
theorem seqT_56 : seqT Tryz.prog 56 = false := by kernel_rfl
theorem sliceable_56 : sliceable Tryz.prog 56 = false := by kernel_rfl
theorem szOf_57 : szOf Tryz.prog 57 = 1 := by kernel_rfl
theorem aggT_57 : aggT Tryz.prog 57 = some false := by kernel_rfl
theorem elemT_57 : elemT Tryz.prog 57 = none := by kernel_rfl
theorem bytesOf_57 : bytesOf Tryz.prog 57 = some 8 := by kernel_rfl
theorem zeroOf_57 : zeroOf Tryz.prog 57 = some [A.nilf] := by kernel_rfl
theorem arrT_57 : arrT Tryz.prog 57 = none := by kernel_rfl
theorem isStr_57 : isStr Tryz.prog 57 = false := by kernel_rfl
theorem isBool_57 : isBool Tryz.prog 57 = false := by kernel_rfl
theorem isPtr_57 : isPtr Tryz.prog 57 = false := by kernel_rfl
theorem isU8_57 : isU8 Tryz.prog 57 = false := by kernel_rfl
theorem isIfc_57 : isIfc Tryz.prog 57 = false := by kernel_rfl
theorem ifcT_57 : ifcT Tryz.prog 57 = false := by kernel_rfl
theorem seqT_57 : seqT Tryz.prog 57 = false := by kernel_rfl
theorem sliceable_57 : sliceable Tryz.prog 57 = false := by kernel_rfl
theorem szOf_61 : szOf Tryz.prog 61 = 1 := by kernel_rfl
theorem aggT_61 : aggT Tryz.prog 61 = some false := by kernel_rfl
theorem elemT_61 : elemT Tryz.prog 61 = none := by kernel_rfl
theorem bytesOf_61 : bytesOf Tryz.prog 61 = some 8 := by kernel_rfl
theorem zeroOf_61 : zeroOf Tryz.prog 61 = some [A.nilf] := by kernel_rfl
theorem arrT_61 : arrT Tryz.prog 61 = none := by kernel_rfl
theorem isStr_61 : isStr Tryz.prog 61 = false := by kernel_rfl
theorem isBool_61 : isBool Tryz.prog 61 = false := by kernel_rfl
theorem isPtr_61 : isPtr Tryz.prog 61 = false := by kernel_rfl
theorem isU8_61 : isU8 Tryz.prog 61 = false := by kernel_rfl
theorem isIfc_61 : isIfc Tryz.prog 61 = false := by kernel_rfl
theorem ifcT_61 : ifcT Tryz.prog 61 = false := by kernel_rfl
theorem seqT_61 : seqT Tryz.prog 61 = false := by kernel_rfl
theorem sliceable_61 : sliceable Tryz.prog 61 = false := by kernel_rfl
theorem szOf_65 : szOf Tryz.prog 65 = 1 := by kernel_rfl
theorem aggT_65 : aggT Tryz.prog 65 = some false := by kernel_rfl
theorem elemT_65 : elemT Tryz.prog 65 = none := by kernel_rfl
theorem bytesOf_65 : bytesOf Tryz.prog 65 = some 8 := by kernel_rfl
theorem zeroOf_65 : zeroOf Tryz.prog 65 = some [A.nilf] := by kernel_rfl
theorem arrT_65 : arrT Tryz.prog 65 = none := by kernel_rfl
theorem isStr_65 : isStr Tryz.prog 65 = false := by kernel_rfl
theorem isBool_65 : isBool Tryz.prog 65 = false := by kernel_rfl
theorem isPtr_65 : isPtr Tryz.prog 65 = false := by kernel_rfl
theorem isU8_65 : isU8 Tryz.prog 65 = false := by kernel_rfl
theorem isIfc_65 : isIfc Tryz.prog 65 = false := by kernel_rfl
theorem ifcT_65 : ifcT Tryz.prog 65 = false := by kernel_rfl
theorem seqT_65 : seqT Tryz.prog 65 = false := by kernel_rfl
theorem sliceable_65 : sliceable Tryz.prog 65 = false := by kernel_rfl
theorem szOf_68 : szOf Tryz.prog 68 = 1 := by kernel_rfl
theorem aggT_68 : aggT Tryz.prog 68 = some false := by kernel_rfl
theorem elemT_68 : elemT Tryz.prog 68 = none := by kernel_rfl
theorem bytesOf_68 : bytesOf Tryz.prog 68 = some 8 := by kernel_rfl
theorem zeroOf_68 : zeroOf Tryz.prog 68 = some [A.nilf] := by kernel_rfl
theorem arrT_68 : arrT Tryz.prog 68 = none := by kernel_rfl
theorem isStr_68 : isStr Tryz.prog 68 = false := by kernel_rfl
theorem isBool_68 : isBool Tryz.prog 68 = false := by kernel_rfl
theorem isPtr_68 : isPtr Tryz.prog 68 = false := by kernel_rfl
theorem isU8_68 : isU8 Tryz.prog 68 = false := by kernel_rfl
theorem isIfc_68 : isIfc Tryz.prog 68 = false := by kernel_rfl
theorem ifcT_68 : ifcT Tryz.prog 68 = false := by kernel_rfl
theorem seqT_68 : seqT Tryz.prog 68 = false := by kernel_rfl
theorem sliceable_68 : sliceable Tryz.prog 68 = false := by kernel_rfl
theorem szOf_70 : szOf Tryz.prog 70 = 0 := by kernel_rfl
theorem aggT_70 : aggT Tryz.prog 70 = some true := by kernel_rfl
theorem elemT_70 : elemT Tryz.prog 70 = none := by kernel_rfl
theorem bytesOf_70 : bytesOf Tryz.prog 70 = some 0 := by kernel_rfl
theorem zeroOf_70 : zeroOf Tryz.prog 70 = some [] := by kernel_rfl
theorem arrT_70 : arrT Tryz.prog 70 = none := by kernel_rfl
theorem isStr_70 : isStr Tryz.prog 70 = false := by kernel_rfl
theorem isBool_70 : isBool Tryz.prog 70 = false := by kernel_rfl
theorem isPtr_70 : isPtr Tryz.prog 70 = false := by kernel_rfl
theorem isU8_70 : isU8 Tryz.prog 70 = false := by kernel_rfl
theorem isIfc_70 : isIfc Tryz.prog 70 = false := by kernel_rfl
theorem ifcT_70 : ifcT Tryz.prog 70 = false := by kernel_rfl
theorem fieldsOk_70 : fieldsOk Tryz.prog 70 = true := by kernel_rfl
theorem seqT_70 : seqT Tryz.prog 70 = false := by kernel_rfl
theorem sliceable_70 : sliceable Tryz.prog 70 = false := by kernel_rfl
theorem szOf_72 : szOf Tryz.prog 72 = 1 := by kernel_rfl
theorem aggT_72 : aggT Tryz.prog 72 = some false := by kernel_rfl
theorem elemT_72 : elemT Tryz.prog 72 = none := by kernel_rfl
theorem bytesOf_72 : bytesOf Tryz.prog 72 = some 8 := by kernel_rfl
theorem zeroOf_72 : zeroOf Tryz.prog 72 = some [A.nilp] := by kernel_rfl
theorem arrT_72 : arrT Tryz.prog 72 = none := by kernel_rfl
theorem isStr_72 : isStr Tryz.prog 72 = false := by kernel_rfl
theorem isBool_72 : isBool Tryz.prog 72 = false := by kernel_rfl
theorem isPtr_72 : isPtr Tryz.prog 72 = true := by kernel_rfl
theorem isU8_72 : isU8 Tryz.prog 72 = false := by kernel_rfl
theorem isIfc_72 : isIfc Tryz.prog 72 = false := by kernel_rfl
theorem ifcT_72 : ifcT Tryz.prog 72 = false := by kernel_rfl
theorem seqT_72 : seqT Tryz.prog 72 = false := by kernel_rfl
theorem sliceable_72 : sliceable Tryz.prog 72 = false := by kernel_rfl
theorem szOf_73 : szOf Tryz.prog 73 = 1 := by kernel_rfl
theorem aggT_73 : aggT Tryz.prog 73 = some false := by kernel_rfl
theorem elemT_73 : elemT Tryz.prog 73 = some 9 := by kernel_rfl
theorem bytesOf_73 : bytesOf Tryz.prog 73 = some 24 := by kernel_rfl
theorem zeroOf_73 : zeroOf Tryz.prog 73 = some [A.nils] := by kernel_rfl
theorem arrT_73 : arrT Tryz.prog 73 = none := by kernel_rfl
theorem isStr_73 : isStr Tryz.prog 73 = false := by kernel_rfl
theorem isBool_73 : isBool Tryz.prog 73 = false := by kernel_rfl
theorem isPtr_73 : isPtr Tryz.prog 73 = false := by kernel_rfl
theorem isU8_73 : isU8 Tryz.prog 73 = false := by kernel_rfl
theorem isIfc_73 : isIfc Tryz.prog 73 = false := by kernel_rfl
theorem ifcT_73 : ifcT Tryz.prog 73 = false := by kernel_rfl
theorem seqT_73 : seqT Tryz.prog 73 = true := by kernel_rfl
theorem sliceable_73 : sliceable Tryz.prog 73 = true := by kernel_rfl
theorem szOf_76 : szOf Tryz.prog 76 = 1 := by kernel_rfl
theorem aggT_76 : aggT Tryz.prog 76 = some true := by kernel_rfl
theorem elemT_76 : elemT Tryz.prog 76 = none := by kernel_rfl
theorem bytesOf_76 : bytesOf Tryz.prog 76 = some 24 := by kernel_rfl
theorem zeroOf_76 : zeroOf Tryz.prog 76 = some [A.nils] := by kernel_rfl
theorem arrT_76 : arrT Tryz.prog 76 = none := by kernel_rfl
theorem fieldT_76_0 : fieldT Tryz.prog 76 0 = some (0, 73) := by kernel_rfl
theorem isStr_76 : isStr Tryz.prog 76 = false := by kernel_rfl
theorem isBool_76 : isBool Tryz.prog 76 = false := by kernel_rfl
theorem isPtr_76 : isPtr Tryz.prog 76 = false := by kernel_rfl
theorem isU8_76 : isU8 Tryz.prog 76 = false := by kernel_rfl
theorem isIfc_76 : isIfc Tryz.prog 76 = false := by kernel_rfl
theorem ifcT_76 : ifcT Tryz.prog 76 = false := by kernel_rfl
theorem fieldsOk_76 : fieldsOk Tryz.prog 76 = true := by kernel_rfl
theorem seqT_76 : seqT Tryz.prog 76 = false := by kernel_rfl
theorem sliceable_76 : sliceable Tryz.prog 76 = false := by kernel_rfl
theorem szOf_82 : szOf Tryz.prog 82 = 1 := by kernel_rfl
theorem aggT_82 : aggT Tryz.prog 82 = some false := by kernel_rfl
theorem elemT_82 : elemT Tryz.prog 82 = none := by kernel_rfl
theorem bytesOf_82 : bytesOf Tryz.prog 82 = some 8 := by kernel_rfl
theorem zeroOf_82 : zeroOf Tryz.prog 82 = some [A.nilp] := by kernel_rfl
theorem arrT_82 : arrT Tryz.prog 82 = none := by kernel_rfl
theorem isStr_82 : isStr Tryz.prog 82 = false := by kernel_rfl
theorem isBool_82 : isBool Tryz.prog 82 = false := by kernel_rfl
theorem isPtr_82 : isPtr Tryz.prog 82 = true := by kernel_rfl
theorem isU8_82 : isU8 Tryz.prog 82 = false := by kernel_rfl
theorem isIfc_82 : isIfc Tryz.prog 82 = false := by kernel_rfl
theorem ifcT_82 : ifcT Tryz.prog 82 = false := by kernel_rfl
theorem seqT_82 : seqT Tryz.prog 82 = false := by kernel_rfl
theorem sliceable_82 : sliceable Tryz.prog 82 = false := by kernel_rfl
theorem szOf_84 : szOf Tryz.prog 84 = 2 := by kernel_rfl
theorem aggT_84 : aggT Tryz.prog 84 = some true := by kernel_rfl
theorem elemT_84 : elemT Tryz.prog 84 = none := by kernel_rfl
theorem bytesOf_84 : bytesOf Tryz.prog 84 = some 32 := by kernel_rfl
theorem zeroOf_84 : zeroOf Tryz.prog 84 = some [A.nils, A.bool false] := by kernel_rfl
theorem arrT_84 : arrT Tryz.prog 84 = none := by kernel_rfl
theorem fieldT_84_0 : fieldT Tryz.prog 84 0 = some (0, 73) := by kernel_rfl
theorem fieldT_84_1 : fieldT Tryz.prog 84 1 = some (1, 4) := by kernel_rfl
theorem isStr_84 : isStr Tryz.prog 84 = false := by kernel_rfl
theorem isBool_84 : isBool Tryz.prog 84 = false := by kernel_rfl
theorem isPtr_84 : isPtr Tryz.prog 84 = false := by kernel_rfl
theorem isU8_84 : isU8 Tryz.prog 84 = false := by kernel_rfl
theorem isIfc_84 : isIfc Tryz.prog 84 = false := by kernel_rfl
theorem ifcT_84 : ifcT Tryz.prog 84 = false := by kernel_rfl
theorem fieldsOk_84 : fieldsOk Tryz.prog 84 = true := by kernel_rfl
theorem seqT_84 : seqT Tryz.prog 84 = false := by kernel_rfl
theorem sliceable_84 : sliceable Tryz.prog 84 = false := by kernel_rfl
theorem szOf_86 : szOf Tryz.prog 86 = 1 := by kernel_rfl
theorem aggT_86 : aggT Tryz.prog 86 = some false := by kernel_rfl
theorem elemT_86 : elemT Tryz.prog 86 = some 44 := by kernel_rfl
theorem bytesOf_86 : bytesOf Tryz.prog 86 = some 24 := by kernel_rfl
theorem zeroOf_86 : zeroOf Tryz.prog 86 = some [A.nils] := by kernel_rfl
theorem arrT_86 : arrT Tryz.prog 86 = none := by kernel_rfl
theorem isStr_86 : isStr Tryz.prog 86 = false := by kernel_rfl
theorem isBool_86 : isBool Tryz.prog 86 = false := by kernel_rfl
theorem isPtr_86 : isPtr Tryz.prog 86 = false := by kernel_rfl
theorem isU8_86 : isU8 Tryz.prog 86 = false := by kernel_rfl
theorem isIfc_86 : isIfc Tryz.prog 86 = false := by kernel_rfl
theorem ifcT_86 : ifcT Tryz.prog 86 = false := by kernel_rfl
theorem seqT_86 : seqT Tryz.prog 86 = true := by kernel_rfl
theorem sliceable_86 : sliceable Tryz.prog 86 = true := by kernel_rfl
theorem szOf_88 : szOf Tryz.prog 88 = 1 := by kernel_rfl
theorem aggT_88 : aggT Tryz.prog 88 = some false := by kernel_rfl
theorem elemT_88 : elemT Tryz.prog 88 = none := by kernel_rfl
theorem bytesOf_88 : bytesOf Tryz.prog 88 = some 8 := by kernel_rfl
theorem zeroOf_88 : zeroOf Tryz.prog 88 = some [A.nilf] := by kernel_rfl
theorem arrT_88 : arrT Tryz.prog 88 = none := by kernel_rfl
theorem isStr_88 : isStr Tryz.prog 88 = false := by kernel_rfl
theorem isBool_88 : isBool Tryz.prog 88 = false := by kernel_rfl
theorem isPtr_88 : isPtr Tryz.prog 88 = false := by kernel_rfl
theorem isU8_88 : isU8 Tryz.prog 88 = false := by kernel_rfl
theorem isIfc_88 : isIfc Tryz.prog 88 = false := by kernel_rfl
theorem ifcT_88 : ifcT Tryz.prog 88 = false := by kernel_rfl
theorem seqT_88 : seqT Tryz.prog 88 = false := by kernel_rfl
theorem sliceable_88 : sliceable Tryz.prog 88 = false := by kernel_rfl
theorem szOf_89 : szOf Tryz.prog 89 = 1 := by kernel_rfl
theorem aggT_89 : aggT Tryz.prog 89 = some false := by kernel_rfl
theorem elemT_89 : elemT Tryz.prog 89 = some 4 := by kernel_rfl
theorem bytesOf_89 : bytesOf Tryz.prog 89 = some 24 := by kernel_rfl
theorem zeroOf_89 : zeroOf Tryz.prog 89 = some [A.nils] := by kernel_rfl
theorem arrT_89 : arrT Tryz.prog 89 = none := by kernel_rfl
theorem isStr_89 : isStr Tryz.prog 89 = false := by kernel_rfl
theorem isBool_89 : isBool Tryz.prog 89 = false := by kernel_rfl
theorem isPtr_89 : isPtr Tryz.prog 89 = false := by kernel_rfl
theorem isU8_89 : isU8 Tryz.prog 89 = false := by kernel_rfl
theorem isIfc_89 : isIfc Tryz.prog 89 = false := by kernel_rfl
theorem ifcT_89 : ifcT Tryz.prog 89 = false := by kernel_rfl
theorem seqT_89 : seqT Tryz.prog 89 = true := by kernel_rfl
theorem sliceable_89 : sliceable Tryz.prog 89 = true := by kernel_rfl
theorem szOf_92 : szOf Tryz.prog 92 = 3 := by kernel_rfl
theorem aggT_92 : aggT Tryz.prog 92 = some true := by kernel_rfl
theorem elemT_92 : elemT Tryz.prog 92 = none := by kernel_rfl
theorem bytesOf_92 : bytesOf Tryz.prog 92 = some 56 := by kernel_rfl
theorem zeroOf_92 : zeroOf Tryz.prog 92 = some [A.int .i64 0, A.nils, A.nils] := by kernel_rfl
theorem arrT_92 : arrT Tryz.prog 92 = none := by kernel_rfl
theorem fieldT_92_0 : fieldT Tryz.prog 92 0 = some (0, 3) := by kernel_rfl
theorem fieldT_92_1 : fieldT Tryz.prog 92 1 = some (1, 42) := by kernel_rfl
theorem fieldT_92_2 : fieldT Tryz.prog 92 2 = some (2, 46) := by kernel_rfl
theorem isStr_92 : isStr Tryz.prog 92 = false := by kernel_rfl
theorem isBool_92 : isBool Tryz.prog 92 = false := by kernel_rfl
theorem isPtr_92 : isPtr Tryz.prog 92 = false := by kernel_rfl
theorem isU8_92 : isU8 Tryz.prog 92 = false := by kernel_rfl
theorem isIfc_92 : isIfc Tryz.prog 92 = false := by kernel_rfl
theorem ifcT_92 : ifcT Tryz.prog 92 = false := by kernel_rfl
theorem fieldsOk_92 : fieldsOk Tryz.prog 92 = true := by kernel_rfl
theorem seqT_92 : seqT Tryz.prog 92 = false := by kernel_rfl
theorem sliceable_92 : sliceable Tryz.prog 92 = false := by kernel_rfl
theorem szOf_97 : szOf Tryz.prog 97 = 1 := by kernel_rfl
theorem aggT_97 : aggT Tryz.prog 97 = some false := by kernel_rfl
theorem elemT_97 : elemT Tryz.prog 97 = none := by kernel_rfl
theorem bytesOf_97 : bytesOf Tryz.prog 97 = some 8 := by kernel_rfl
theorem zeroOf_97 : zeroOf Tryz.prog 97 = some [A.nilf] := by kernel_rfl
theorem arrT_97 : arrT Tryz.prog 97 = none := by kernel_rfl
theorem isStr_97 : isStr Tryz.prog 97 = false := by kernel_rfl
theorem isBool_97 : isBool Tryz.prog 97 = false := by kernel_rfl
theorem isPtr_97 : isPtr Tryz.prog 97 = false := by kernel_rfl
theorem isU8_97 : isU8 Tryz.prog 97 = false := by kernel_rfl
theorem isIfc_97 : isIfc Tryz.prog 97 = false := by kernel_rfl
theorem ifcT_97 : ifcT Tryz.prog 97 = false := by kernel_rfl
theorem seqT_97 : seqT Tryz.prog 97 = false := by kernel_rfl
theorem sliceable_97 : sliceable Tryz.prog 97 = false := by kernel_rfl
theorem szOf_98 : szOf Tryz.prog 98 = 1 := by kernel_rfl
theorem aggT_98 : aggT Tryz.prog 98 = some false := by kernel_rfl
theorem elemT_98 : elemT Tryz.prog 98 = none := by kernel_rfl
theorem bytesOf_98 : bytesOf Tryz.prog 98 = some 8 := by kernel_rfl
theorem zeroOf_98 : zeroOf Tryz.prog 98 = some [A.nilf] := by kernel_rfl
theorem arrT_98 : arrT Tryz.prog 98 = none := by kernel_rfl
theorem isStr_98 : isStr Tryz.prog 98 = false := by kernel_rfl
theorem isBool_98 : isBool Tryz.prog 98 = false := by kernel_rfl
theorem isPtr_98 : isPtr Tryz.prog 98 = false := by kernel_rfl
theorem isU8_98 : isU8 Tryz.prog 98 = false := by kernel_rfl
theorem isIfc_98 : isIfc Tryz.prog 98 = false := by kernel_rfl
theorem ifcT_98 : ifcT Tryz.prog 98 = false := by kernel_rfl
theorem seqT_98 : seqT Tryz.prog 98 = false := by kernel_rfl
theorem sliceable_98 : sliceable Tryz.prog 98 = false := by kernel_rfl
theorem szOf_99 : szOf Tryz.prog 99 = 1 := by kernel_rfl
theorem aggT_99 : aggT Tryz.prog 99 = some false := by kernel_rfl
theorem elemT_99 : elemT Tryz.prog 99 = none := by kernel_rfl
theorem bytesOf_99 : bytesOf Tryz.prog 99 = some 8 := by kernel_rfl
theorem zeroOf_99 : zeroOf Tryz.prog 99 = some [A.nilf] := by kernel_rfl
theorem arrT_99 : arrT Tryz.prog 99 = none := by kernel_rfl
theorem isStr_99 : isStr Tryz.prog 99 = false := by kernel_rfl
theorem isBool_99 : isBool Tryz.prog 99 = false := by kernel_rfl
theorem isPtr_99 : isPtr Tryz.prog 99 = false := by kernel_rfl
theorem isU8_99 : isU8 Tryz.prog 99 = false := by kernel_rfl
theorem isIfc_99 : isIfc Tryz.prog 99 = false := by kernel_rfl
theorem ifcT_99 : ifcT Tryz.prog 99 = false := by kernel_rfl
theorem seqT_99 : seqT Tryz.prog 99 = false := by kernel_rfl
theorem sliceable_99 : sliceable Tryz.prog 99 = false := by kernel_rfl
theorem szOf_100 : szOf Tryz.prog 100 = 1 := by kernel_rfl
theorem aggT_100 : aggT Tryz.prog 100 = some false := by kernel_rfl
theorem elemT_100 : elemT Tryz.prog 100 = none := by kernel_rfl
theorem bytesOf_100 : bytesOf Tryz.prog 100 = some 8 := by kernel_rfl
theorem zeroOf_100 : zeroOf Tryz.prog 100 = some [A.nilf] := by kernel_rfl
theorem arrT_100 : arrT Tryz.prog 100 = none := by kernel_rfl
theorem isStr_100 : isStr Tryz.prog 100 = false := by kernel_rfl
theorem isBool_100 : isBool Tryz.prog 100 = false := by kernel_rfl
theorem isPtr_100 : isPtr Tryz.prog 100 = false := by kernel_rfl
theorem isU8_100 : isU8 Tryz.prog 100 = false := by kernel_rfl
theorem isIfc_100 : isIfc Tryz.prog 100 = false := by kernel_rfl
theorem ifcT_100 : ifcT Tryz.prog 100 = false := by kernel_rfl
theorem seqT_100 : seqT Tryz.prog 100 = false := by kernel_rfl
theorem sliceable_100 : sliceable Tryz.prog 100 = false := by kernel_rfl
theorem szOf_101 : szOf Tryz.prog 101 = 1 := by kernel_rfl
theorem aggT_101 : aggT Tryz.prog 101 = some false := by kernel_rfl
theorem elemT_101 : elemT Tryz.prog 101 = none := by kernel_rfl
theorem bytesOf_101 : bytesOf Tryz.prog 101 = some 8 := by kernel_rfl
theorem zeroOf_101 : zeroOf Tryz.prog 101 = some [A.nilf] := by kernel_rfl
theorem arrT_101 : arrT Tryz.prog 101 = none := by kernel_rfl
theorem isStr_101 : isStr Tryz.prog 101 = false := by kernel_rfl
theorem isBool_101 : isBool Tryz.prog 101 = false := by kernel_rfl
theorem isPtr_101 : isPtr Tryz.prog 101 = false := by kernel_rfl
theorem isU8_101 : isU8 Tryz.prog 101 = false := by kernel_rfl
theorem isIfc_101 : isIfc Tryz.prog 101 = false := by kernel_rfl
theorem ifcT_101 : ifcT Tryz.prog 101 = false := by kernel_rfl
theorem seqT_101 : seqT Tryz.prog 101 = false := by kernel_rfl
theorem sliceable_101 : sliceable Tryz.prog 101 = false := by kernel_rfl
theorem szOf_102 : szOf Tryz.prog 102 = 1 := by kernel_rfl
theorem aggT_102 : aggT Tryz.prog 102 = some false := by kernel_rfl
theorem elemT_102 : elemT Tryz.prog 102 = none := by kernel_rfl
theorem bytesOf_102 : bytesOf Tryz.prog 102 = some 8 := by kernel_rfl
theorem zeroOf_102 : zeroOf Tryz.prog 102 = some [A.nilf] := by kernel_rfl
theorem arrT_102 : arrT Tryz.prog 102 = none := by kernel_rfl
theorem isStr_102 : isStr Tryz.prog 102 = false := by kernel_rfl
theorem isBool_102 : isBool Tryz.prog 102 = false := by kernel_rfl
theorem isPtr_102 : isPtr Tryz.prog 102 = false := by kernel_rfl
theorem isU8_102 : isU8 Tryz.prog 102 = false := by kernel_rfl
theorem isIfc_102 : isIfc Tryz.prog 102 = false := by kernel_rfl
theorem ifcT_102 : ifcT Tryz.prog 102 = false := by kernel_rfl
theorem seqT_102 : seqT Tryz.prog 102 = false := by kernel_rfl
theorem sliceable_102 : sliceable Tryz.prog 102 = false := by kernel_rfl
theorem szOf_103 : szOf Tryz.prog 103 = 1 := by kernel_rfl
theorem aggT_103 : aggT Tryz.prog 103 = some false := by kernel_rfl
theorem elemT_103 : elemT Tryz.prog 103 = none := by kernel_rfl
theorem bytesOf_103 : bytesOf Tryz.prog 103 = some 8 := by kernel_rfl
theorem zeroOf_103 : zeroOf Tryz.prog 103 = some [A.nilf] := by kernel_rfl
theorem arrT_103 : arrT Tryz.prog 103 = none := by kernel_rfl
theorem isStr_103 : isStr Tryz.prog 103 = false := by kernel_rfl
theorem isBool_103 : isBool Tryz.prog 103 = false := by kernel_rfl
theorem isPtr_103 : isPtr Tryz.prog 103 = false := by kernel_rfl
theorem isU8_103 : isU8 Tryz.prog 103 = false := by kernel_rfl
theorem isIfc_103 : isIfc Tryz.prog 103 = false := by kernel_rfl
theorem ifcT_103 : ifcT Tryz.prog 103 = false := by kernel_rfl
theorem seqT_103 : seqT Tryz.prog 103 = false := by kernel_rfl
theorem sliceable_103 : sliceable Tryz.prog 103 = false := by kernel_rfl
theorem szOf_105 : szOf Tryz.prog 105 = 1 := by kernel_rfl
theorem aggT_105 : aggT Tryz.prog 105 = some false := by kernel_rfl
theorem elemT_105 : elemT Tryz.prog 105 = none := by kernel_rfl
theorem bytesOf_105 : bytesOf Tryz.prog 105 = some 8 := by kernel_rfl
theorem zeroOf_105 : zeroOf Tryz.prog 105 = some [A.nilf] := by kernel_rfl
theorem arrT_105 : arrT Tryz.prog 105 = none := by kernel_rfl
theorem isStr_105 : isStr Tryz.prog 105 = false := by kernel_rfl
theorem isBool_105 : isBool Tryz.prog 105 = false := by kernel_rfl
theorem isPtr_105 : isPtr Tryz.prog 105 = false := by kernel_rfl
theorem isU8_105 : isU8 Tryz.prog 105 = false := by kernel_rfl
theorem isIfc_105 : isIfc Tryz.prog 105 = false := by kernel_rfl
theorem ifcT_105 : ifcT Tryz.prog 105 = false := by kernel_rfl
theorem seqT_105 : seqT Tryz.prog 105 = false := by kernel_rfl
theorem sliceable_105 : sliceable Tryz.prog 105 = false := by kernel_rfl
theorem szOf_107 : szOf Tryz.prog 107 = 1 := by kernel_rfl
theorem aggT_107 : aggT Tryz.prog 107 = some false := by kernel_rfl
theorem elemT_107 : elemT Tryz.prog 107 = none := by kernel_rfl
theorem bytesOf_107 : bytesOf Tryz.prog 107 = some 8 := by kernel_rfl
theorem zeroOf_107 : zeroOf Tryz.prog 107 = some [A.nilf] := by kernel_rfl
theorem arrT_107 : arrT Tryz.prog 107 = none := by kernel_rfl
theorem isStr_107 : isStr Tryz.prog 107 = false := by kernel_rfl
theorem isBool_107 : isBool Tryz.prog 107 = false := by kernel_rfl
theorem isPtr_107 : isPtr Tryz.prog 107 = false := by kernel_rfl
theorem isU8_107 : isU8 Tryz.prog 107 = false := by kernel_rfl
theorem isIfc_107 : isIfc Tryz.prog 107 = false := by kernel_rfl
theorem ifcT_107 : ifcT Tryz.prog 107 = false := by kernel_rfl
theorem seqT_107 : seqT Tryz.prog 107 = false := by kernel_rfl
theorem sliceable_107 : sliceable Tryz.prog 107 = false := by kernel_rfl
theorem szOf_109 : szOf Tryz.prog 109 = 1 := by kernel_rfl
theorem aggT_109 : aggT Tryz.prog 109 = some false := by kernel_rfl
theorem elemT_109 : elemT Tryz.prog 109 = none := by kernel_rfl
theorem bytesOf_109 : bytesOf Tryz.prog 109 = some 8 := by kernel_rfl
theorem zeroOf_109 : zeroOf Tryz.prog 109 = some [A.nilf] := by kernel_rfl
theorem arrT_109 : arrT Tryz.prog 109 = none := by kernel_rfl
theorem isStr_109 : isStr Tryz.prog 109 = false := by kernel_rfl
theorem isBool_109 : isBool Tryz.prog 109 = false := by kernel_rfl
theorem isPtr_109 : isPtr Tryz.prog 109 = false := by kernel_rfl
theorem isU8_109 : isU8 Tryz.prog 109 = false := by kernel_rfl
theorem isIfc_109 : isIfc Tryz.prog 109 = false := by kernel_rfl
theorem ifcT_109 : ifcT Tryz.prog 109 = false := by kernel_rfl
theorem seqT_109 : seqT Tryz.prog 109 = false := by kernel_rfl
theorem sliceable_109 : sliceable Tryz.prog 109 = false := by kernel_rfl
theorem szOf_111 : szOf Tryz.prog 111 = 1 := by kernel_rfl
theorem aggT_111 : aggT Tryz.prog 111 = some false := by kernel_rfl
theorem elemT_111 : elemT Tryz.prog 111 = none := by kernel_rfl
theorem bytesOf_111 : bytesOf Tryz.prog 111 = some 8 := by kernel_rfl
theorem zeroOf_111 : zeroOf Tryz.prog 111 = some [A.nilf] := by kernel_rfl
theorem arrT_111 : arrT Tryz.prog 111 = none := by kernel_rfl
theorem isStr_111 : isStr Tryz.prog 111 = false := by kernel_rfl
theorem isBool_111 : isBool Tryz.prog 111 = false := by kernel_rfl
theorem isPtr_111 : isPtr Tryz.prog 111 = false := by kernel_rfl
theorem isU8_111 : isU8 Tryz.prog 111 = false := by kernel_rfl
theorem isIfc_111 : isIfc Tryz.prog 111 = false := by kernel_rfl
theorem ifcT_111 : ifcT Tryz.prog 111 = false := by kernel_rfl
theorem seqT_111 : seqT Tryz.prog 111 = false := by kernel_rfl
theorem sliceable_111 : sliceable Tryz.prog 111 = false := by kernel_rfl
theorem szOf_112 : szOf Tryz.prog 112 = 3 := by kernel_rfl
theorem aggT_112 : aggT Tryz.prog 112 = some true := by kernel_rfl
theorem elemT_112 : elemT Tryz.prog 112 = none := by kernel_rfl
theorem bytesOf_112 : bytesOf Tryz.prog 112 = some 32 := by kernel_rfl
theorem zeroOf_112 : zeroOf Tryz.prog 112 = some [A.str [], A.int .i64 0, A.int .i64 0] := by kernel_rfl
theorem arrT_112 : arrT Tryz.prog 112 = none := by kernel_rfl
theorem fieldT_112_0 : fieldT Tryz.prog 112 0 = some (0, 9) := by kernel_rfl
theorem fieldT_112_1 : fieldT Tryz.prog 112 1 = some (1, 3) := by kernel_rfl
theorem fieldT_112_2 : fieldT Tryz.prog 112 2 = some (2, 3) := by kernel_rfl
theorem isStr_112 : isStr Tryz.prog 112 = false := by kernel_rfl
theorem isBool_112 : isBool Tryz.prog 112 = false := by kernel_rfl
theorem isPtr_112 : isPtr Tryz.prog 112 = false := by kernel_rfl
theorem isU8_112 : isU8 Tryz.prog 112 = false := by kernel_rfl
theorem isIfc_112 : isIfc Tryz.prog 112 = false := by kernel_rfl
theorem ifcT_112 : ifcT Tryz.prog 112 = false := by kernel_rfl
theorem fieldsOk_112 : fieldsOk Tryz.prog 112 = true := by kernel_rfl
theorem seqT_112 : seqT Tryz.prog 112 = false := by kernel_rfl
theorem sliceable_112 : sliceable Tryz.prog 112 = false := by kernel_rfl
theorem szOf_113 : szOf Tryz.prog 113 = 3 := by kernel_rfl
theorem aggT_113 : aggT Tryz.prog 113 = some true := by kernel_rfl
theorem elemT_113 : elemT Tryz.prog 113 = none := by kernel_rfl
theorem bytesOf_113 : bytesOf Tryz.prog 113 = some 32 := by kernel_rfl
theorem zeroOf_113 : zeroOf Tryz.prog 113 = some [A.str [], A.int .i64 0, A.int .i64 0] := by kernel_rfl
theorem arrT_113 : arrT Tryz.prog 113 = none := by kernel_rfl
theorem fieldT_113_0 : fieldT Tryz.prog 113 0 = some (0, 9) := by kernel_rfl
theorem fieldT_113_1 : fieldT Tryz.prog 113 1 = some (1, 3) := by kernel_rfl
theorem fieldT_113_2 : fieldT Tryz.prog 113 2 = some (2, 3) := by kernel_rfl
theorem isStr_113 : isStr Tryz.prog 113 = false := by kernel_rfl
theorem isBool_113 : isBool Tryz.prog 113 = false := by kernel_rfl
theorem isPtr_113 : isPtr Tryz.prog 113 = false := by kernel_rfl
theorem isU8_113 : isU8 Tryz.prog 113 = false := by kernel_rfl
theorem isIfc_113 : isIfc Tryz.prog 113 = false := by kernel_rfl
theorem ifcT_113 : ifcT Tryz.prog 113 = false := by kernel_rfl
theorem fieldsOk_113 : fieldsOk Tryz.prog 113 = true := by kernel_rfl
theorem seqT_113 : seqT Tryz.prog 113 = false := by kernel_rfl
theorem sliceable_113 : sliceable Tryz.prog 113 = false := by kernel_rfl
theorem szOf_114 : szOf Tryz.prog 114 = 42 := by kernel_rfl
theorem aggT_114 : aggT Tryz.prog 114 = some true := by kernel_rfl
theorem elemT_114 : elemT Tryz.prog 114 = none := by kernel_rfl
theorem bytesOf_114 : bytesOf Tryz.prog 114 = some 448 := by kernel_rfl
theorem zeroOf_114 : zeroOf Tryz.prog 114 = some [A.str [], A.int .i64 0, A.int .i64 0, A.str [], A.int .i64 0, A.int .i64 0, A.str [], A.int .i64 0, A.int .i64 0, A.str [], A.int .i64 0, A.int .i64 0, A.str [], A.int .i64 0, A.int .i64 0, A.str [], A.int .i64 0, A.int .i64 0, A.str [], A.int .i64 0, A.int .i64 0, A.str [], A.int .i64 0, A.int .i64 0, A.str [], A.int .i64 0, A.int .i64 0, A.str [], A.int .i64 0, A.int .i64 0, A.str [], A.int .i64 0, A.int .i64 0, A.str [], A.int .i64 0, A.int .i64 0, A.str [], A.int .i64 0, A.int .i64 0, A.str [], A.int .i64 0, A.int .i64 0] := by kernel_rfl
theorem arrT_114 : arrT Tryz.prog 114 = some (14, 113) := by kernel_rfl
theorem isStr_114 : isStr Tryz.prog 114 = false := by kernel_rfl
theorem isBool_114 : isBool Tryz.prog 114 = false := by kernel_rfl
theorem isPtr_114 : isPtr Tryz.prog 114 = false := by kernel_rfl
theorem isU8_114 : isU8 Tryz.prog 114 = false := by kernel_rfl
theorem isIfc_114 : isIfc Tryz.prog 114 = false := by kernel_rfl
theorem ifcT_114 : ifcT Tryz.prog 114 = false := by kernel_rfl
theorem fieldsOk_114 : fieldsOk Tryz.prog 114 = true := by kernel_rfl
theorem seqT_114 : seqT Tryz.prog 114 = false := by kernel_rfl
theorem sliceable_114 : sliceable Tryz.prog 114 = false := by kernel_rfl
theorem szOf_115 : szOf Tryz.prog 115 = 1 := by kernel_rfl
theorem aggT_115 : aggT Tryz.prog 115 = some false := by kernel_rfl
theorem elemT_115 : elemT Tryz.prog 115 = none := by kernel_rfl
theorem bytesOf_115 : bytesOf Tryz.prog 115 = some 8 := by kernel_rfl
theorem zeroOf_115 : zeroOf Tryz.prog 115 = some [A.nilf] := by kernel_rfl
theorem arrT_115 : arrT Tryz.prog 115 = none := by kernel_rfl
theorem isStr_115 : isStr Tryz.prog 115 = false := by kernel_rfl
theorem isBool_115 : isBool Tryz.prog 115 = false := by kernel_rfl
theorem isPtr_115 : isPtr Tryz.prog 115 = false := by kernel_rfl
theorem isU8_115 : isU8 Tryz.prog 115 = false := by kernel_rfl
theorem isIfc_115 : isIfc Tryz.prog 115 = false := by kernel_rfl
theorem ifcT_115 : ifcT Tryz.prog 115 = false := by kernel_rfl
theorem seqT_115 : seqT Tryz.prog 115 = false := by kernel_rfl
theorem sliceable_115 : sliceable Tryz.prog 115 = false := by kernel_rfl
theorem szOf_116 : szOf Tryz.prog 116 = 1 := by kernel_rfl
theorem aggT_116 : aggT Tryz.prog 116 = some false := by kernel_rfl
theorem elemT_116 : elemT Tryz.prog 116 = none := by kernel_rfl
theorem bytesOf_116 : bytesOf Tryz.prog 116 = some 8 := by kernel_rfl
theorem zeroOf_116 : zeroOf Tryz.prog 116 = some [A.nilp] := by kernel_rfl
theorem arrT_116 : arrT Tryz.prog 116 = none := by kernel_rfl
theorem isStr_116 : isStr Tryz.prog 116 = false := by kernel_rfl
theorem isBool_116 : isBool Tryz.prog 116 = false := by kernel_rfl
theorem isPtr_116 : isPtr Tryz.prog 116 = true := by kernel_rfl
theorem isU8_116 : isU8 Tryz.prog 116 = false := by kernel_rfl
theorem isIfc_116 : isIfc Tryz.prog 116 = false := by kernel_rfl
theorem ifcT_116 : ifcT Tryz.prog 116 = false := by kernel_rfl
theorem seqT_116 : seqT Tryz.prog 116 = false := by kernel_rfl
theorem sliceable_116 : sliceable Tryz.prog 116 = false := by kernel_rfl
theorem szOf_117 : szOf Tryz.prog 117 = 1 := by kernel_rfl
theorem aggT_117 : aggT Tryz.prog 117 = some false := by kernel_rfl
theorem elemT_117 : elemT Tryz.prog 117 = none := by kernel_rfl
theorem bytesOf_117 : bytesOf Tryz.prog 117 = some 8 := by kernel_rfl
theorem zeroOf_117 : zeroOf Tryz.prog 117 = some [A.nilf] := by kernel_rfl
theorem arrT_117 : arrT Tryz.prog 117 = none := by kernel_rfl
theorem isStr_117 : isStr Tryz.prog 117 = false := by kernel_rfl
theorem isBool_117 : isBool Tryz.prog 117 = false := by kernel_rfl
theorem isPtr_117 : isPtr Tryz.prog 117 = false := by kernel_rfl
theorem isU8_117 : isU8 Tryz.prog 117 = false := by kernel_rfl
theorem isIfc_117 : isIfc Tryz.prog 117 = false := by kernel_rfl
theorem ifcT_117 : ifcT Tryz.prog 117 = false := by kernel_rfl
theorem seqT_117 : seqT Tryz.prog 117 = false := by kernel_rfl
theorem sliceable_117 : sliceable Tryz.prog 117 = false := by kernel_rfl
theorem szOf_118 : szOf Tryz.prog 118 = 1 := by kernel_rfl
theorem aggT_118 : aggT Tryz.prog 118 = some false := by kernel_rfl
theorem elemT_118 : elemT Tryz.prog 118 = none := by kernel_rfl
theorem bytesOf_118 : bytesOf Tryz.prog 118 = some 8 := by kernel_rfl
theorem zeroOf_118 : zeroOf Tryz.prog 118 = some [A.nilf] := by kernel_rfl
theorem arrT_118 : arrT Tryz.prog 118 = none := by kernel_rfl
theorem isStr_118 : isStr Tryz.prog 118 = false := by kernel_rfl
theorem isBool_118 : isBool Tryz.prog 118 = false := by kernel_rfl
theorem isPtr_118 : isPtr Tryz.prog 118 = false := by kernel_rfl
theorem isU8_118 : isU8 Tryz.prog 118 = false := by kernel_rfl
theorem isIfc_118 : isIfc Tryz.prog 118 = false := by kernel_rfl
theorem ifcT_118 : ifcT Tryz.prog 118 = false := by kernel_rfl
theorem seqT_118 : seqT Tryz.prog 118 = false := by kernel_rfl
theorem sliceable_118 : sliceable Tryz.prog 118 = false := by kernel_rfl
theorem szOf_119 : szOf Tryz.prog 119 = 1 := by kernel_rfl
theorem aggT_119 : aggT Tryz.prog 119 = some false := by kernel_rfl
theorem elemT_119 : elemT Tryz.prog 119 = none := by kernel_rfl
theorem bytesOf_119 : bytesOf Tryz.prog 119 = some 8 := by kernel_rfl
theorem zeroOf_119 : zeroOf Tryz.prog 119 = some [A.nilf] := by kernel_rfl
theorem arrT_119 : arrT Tryz.prog 119 = none := by kernel_rfl
theorem isStr_119 : isStr Tryz.prog 119 = false := by kernel_rfl
theorem isBool_119 : isBool Tryz.prog 119 = false := by kernel_rfl
theorem isPtr_119 : isPtr Tryz.prog 119 = false := by kernel_rfl
theorem isU8_119 : isU8 Tryz.prog 119 = false := by kernel_rfl
theorem isIfc_119 : isIfc Tryz.prog 119 = false := by kernel_rfl
theorem ifcT_119 : ifcT Tryz.prog 119 = false := by kernel_rfl
theorem seqT_119 : seqT Tryz.prog 119 = false := by kernel_rfl
theorem sliceable_119 : sliceable Tryz.prog 119 = false := by kernel_rfl
theorem szOf_120 : szOf Tryz.prog 120 = 1 := by kernel_rfl
theorem aggT_120 : aggT Tryz.prog 120 = some false := by kernel_rfl
theorem elemT_120 : elemT Tryz.prog 120 = none := by kernel_rfl
theorem bytesOf_120 : bytesOf Tryz.prog 120 = some 8 := by kernel_rfl
theorem zeroOf_120 : zeroOf Tryz.prog 120 = some [A.nilf] := by kernel_rfl
theorem arrT_120 : arrT Tryz.prog 120 = none := by kernel_rfl
theorem isStr_120 : isStr Tryz.prog 120 = false := by kernel_rfl
theorem isBool_120 : isBool Tryz.prog 120 = false := by kernel_rfl
theorem isPtr_120 : isPtr Tryz.prog 120 = false := by kernel_rfl
theorem isU8_120 : isU8 Tryz.prog 120 = false := by kernel_rfl
theorem isIfc_120 : isIfc Tryz.prog 120 = false := by kernel_rfl
theorem ifcT_120 : ifcT Tryz.prog 120 = false := by kernel_rfl
theorem seqT_120 : seqT Tryz.prog 120 = false := by kernel_rfl
theorem sliceable_120 : sliceable Tryz.prog 120 = false := by kernel_rfl
theorem szOf_121 : szOf Tryz.prog 121 = 1 := by kernel_rfl
theorem aggT_121 : aggT Tryz.prog 121 = some false := by kernel_rfl
theorem elemT_121 : elemT Tryz.prog 121 = none := by kernel_rfl
theorem bytesOf_121 : bytesOf Tryz.prog 121 = some 8 := by kernel_rfl
theorem zeroOf_121 : zeroOf Tryz.prog 121 = some [A.nilf] := by kernel_rfl
theorem arrT_121 : arrT Tryz.prog 121 = none := by kernel_rfl
theorem isStr_121 : isStr Tryz.prog 121 = false := by kernel_rfl
theorem isBool_121 : isBool Tryz.prog 121 = false := by kernel_rfl
theorem isPtr_121 : isPtr Tryz.prog 121 = false := by kernel_rfl
theorem isU8_121 : isU8 Tryz.prog 121 = false := by kernel_rfl
theorem isIfc_121 : isIfc Tryz.prog 121 = false := by kernel_rfl
theorem ifcT_121 : ifcT Tryz.prog 121 = false := by kernel_rfl
theorem seqT_121 : seqT Tryz.prog 121 = false := by kernel_rfl
theorem sliceable_121 : sliceable Tryz.prog 121 = false := by kernel_rfl
theorem szOf_122 : szOf Tryz.prog 122 = 1 := by kernel_rfl
theorem aggT_122 : aggT Tryz.prog 122 = some false := by kernel_rfl
theorem elemT_122 : elemT Tryz.prog 122 = some 113 := by kernel_rfl
theorem bytesOf_122 : bytesOf Tryz.prog 122 = some 24 := by kernel_rfl
theorem zeroOf_122 : zeroOf Tryz.prog 122 = some [A.nils] := by kernel_rfl
theorem arrT_122 : arrT Tryz.prog 122 = none := by kernel_rfl
theorem isStr_122 : isStr Tryz.prog 122 = false := by kernel_rfl
theorem isBool_122 : isBool Tryz.prog 122 = false := by kernel_rfl
theorem isPtr_122 : isPtr Tryz.prog 122 = false := by kernel_rfl
theorem isU8_122 : isU8 Tryz.prog 122 = false := by kernel_rfl
theorem isIfc_122 : isIfc Tryz.prog 122 = false := by kernel_rfl
theorem ifcT_122 : ifcT Tryz.prog 122 = false := by kernel_rfl
theorem seqT_122 : seqT Tryz.prog 122 = true := by kernel_rfl
theorem sliceable_122 : sliceable Tryz.prog 122 = true := by kernel_rfl
theorem szOf_123 : szOf Tryz.prog 123 = 1 := by kernel_rfl
theorem aggT_123 : aggT Tryz.prog 123 = some false := by kernel_rfl
theorem elemT_123 : elemT Tryz.prog 123 = none := by kernel_rfl
theorem bytesOf_123 : bytesOf Tryz.prog 123 = some 8 := by kernel_rfl
theorem zeroOf_123 : zeroOf Tryz.prog 123 = some [A.nilf] := by kernel_rfl
theorem arrT_123 : arrT Tryz.prog 123 = none := by kernel_rfl
theorem isStr_123 : isStr Tryz.prog 123 = false := by kernel_rfl
theorem isBool_123 : isBool Tryz.prog 123 = false := by kernel_rfl
theorem isPtr_123 : isPtr Tryz.prog 123 = false := by kernel_rfl
theorem isU8_123 : isU8 Tryz.prog 123 = false := by kernel_rfl
theorem isIfc_123 : isIfc Tryz.prog 123 = false := by kernel_rfl
theorem ifcT_123 : ifcT Tryz.prog 123 = false := by kernel_rfl
theorem seqT_123 : seqT Tryz.prog 123 = false := by kernel_rfl
theorem sliceable_123 : sliceable Tryz.prog 123 = false := by kernel_rfl
theorem szOf_125 : szOf Tryz.prog 125 = 1 := by kernel_rfl
theorem aggT_125 : aggT Tryz.prog 125 = some false := by kernel_rfl
theorem elemT_125 : elemT Tryz.prog 125 = none := by kernel_rfl
theorem bytesOf_125 : bytesOf Tryz.prog 125 = some 8 := by kernel_rfl
theorem zeroOf_125 : zeroOf Tryz.prog 125 = some [A.nilp] := by kernel_rfl
theorem arrT_125 : arrT Tryz.prog 125 = none := by kernel_rfl
theorem isStr_125 : isStr Tryz.prog 125 = false := by kernel_rfl
theorem isBool_125 : isBool Tryz.prog 125 = false := by kernel_rfl
theorem isPtr_125 : isPtr Tryz.prog 125 = true := by kernel_rfl
theorem isU8_125 : isU8 Tryz.prog 125 = false := by kernel_rfl
theorem isIfc_125 : isIfc Tryz.prog 125 = false := by kernel_rfl
theorem ifcT_125 : ifcT Tryz.prog 125 = false := by kernel_rfl
theorem seqT_125 : seqT Tryz.prog 125 = false := by kernel_rfl
theorem sliceable_125 : sliceable Tryz.prog 125 = false := by kernel_rfl
theorem szOf_127 : szOf Tryz.prog 127 = 4 := by kernel_rfl
theorem aggT_127 : aggT Tryz.prog 127 = some true := by kernel_rfl
theorem elemT_127 : elemT Tryz.prog 127 = none := by kernel_rfl
theorem bytesOf_127 : bytesOf Tryz.prog 127 = some 48 := by kernel_rfl
theorem zeroOf_127 : zeroOf Tryz.prog 127 = some [A.int .i64 0, A.int .i64 0, A.nils, A.int .i64 0] := by kernel_rfl
theorem arrT_127 : arrT Tryz.prog 127 = none := by kernel_rfl
theorem fieldT_127_0 : fieldT Tryz.prog 127 0 = some (0, 24) := by kernel_rfl
theorem fieldT_127_1 : fieldT Tryz.prog 127 1 = some (3, 3) := by kernel_rfl
theorem isStr_127 : isStr Tryz.prog 127 = false := by kernel_rfl
theorem isBool_127 : isBool Tryz.prog 127 = false := by kernel_rfl
theorem isPtr_127 : isPtr Tryz.prog 127 = false := by kernel_rfl
theorem isU8_127 : isU8 Tryz.prog 127 = false := by kernel_rfl
theorem isIfc_127 : isIfc Tryz.prog 127 = false := by kernel_rfl
theorem ifcT_127 : ifcT Tryz.prog 127 = false := by kernel_rfl
theorem fieldsOk_127 : fieldsOk Tryz.prog 127 = true := by kernel_rfl
theorem seqT_127 : seqT Tryz.prog 127 = false := by kernel_rfl
theorem sliceable_127 : sliceable Tryz.prog 127 = false := by kernel_rfl
theorem szOf_137 : szOf Tryz.prog 137 = 4 := by kernel_rfl
theorem aggT_137 : aggT Tryz.prog 137 = some true := by kernel_rfl
theorem elemT_137 : elemT Tryz.prog 137 = none := by kernel_rfl
theorem bytesOf_137 : bytesOf Tryz.prog 137 = some 64 := by kernel_rfl
theorem zeroOf_137 : zeroOf Tryz.prog 137 = some [A.int .i64 0, A.int .i64 0, A.nils, A.nils] := by kernel_rfl
theorem arrT_137 : arrT Tryz.prog 137 = none := by kernel_rfl
theorem fieldT_137_0 : fieldT Tryz.prog 137 0 = some (0, 44) := by kernel_rfl
theorem isStr_137 : isStr Tryz.prog 137 = false := by kernel_rfl
theorem isBool_137 : isBool Tryz.prog 137 = false := by kernel_rfl
theorem isPtr_137 : isPtr Tryz.prog 137 = false := by kernel_rfl
theorem isU8_137 : isU8 Tryz.prog 137 = false := by kernel_rfl
theorem isIfc_137 : isIfc Tryz.prog 137 = false := by kernel_rfl
theorem ifcT_137 : ifcT Tryz.prog 137 = false := by kernel_rfl
theorem fieldsOk_137 : fieldsOk Tryz.prog 137 = true := by kernel_rfl
theorem seqT_137 : seqT Tryz.prog 137 = false := by kernel_rfl
theorem sliceable_137 : sliceable Tryz.prog 137 = false := by kernel_rfl
theorem szOf_141 : szOf Tryz.prog 141 = 1 := by kernel_rfl
theorem aggT_141 : aggT Tryz.prog 141 = some false := by kernel_rfl
theorem elemT_141 : elemT Tryz.prog 141 = some 89 := by kernel_rfl
theorem bytesOf_141 : bytesOf Tryz.prog 141 = some 24 := by kernel_rfl
theorem zeroOf_141 : zeroOf Tryz.prog 141 = some [A.nils] := by kernel_rfl
theorem arrT_141 : arrT Tryz.prog 141 = none := by kernel_rfl
theorem isStr_141 : isStr Tryz.prog 141 = false := by kernel_rfl
theorem isBool_141 : isBool Tryz.prog 141 = false := by kernel_rfl
theorem isPtr_141 : isPtr Tryz.prog 141 = false := by kernel_rfl
theorem isU8_141 : isU8 Tryz.prog 141 = false := by kernel_rfl
theorem isIfc_141 : isIfc Tryz.prog 141 = false := by kernel_rfl
theorem ifcT_141 : ifcT Tryz.prog 141 = false := by kernel_rfl
theorem seqT_141 : seqT Tryz.prog 141 = true := by kernel_rfl
theorem sliceable_141 : sliceable Tryz.prog 141 = true := by kernel_rfl
theorem szOf_142 : szOf Tryz.prog 142 = 1 := by kernel_rfl
theorem aggT_142 : aggT Tryz.prog 142 = some false := by kernel_rfl
theorem elemT_142 : elemT Tryz.prog 142 = none := by kernel_rfl
theorem bytesOf_142 : bytesOf Tryz.prog 142 = some 8 := by kernel_rfl
theorem zeroOf_142 : zeroOf Tryz.prog 142 = some [A.nilf] := by kernel_rfl
theorem arrT_142 : arrT Tryz.prog 142 = none := by kernel_rfl
theorem isStr_142 : isStr Tryz.prog 142 = false := by kernel_rfl
theorem isBool_142 : isBool Tryz.prog 142 = false := by kernel_rfl
theorem isPtr_142 : isPtr Tryz.prog 142 = false := by kernel_rfl
theorem isU8_142 : isU8 Tryz.prog 142 = false := by kernel_rfl
theorem isIfc_142 : isIfc Tryz.prog 142 = false := by kernel_rfl
theorem ifcT_142 : ifcT Tryz.prog 142 = false := by kernel_rfl
theorem seqT_142 : seqT Tryz.prog 142 = false := by kernel_rfl
theorem sliceable_142 : sliceable Tryz.prog 142 = false := by kernel_rfl
theorem szOf_144 : szOf Tryz.prog 144 = 1 := by kernel_rfl
theorem aggT_144 : aggT Tryz.prog 144 = some false := by kernel_rfl
theorem elemT_144 : elemT Tryz.prog 144 = none := by kernel_rfl
theorem bytesOf_144 : bytesOf Tryz.prog 144 = some 8 := by kernel_rfl
theorem zeroOf_144 : zeroOf Tryz.prog 144 = some [A.nilf] := by kernel_rfl
theorem arrT_144 : arrT Tryz.prog 144 = none := by kernel_rfl
theorem isStr_144 : isStr Tryz.prog 144 = false := by kernel_rfl
theorem isBool_144 : isBool Tryz.prog 144 = false := by kernel_rfl
theorem isPtr_144 : isPtr Tryz.prog 144 = false := by kernel_rfl
theorem isU8_144 : isU8 Tryz.prog 144 = false := by kernel_rfl
theorem isIfc_144 : isIfc Tryz.prog 144 = false := by kernel_rfl
theorem ifcT_144 : ifcT Tryz.prog 144 = false := by kernel_rfl
theorem seqT_144 : seqT Tryz.prog 144 = false := by kernel_rfl
theorem sliceable_144 : sliceable Tryz.prog 144 = false := by kernel_rfl
theorem szOf_146 : szOf Tryz.prog 146 = 1 := by kernel_rfl
theorem aggT_146 : aggT Tryz.prog 146 = some false := by kernel_rfl
theorem elemT_146 : elemT Tryz.prog 146 = none := by kernel_rfl
theorem bytesOf_146 : bytesOf Tryz.prog 146 = some 8 := by kernel_rfl
theorem zeroOf_146 : zeroOf Tryz.prog 146 = some [A.nilf] := by kernel_rfl
theorem arrT_146 : arrT Tryz.prog 146 = none := by kernel_rfl
theorem isStr_146 : isStr Tryz.prog 146 = false := by kernel_rfl
theorem isBool_146 : isBool Tryz.prog 146 = false := by kernel_rfl
theorem isPtr_146 : isPtr Tryz.prog 146 = false := by kernel_rfl
theorem isU8_146 : isU8 Tryz.prog 146 = false := by kernel_rfl
theorem isIfc_146 : isIfc Tryz.prog 146 = false := by kernel_rfl
theorem ifcT_146 : ifcT Tryz.prog 146 = false := by kernel_rfl
theorem seqT_146 : seqT Tryz.prog 146 = false := by kernel_rfl
theorem sliceable_146 : sliceable Tryz.prog 146 = false := by kernel_rfl
theorem szOf_147 : szOf Tryz.prog 147 = 1 := by kernel_rfl
theorem aggT_147 : aggT Tryz.prog 147 = some false := by kernel_rfl
theorem elemT_147 : elemT Tryz.prog 147 = none := by kernel_rfl
theorem bytesOf_147 : bytesOf Tryz.prog 147 = some 8 := by kernel_rfl
theorem zeroOf_147 : zeroOf Tryz.prog 147 = some [A.nilf] := by kernel_rfl
theorem arrT_147 : arrT Tryz.prog 147 = none := by kernel_rfl
theorem isStr_147 : isStr Tryz.prog 147 = false := by kernel_rfl
theorem isBool_147 : isBool Tryz.prog 147 = false := by kernel_rfl
theorem isPtr_147 : isPtr Tryz.prog 147 = false := by kernel_rfl
theorem isU8_147 : isU8 Tryz.prog 147 = false := by kernel_rfl
theorem isIfc_147 : isIfc Tryz.prog 147 = false := by kernel_rfl
theorem ifcT_147 : ifcT Tryz.prog 147 = false := by kernel_rfl
theorem seqT_147 : seqT Tryz.prog 147 = false := by kernel_rfl
theorem sliceable_147 : sliceable Tryz.prog 147 = false := by kernel_rfl
theorem szOf_151 : szOf Tryz.prog 151 = 0 := by kernel_rfl
theorem aggT_151 : aggT Tryz.prog 151 = some true := by kernel_rfl
theorem elemT_151 : elemT Tryz.prog 151 = none := by kernel_rfl
theorem bytesOf_151 : bytesOf Tryz.prog 151 = some 0 := by kernel_rfl
theorem zeroOf_151 : zeroOf Tryz.prog 151 = some [] := by kernel_rfl
theorem arrT_151 : arrT Tryz.prog 151 = none := by kernel_rfl
theorem isStr_151 : isStr Tryz.prog 151 = false := by kernel_rfl
theorem isBool_151 : isBool Tryz.prog 151 = false := by kernel_rfl
theorem isPtr_151 : isPtr Tryz.prog 151 = false := by kernel_rfl
theorem isU8_151 : isU8 Tryz.prog 151 = false := by kernel_rfl
theorem isIfc_151 : isIfc Tryz.prog 151 = false := by kernel_rfl
theorem ifcT_151 : ifcT Tryz.prog 151 = false := by kernel_rfl
theorem fieldsOk_151 : fieldsOk Tryz.prog 151 = true := by kernel_rfl
theorem seqT_151 : seqT Tryz.prog 151 = false := by kernel_rfl
theorem sliceable_151 : sliceable Tryz.prog 151 = false := by kernel_rfl
theorem szOf_153 : szOf Tryz.prog 153 = 1 := by kernel_rfl
theorem aggT_153 : aggT Tryz.prog 153 = some false := by kernel_rfl
theorem elemT_153 : elemT Tryz.prog 153 = none := by kernel_rfl
theorem bytesOf_153 : bytesOf Tryz.prog 153 = some 8 := by kernel_rfl
theorem zeroOf_153 : zeroOf Tryz.prog 153 = some [A.nilp] := by kernel_rfl
theorem arrT_153 : arrT Tryz.prog 153 = none := by kernel_rfl
theorem isStr_153 : isStr Tryz.prog 153 = false := by kernel_rfl
theorem isBool_153 : isBool Tryz.prog 153 = false := by kernel_rfl
theorem isPtr_153 : isPtr Tryz.prog 153 = true := by kernel_rfl
theorem isU8_153 : isU8 Tryz.prog 153 = false := by kernel_rfl
theorem isIfc_153 : isIfc Tryz.prog 153 = false := by kernel_rfl
theorem ifcT_153 : ifcT Tryz.prog 153 = false := by kernel_rfl
theorem seqT_153 : seqT Tryz.prog 153 = false := by kernel_rfl
theorem sliceable_153 : sliceable Tryz.prog 153 = false := by kernel_rfl
theorem szOf_155 : szOf Tryz.prog 155 = 1 := by kernel_rfl
theorem aggT_155 : aggT Tryz.prog 155 = some true := by kernel_rfl
theorem elemT_155 : elemT Tryz.prog 155 = none := by kernel_rfl
theorem bytesOf_155 : bytesOf Tryz.prog 155 = some 16 := by kernel_rfl
theorem zeroOf_155 : zeroOf Tryz.prog 155 = some [A.str []] := by kernel_rfl
theorem arrT_155 : arrT Tryz.prog 155 = none := by kernel_rfl
theorem fieldT_155_0 : fieldT Tryz.prog 155 0 = some (0, 9) := by kernel_rfl
theorem isStr_155 : isStr Tryz.prog 155 = false := by kernel_rfl
theorem isBool_155 : isBool Tryz.prog 155 = false := by kernel_rfl
theorem isPtr_155 : isPtr Tryz.prog 155 = false := by kernel_rfl
theorem isU8_155 : isU8 Tryz.prog 155 = false := by kernel_rfl
theorem isIfc_155 : isIfc Tryz.prog 155 = false := by kernel_rfl
theorem ifcT_155 : ifcT Tryz.prog 155 = false := by kernel_rfl
theorem fieldsOk_155 : fieldsOk Tryz.prog 155 = true := by kernel_rfl
theorem seqT_155 : seqT Tryz.prog 155 = false := by kernel_rfl
theorem sliceable_155 : sliceable Tryz.prog 155 = false := by kernel_rfl
theorem szOf_158 : szOf Tryz.prog 158 = 0 := by kernel_rfl
theorem aggT_158 : aggT Tryz.prog 158 = some true := by kernel_rfl
theorem elemT_158 : elemT Tryz.prog 158 = none := by kernel_rfl
theorem bytesOf_158 : bytesOf Tryz.prog 158 = some 0 := by kernel_rfl
theorem zeroOf_158 : zeroOf Tryz.prog 158 = some [] := by kernel_rfl
theorem arrT_158 : arrT Tryz.prog 158 = none := by kernel_rfl
theorem isStr_158 : isStr Tryz.prog 158 = false := by kernel_rfl
theorem isBool_158 : isBool Tryz.prog 158 = false := by kernel_rfl
theorem isPtr_158 : isPtr Tryz.prog 158 = false := by kernel_rfl
theorem isU8_158 : isU8 Tryz.prog 158 = false := by kernel_rfl
theorem isIfc_158 : isIfc Tryz.prog 158 = false := by kernel_rfl
theorem ifcT_158 : ifcT Tryz.prog 158 = false := by kernel_rfl
theorem fieldsOk_158 : fieldsOk Tryz.prog 158 = true := by kernel_rfl
theorem seqT_158 : seqT Tryz.prog 158 = false := by kernel_rfl
theorem sliceable_158 : sliceable Tryz.prog 158 = false := by kernel_rfl
theorem szOf_160 : szOf Tryz.prog 160 = 1 := by kernel_rfl
theorem aggT_160 : aggT Tryz.prog 160 = some false := by kernel_rfl
theorem elemT_160 : elemT Tryz.prog 160 = none := by kernel_rfl
theorem bytesOf_160 : bytesOf Tryz.prog 160 = some 8 := by kernel_rfl
theorem zeroOf_160 : zeroOf Tryz.prog 160 = some [A.nilp] := by kernel_rfl
theorem arrT_160 : arrT Tryz.prog 160 = none := by kernel_rfl
theorem isStr_160 : isStr Tryz.prog 160 = false := by kernel_rfl
theorem isBool_160 : isBool Tryz.prog 160 = false := by kernel_rfl
theorem isPtr_160 : isPtr Tryz.prog 160 = true := by kernel_rfl
theorem isU8_160 : isU8 Tryz.prog 160 = false := by kernel_rfl
theorem isIfc_160 : isIfc Tryz.prog 160 = false := by kernel_rfl
theorem ifcT_160 : ifcT Tryz.prog 160 = false := by kernel_rfl
theorem seqT_160 : seqT Tryz.prog 160 = false := by kernel_rfl
theorem sliceable_160 : sliceable Tryz.prog 160 = false := by kernel_rfl
theorem szOf_162 : szOf Tryz.prog 162 = 1 := by kernel_rfl
theorem aggT_162 : aggT Tryz.prog 162 = some true := by kernel_rfl
theorem elemT_162 : elemT Tryz.prog 162 = none := by kernel_rfl
theorem bytesOf_162 : bytesOf Tryz.prog 162 = some 16 := by kernel_rfl
theorem zeroOf_162 : zeroOf Tryz.prog 162 = some [A.str []] := by kernel_rfl
theorem arrT_162 : arrT Tryz.prog 162 = none := by kernel_rfl
theorem fieldT_162_0 : fieldT Tryz.prog 162 0 = some (0, 9) := by kernel_rfl
theorem isStr_162 : isStr Tryz.prog 162 = false := by kernel_rfl
theorem isBool_162 : isBool Tryz.prog 162 = false := by kernel_rfl
theorem isPtr_162 : isPtr Tryz.prog 162 = false := by kernel_rfl
theorem isU8_162 : isU8 Tryz.prog 162 = false := by kernel_rfl
theorem isIfc_162 : isIfc Tryz.prog 162 = false := by kernel_rfl
theorem ifcT_162 : ifcT Tryz.prog 162 = false := by kernel_rfl
theorem fieldsOk_162 : fieldsOk Tryz.prog 162 = true := by kernel_rfl
theorem seqT_162 : seqT Tryz.prog 162 = false := by kernel_rfl
theorem sliceable_162 : sliceable Tryz.prog 162 = false := by kernel_rfl
theorem szOf_165 : szOf Tryz.prog 165 = 2 := by kernel_rfl
theorem aggT_165 : aggT Tryz.prog 165 = some true := by kernel_rfl
theorem elemT_165 : elemT Tryz.prog 165 = none := by kernel_rfl
theorem bytesOf_165 : bytesOf Tryz.prog 165 = some 16 := by kernel_rfl
theorem zeroOf_165 : zeroOf Tryz.prog 165 = some [A.int .i64 0, A.int .i64 0] := by kernel_rfl
theorem arrT_165 : arrT Tryz.prog 165 = none := by kernel_rfl
theorem fieldT_165_0 : fieldT Tryz.prog 165 0 = some (0, 3) := by kernel_rfl
theorem fieldT_165_1 : fieldT Tryz.prog 165 1 = some (1, 3) := by kernel_rfl
theorem isStr_165 : isStr Tryz.prog 165 = false := by kernel_rfl
theorem isBool_165 : isBool Tryz.prog 165 = false := by kernel_rfl
theorem isPtr_165 : isPtr Tryz.prog 165 = false := by kernel_rfl
theorem isU8_165 : isU8 Tryz.prog 165 = false := by kernel_rfl
theorem isIfc_165 : isIfc Tryz.prog 165 = false := by kernel_rfl
theorem ifcT_165 : ifcT Tryz.prog 165 = false := by kernel_rfl
theorem fieldsOk_165 : fieldsOk Tryz.prog 165 = true := by kernel_rfl
theorem seqT_165 : seqT Tryz.prog 165 = false := by kernel_rfl
theorem sliceable_165 : sliceable Tryz.prog 165 = false := by kernel_rfl
theorem szOf_166 : szOf Tryz.prog 166 = 16 := by kernel_rfl
theorem aggT_166 : aggT Tryz.prog 166 = some true := by kernel_rfl
theorem elemT_166 : elemT Tryz.prog 166 = none := by kernel_rfl
theorem bytesOf_166 : bytesOf Tryz.prog 166 = some 128 := by kernel_rfl
theorem zeroOf_166 : zeroOf Tryz.prog 166 = some [A.int .i64 0, A.int .i64 0, A.int .i64 0, A.int .i64 0, A.int .i64 0, A.int .i64 0, A.int .i64 0, A.int .i64 0, A.int .i64 0, A.int .i64 0, A.int .i64 0, A.int .i64 0, A.int .i64 0, A.int .i64 0, A.int .i64 0, A.int .i64 0] := by kernel_rfl
theorem arrT_166 : arrT Tryz.prog 166 = some (8, 165) := by kernel_rfl
theorem isStr_166 : isStr Tryz.prog 166 = false := by kernel_rfl
theorem isBool_166 : isBool Tryz.prog 166 = false := by kernel_rfl
theorem isPtr_166 : isPtr Tryz.prog 166 = false := by kernel_rfl
theorem isU8_166 : isU8 Tryz.prog 166 = false := by kernel_rfl
theorem isIfc_166 : isIfc Tryz.prog 166 = false := by kernel_rfl
theorem ifcT_166 : ifcT Tryz.prog 166 = false := by kernel_rfl
theorem fieldsOk_166 : fieldsOk Tryz.prog 166 = true := by kernel_rfl
theorem seqT_166 : seqT Tryz.prog 166 = false := by kernel_rfl
theorem sliceable_166 : sliceable Tryz.prog 166 = false := by kernel_rfl
theorem szOf_168 : szOf Tryz.prog 168 = 1 := by kernel_rfl
theorem aggT_168 : aggT Tryz.prog 168 = some false := by kernel_rfl
theorem elemT_168 : elemT Tryz.prog 168 = none := by kernel_rfl
theorem bytesOf_168 : bytesOf Tryz.prog 168 = some 16 := by kernel_rfl
theorem zeroOf_168 : zeroOf Tryz.prog 168 = some [A.nili] := by kernel_rfl
theorem arrT_168 : arrT Tryz.prog 168 = none := by kernel_rfl
theorem isStr_168 : isStr Tryz.prog 168 = false := by kernel_rfl
theorem isBool_168 : isBool Tryz.prog 168 = false := by kernel_rfl
theorem isPtr_168 : isPtr Tryz.prog 168 = false := by kernel_rfl
theorem isU8_168 : isU8 Tryz.prog 168 = false := by kernel_rfl
theorem isIfc_168 : isIfc Tryz.prog 168 = true := by kernel_rfl
theorem ifcT_168 : ifcT Tryz.prog 168 = true := by kernel_rfl
theorem seqT_168 : seqT Tryz.prog 168 = false := by kernel_rfl
theorem sliceable_168 : sliceable Tryz.prog 168 = false := by kernel_rfl
theorem szOf_171 : szOf Tryz.prog 171 = 1 := by kernel_rfl
theorem aggT_171 : aggT Tryz.prog 171 = some false := by kernel_rfl
theorem elemT_171 : elemT Tryz.prog 171 = none := by kernel_rfl
theorem bytesOf_171 : bytesOf Tryz.prog 171 = some 8 := by kernel_rfl
theorem zeroOf_171 : zeroOf Tryz.prog 171 = some [A.nilp] := by kernel_rfl
theorem arrT_171 : arrT Tryz.prog 171 = none := by kernel_rfl
theorem isStr_171 : isStr Tryz.prog 171 = false := by kernel_rfl
theorem isBool_171 : isBool Tryz.prog 171 = false := by kernel_rfl
theorem isPtr_171 : isPtr Tryz.prog 171 = true := by kernel_rfl
theorem isU8_171 : isU8 Tryz.prog 171 = false := by kernel_rfl
theorem isIfc_171 : isIfc Tryz.prog 171 = false := by kernel_rfl
theorem ifcT_171 : ifcT Tryz.prog 171 = false := by kernel_rfl
theorem seqT_171 : seqT Tryz.prog 171 = false := by kernel_rfl
theorem sliceable_171 : sliceable Tryz.prog 171 = false := by kernel_rfl
theorem szOf_173 : szOf Tryz.prog 173 = 1 := by kernel_rfl
theorem aggT_173 : aggT Tryz.prog 173 = some false := by kernel_rfl
theorem elemT_173 : elemT Tryz.prog 173 = none := by kernel_rfl
theorem bytesOf_173 : bytesOf Tryz.prog 173 = some 8 := by kernel_rfl
theorem zeroOf_173 : zeroOf Tryz.prog 173 = some [A.nilf] := by kernel_rfl
theorem arrT_173 : arrT Tryz.prog 173 = none := by kernel_rfl
theorem isStr_173 : isStr Tryz.prog 173 = false := by kernel_rfl
theorem isBool_173 : isBool Tryz.prog 173 = false := by kernel_rfl
theorem isPtr_173 : isPtr Tryz.prog 173 = false := by kernel_rfl
theorem isU8_173 : isU8 Tryz.prog 173 = false := by kernel_rfl
theorem isIfc_173 : isIfc Tryz.prog 173 = false := by kernel_rfl
theorem ifcT_173 : ifcT Tryz.prog 173 = false := by kernel_rfl
theorem seqT_173 : seqT Tryz.prog 173 = false := by kernel_rfl
theorem sliceable_173 : sliceable Tryz.prog 173 = false := by kernel_rfl
theorem szOf_177 : szOf Tryz.prog 177 = 1 := by kernel_rfl
theorem aggT_177 : aggT Tryz.prog 177 = some false := by kernel_rfl
theorem elemT_177 : elemT Tryz.prog 177 = none := by kernel_rfl
theorem bytesOf_177 : bytesOf Tryz.prog 177 = some 8 := by kernel_rfl
theorem zeroOf_177 : zeroOf Tryz.prog 177 = some [A.nilf] := by kernel_rfl
theorem arrT_177 : arrT Tryz.prog 177 = none := by kernel_rfl
theorem isStr_177 : isStr Tryz.prog 177 = false := by kernel_rfl
theorem isBool_177 : isBool Tryz.prog 177 = false := by kernel_rfl
theorem isPtr_177 : isPtr Tryz.prog 177 = false := by kernel_rfl
theorem isU8_177 : isU8 Tryz.prog 177 = false := by kernel_rfl
theorem isIfc_177 : isIfc Tryz.prog 177 = false := by kernel_rfl
theorem ifcT_177 : ifcT Tryz.prog 177 = false := by kernel_rfl
theorem seqT_177 : seqT Tryz.prog 177 = false := by kernel_rfl
theorem sliceable_177 : sliceable Tryz.prog 177 = false := by kernel_rfl
theorem szOf_178 : szOf Tryz.prog 178 = 1 := by kernel_rfl
theorem aggT_178 : aggT Tryz.prog 178 = some false := by kernel_rfl
theorem elemT_178 : elemT Tryz.prog 178 = none := by kernel_rfl
theorem bytesOf_178 : bytesOf Tryz.prog 178 = some 8 := by kernel_rfl
theorem zeroOf_178 : zeroOf Tryz.prog 178 = some [A.nilf] := by kernel_rfl
theorem arrT_178 : arrT Tryz.prog 178 = none := by kernel_rfl
theorem isStr_178 : isStr Tryz.prog 178 = false := by kernel_rfl
theorem isBool_178 : isBool Tryz.prog 178 = false := by kernel_rfl
theorem isPtr_178 : isPtr Tryz.prog 178 = false := by kernel_rfl
theorem isU8_178 : isU8 Tryz.prog 178 = false := by kernel_rfl
theorem isIfc_178 : isIfc Tryz.prog 178 = false := by kernel_rfl
theorem ifcT_178 : ifcT Tryz.prog 178 = false := by kernel_rfl
theorem seqT_178 : seqT Tryz.prog 178 = false := by kernel_rfl
theorem sliceable_178 : sliceable Tryz.prog 178 = false := by kernel_rfl
theorem szOf_183 : szOf Tryz.prog 183 = 1 := by kernel_rfl
theorem aggT_183 : aggT Tryz.prog 183 = some false := by kernel_rfl
theorem elemT_183 : elemT Tryz.prog 183 = none := by kernel_rfl
theorem bytesOf_183 : bytesOf Tryz.prog 183 = some 8 := by kernel_rfl
theorem zeroOf_183 : zeroOf Tryz.prog 183 = some [A.nilf] := by kernel_rfl
theorem arrT_183 : arrT Tryz.prog 183 = none := by kernel_rfl
theorem isStr_183 : isStr Tryz.prog 183 = false := by kernel_rfl
theorem isBool_183 : isBool Tryz.prog 183 = false := by kernel_rfl
theorem isPtr_183 : isPtr Tryz.prog 183 = false := by kernel_rfl
theorem isU8_183 : isU8 Tryz.prog 183 = false := by kernel_rfl
theorem isIfc_183 : isIfc Tryz.prog 183 = false := by kernel_rfl
theorem ifcT_183 : ifcT Tryz.prog 183 = false := by kernel_rfl
theorem seqT_183 : seqT Tryz.prog 183 = false := by kernel_rfl
theorem sliceable_183 : sliceable Tryz.prog 183 = false := by kernel_rfl
theorem szOf_189 : szOf Tryz.prog 189 = 256 := by kernel_rfl
theorem aggT_189 : aggT Tryz.prog 189 = some true := by kernel_rfl
theorem elemT_189 : elemT Tryz.prog 189 = none := by kernel_rfl
theorem bytesOf_189 : bytesOf Tryz.prog 189 = some 256 := by kernel_rfl
theorem arrT_189 : arrT Tryz.prog 189 = some (256, 4) := by kernel_rfl
theorem isStr_189 : isStr Tryz.prog 189 = false := by kernel_rfl
theorem isBool_189 : isBool Tryz.prog 189 = false := by kernel_rfl
theorem isPtr_189 : isPtr Tryz.prog 189 = false := by kernel_rfl
theorem isU8_189 : isU8 Tryz.prog 189 = false := by kernel_rfl
theorem isIfc_189 : isIfc Tryz.prog 189 = false := by kernel_rfl
theorem ifcT_189 : ifcT Tryz.prog 189 = false := by kernel_rfl
theorem fieldsOk_189 : fieldsOk Tryz.prog 189 = true := by kernel_rfl
theorem seqT_189 : seqT Tryz.prog 189 = false := by kernel_rfl
theorem sliceable_189 : sliceable Tryz.prog 189 = false := by kernel_rfl
theorem szOf_193 : szOf Tryz.prog 193 = 1 := by kernel_rfl
theorem aggT_193 : aggT Tryz.prog 193 = some false := by kernel_rfl
theorem elemT_193 : elemT Tryz.prog 193 = none := by kernel_rfl
theorem bytesOf_193 : bytesOf Tryz.prog 193 = some 8 := by kernel_rfl
theorem zeroOf_193 : zeroOf Tryz.prog 193 = some [A.nilp] := by kernel_rfl
theorem arrT_193 : arrT Tryz.prog 193 = none := by kernel_rfl
theorem isStr_193 : isStr Tryz.prog 193 = false := by kernel_rfl
theorem isBool_193 : isBool Tryz.prog 193 = false := by kernel_rfl
theorem isPtr_193 : isPtr Tryz.prog 193 = true := by kernel_rfl
theorem isU8_193 : isU8 Tryz.prog 193 = false := by kernel_rfl
theorem isIfc_193 : isIfc Tryz.prog 193 = false := by kernel_rfl
theorem ifcT_193 : ifcT Tryz.prog 193 = false := by kernel_rfl
theorem seqT_193 : seqT Tryz.prog 193 = false := by kernel_rfl
theorem sliceable_193 : sliceable Tryz.prog 193 = false := by kernel_rfl
theorem szOf_197 : szOf Tryz.prog 197 = 1 := by kernel_rfl
theorem aggT_197 : aggT Tryz.prog 197 = some false := by kernel_rfl
theorem elemT_197 : elemT Tryz.prog 197 = none := by kernel_rfl
theorem bytesOf_197 : bytesOf Tryz.prog 197 = some 8 := by kernel_rfl
theorem zeroOf_197 : zeroOf Tryz.prog 197 = some [A.nilp] := by kernel_rfl
theorem arrT_197 : arrT Tryz.prog 197 = none := by kernel_rfl
theorem isStr_197 : isStr Tryz.prog 197 = false := by kernel_rfl
theorem isBool_197 : isBool Tryz.prog 197 = false := by kernel_rfl
theorem isPtr_197 : isPtr Tryz.prog 197 = true := by kernel_rfl
theorem isU8_197 : isU8 Tryz.prog 197 = false := by kernel_rfl
theorem isIfc_197 : isIfc Tryz.prog 197 = false := by kernel_rfl
theorem ifcT_197 : ifcT Tryz.prog 197 = false := by kernel_rfl
theorem seqT_197 : seqT Tryz.prog 197 = false := by kernel_rfl
theorem sliceable_197 : sliceable Tryz.prog 197 = false := by kernel_rfl
theorem szOf_199 : szOf Tryz.prog 199 = 3 := by kernel_rfl
theorem aggT_199 : aggT Tryz.prog 199 = some true := by kernel_rfl
theorem elemT_199 : elemT Tryz.prog 199 = none := by kernel_rfl
theorem bytesOf_199 : bytesOf Tryz.prog 199 = some 24 := by kernel_rfl
theorem zeroOf_199 : zeroOf Tryz.prog 199 = some [A.int .i64 0, A.int .i64 0, A.bool false] := by kernel_rfl
theorem arrT_199 : arrT Tryz.prog 199 = none := by kernel_rfl
theorem fieldT_199_0 : fieldT Tryz.prog 199 0 = some (0, 3) := by kernel_rfl
theorem fieldT_199_1 : fieldT Tryz.prog 199 1 = some (1, 3) := by kernel_rfl
theorem fieldT_199_2 : fieldT Tryz.prog 199 2 = some (2, 4) := by kernel_rfl
theorem isStr_199 : isStr Tryz.prog 199 = false := by kernel_rfl
theorem isBool_199 : isBool Tryz.prog 199 = false := by kernel_rfl
theorem isPtr_199 : isPtr Tryz.prog 199 = false := by kernel_rfl
theorem isU8_199 : isU8 Tryz.prog 199 = false := by kernel_rfl
theorem isIfc_199 : isIfc Tryz.prog 199 = false := by kernel_rfl
theorem ifcT_199 : ifcT Tryz.prog 199 = false := by kernel_rfl
theorem fieldsOk_199 : fieldsOk Tryz.prog 199 = true := by kernel_rfl
theorem seqT_199 : seqT Tryz.prog 199 = false := by kernel_rfl
theorem sliceable_199 : sliceable Tryz.prog 199 = false := by kernel_rfl
theorem szOf_207 : szOf Tryz.prog 207 = 1 := by kernel_rfl
theorem aggT_207 : aggT Tryz.prog 207 = some false := by kernel_rfl
theorem elemT_207 : elemT Tryz.prog 207 = some 209 := by kernel_rfl
theorem bytesOf_207 : bytesOf Tryz.prog 207 = some 24 := by kernel_rfl
theorem zeroOf_207 : zeroOf Tryz.prog 207 = some [A.nils] := by kernel_rfl
theorem arrT_207 : arrT Tryz.prog 207 = none := by kernel_rfl
theorem isStr_207 : isStr Tryz.prog 207 = false := by kernel_rfl
theorem isBool_207 : isBool Tryz.prog 207 = false := by kernel_rfl
theorem isPtr_207 : isPtr Tryz.prog 207 = false := by kernel_rfl
theorem isU8_207 : isU8 Tryz.prog 207 = false := by kernel_rfl
theorem isIfc_207 : isIfc Tryz.prog 207 = false := by kernel_rfl
theorem ifcT_207 : ifcT Tryz.prog 207 = false := by kernel_rfl
theorem seqT_207 : seqT Tryz.prog 207 = true := by kernel_rfl
theorem sliceable_207 : sliceable Tryz.prog 207 = true := by kernel_rfl
theorem szOf_209 : szOf Tryz.prog 209 = 4 := by kernel_rfl
theorem aggT_209 : aggT Tryz.prog 209 = some true := by kernel_rfl
theorem elemT_209 : elemT Tryz.prog 209 = none := by kernel_rfl
theorem bytesOf_209 : bytesOf Tryz.prog 209 = some 64 := by kernel_rfl
theorem zeroOf_209 : zeroOf Tryz.prog 209 = some [A.int .i64 0, A.nils, A.nils, A.int .i64 0] := by kernel_rfl
theorem arrT_209 : arrT Tryz.prog 209 = none := by kernel_rfl
theorem fieldT_209_0 : fieldT Tryz.prog 209 0 = some (0, 92) := by kernel_rfl
theorem fieldT_209_1 : fieldT Tryz.prog 209 1 = some (3, 3) := by kernel_rfl
theorem isStr_209 : isStr Tryz.prog 209 = false := by kernel_rfl
theorem isBool_209 : isBool Tryz.prog 209 = false := by kernel_rfl
theorem isPtr_209 : isPtr Tryz.prog 209 = false := by kernel_rfl
theorem isU8_209 : isU8 Tryz.prog 209 = false := by kernel_rfl
theorem isIfc_209 : isIfc Tryz.prog 209 = false := by kernel_rfl
theorem ifcT_209 : ifcT Tryz.prog 209 = false := by kernel_rfl
theorem fieldsOk_209 : fieldsOk Tryz.prog 209 = true := by kernel_rfl
theorem seqT_209 : seqT Tryz.prog 209 = false := by kernel_rfl
theorem sliceable_209 : sliceable Tryz.prog 209 = false := by kernel_rfl
theorem szOf_211 : szOf Tryz.prog 211 = 1 := by kernel_rfl
theorem aggT_211 : aggT Tryz.prog 211 = some false := by kernel_rfl
theorem elemT_211 : elemT Tryz.prog 211 = none := by kernel_rfl
theorem bytesOf_211 : bytesOf Tryz.prog 211 = some 8 := by kernel_rfl
theorem zeroOf_211 : zeroOf Tryz.prog 211 = some [A.nilf] := by kernel_rfl
theorem arrT_211 : arrT Tryz.prog 211 = none := by kernel_rfl
theorem isStr_211 : isStr Tryz.prog 211 = false := by kernel_rfl
theorem isBool_211 : isBool Tryz.prog 211 = false := by kernel_rfl
theorem isPtr_211 : isPtr Tryz.prog 211 = false := by kernel_rfl
theorem isU8_211 : isU8 Tryz.prog 211 = false := by kernel_rfl
theorem isIfc_211 : isIfc Tryz.prog 211 = false := by kernel_rfl
theorem ifcT_211 : ifcT Tryz.prog 211 = false := by kernel_rfl
theorem seqT_211 : seqT Tryz.prog 211 = false := by kernel_rfl
theorem sliceable_211 : sliceable Tryz.prog 211 = false := by kernel_rfl
theorem szOf_218 : szOf Tryz.prog 218 = 24 := by kernel_rfl
theorem aggT_218 : aggT Tryz.prog 218 = some true := by kernel_rfl
theorem elemT_218 : elemT Tryz.prog 218 = none := by kernel_rfl
theorem bytesOf_218 : bytesOf Tryz.prog 218 = some 24 := by kernel_rfl
theorem zeroOf_218 : zeroOf Tryz.prog 218 = some [A.int .u8 0, A.int .u8 0, A.int .u8 0, A.int .u8 0, A.int .u8 0, A.int .u8 0, A.int .u8 0, A.int .u8 0, A.int .u8 0, A.int .u8 0, A.int .u8 0, A.int .u8 0, A.int .u8 0, A.int .u8 0, A.int .u8 0, A.int .u8 0, A.int .u8 0, A.int .u8 0, A.int .u8 0, A.int .u8 0, A.int .u8 0, A.int .u8 0, A.int .u8 0, A.int .u8 0] := by kernel_rfl
theorem arrT_218 : arrT Tryz.prog 218 = some (24, 5) := by kernel_rfl
theorem isStr_218 : isStr Tryz.prog 218 = false := by kernel_rfl
theorem isBool_218 : isBool Tryz.prog 218 = false := by kernel_rfl
theorem isPtr_218 : isPtr Tryz.prog 218 = false := by kernel_rfl
theorem isU8_218 : isU8 Tryz.prog 218 = false := by kernel_rfl
theorem isIfc_218 : isIfc Tryz.prog 218 = false := by kernel_rfl
theorem ifcT_218 : ifcT Tryz.prog 218 = false := by kernel_rfl
theorem fieldsOk_218 : fieldsOk Tryz.prog 218 = true := by kernel_rfl
theorem seqT_218 : seqT Tryz.prog 218 = false := by kernel_rfl
theorem sliceable_218 : sliceable Tryz.prog 218 = false := by kernel_rfl
theorem szOf_219 : szOf Tryz.prog 219 = 1 := by kernel_rfl
theorem aggT_219 : aggT Tryz.prog 219 = some false := by kernel_rfl
theorem elemT_219 : elemT Tryz.prog 219 = none := by kernel_rfl
theorem bytesOf_219 : bytesOf Tryz.prog 219 = some 8 := by kernel_rfl
theorem zeroOf_219 : zeroOf Tryz.prog 219 = some [A.int .u64 0] := by kernel_rfl
theorem arrT_219 : arrT Tryz.prog 219 = none := by kernel_rfl
theorem isStr_219 : isStr Tryz.prog 219 = false := by kernel_rfl
theorem isBool_219 : isBool Tryz.prog 219 = false := by kernel_rfl
theorem isPtr_219 : isPtr Tryz.prog 219 = false := by kernel_rfl
theorem isU8_219 : isU8 Tryz.prog 219 = false := by kernel_rfl
theorem isIfc_219 : isIfc Tryz.prog 219 = false := by kernel_rfl
theorem ifcT_219 : ifcT Tryz.prog 219 = false := by kernel_rfl
theorem seqT_219 : seqT Tryz.prog 219 = false := by kernel_rfl
theorem sliceable_219 : sliceable Tryz.prog 219 = false := by kernel_rfl
theorem szOf_224 : szOf Tryz.prog 224 = 1 := by kernel_rfl
theorem aggT_224 : aggT Tryz.prog 224 = some false := by kernel_rfl
theorem elemT_224 : elemT Tryz.prog 224 = none := by kernel_rfl
theorem bytesOf_224 : bytesOf Tryz.prog 224 = some 8 := by kernel_rfl
theorem zeroOf_224 : zeroOf Tryz.prog 224 = some [A.int .i64 0] := by kernel_rfl
theorem arrT_224 : arrT Tryz.prog 224 = none := by kernel_rfl
theorem isStr_224 : isStr Tryz.prog 224 = false := by kernel_rfl
theorem isBool_224 : isBool Tryz.prog 224 = false := by kernel_rfl
theorem isPtr_224 : isPtr Tryz.prog 224 = false := by kernel_rfl
theorem isU8_224 : isU8 Tryz.prog 224 = false := by kernel_rfl
theorem isIfc_224 : isIfc Tryz.prog 224 = false := by kernel_rfl
theorem ifcT_224 : ifcT Tryz.prog 224 = false := by kernel_rfl
theorem seqT_224 : seqT Tryz.prog 224 = false := by kernel_rfl
theorem sliceable_224 : sliceable Tryz.prog 224 = false := by kernel_rfl
theorem szOf_233 : szOf Tryz.prog 233 = 1 := by kernel_rfl
theorem aggT_233 : aggT Tryz.prog 233 = some false := by kernel_rfl
theorem elemT_233 : elemT Tryz.prog 233 = none := by kernel_rfl
theorem bytesOf_233 : bytesOf Tryz.prog 233 = some 8 := by kernel_rfl
theorem zeroOf_233 : zeroOf Tryz.prog 233 = some [A.int .u64 0] := by kernel_rfl
theorem arrT_233 : arrT Tryz.prog 233 = none := by kernel_rfl
theorem isStr_233 : isStr Tryz.prog 233 = false := by kernel_rfl
theorem isBool_233 : isBool Tryz.prog 233 = false := by kernel_rfl
theorem isPtr_233 : isPtr Tryz.prog 233 = false := by kernel_rfl
theorem isU8_233 : isU8 Tryz.prog 233 = false := by kernel_rfl
theorem isIfc_233 : isIfc Tryz.prog 233 = false := by kernel_rfl
theorem ifcT_233 : ifcT Tryz.prog 233 = false := by kernel_rfl
theorem seqT_233 : seqT Tryz.prog 233 = false := by kernel_rfl
theorem sliceable_233 : sliceable Tryz.prog 233 = false := by kernel_rfl
theorem szOf_248 : szOf Tryz.prog 248 = 1 := by kernel_rfl
theorem aggT_248 : aggT Tryz.prog 248 = some false := by kernel_rfl
theorem elemT_248 : elemT Tryz.prog 248 = none := by kernel_rfl
theorem bytesOf_248 : bytesOf Tryz.prog 248 = some 8 := by kernel_rfl
theorem zeroOf_248 : zeroOf Tryz.prog 248 = some [A.int .i64 0] := by kernel_rfl
theorem arrT_248 : arrT Tryz.prog 248 = none := by kernel_rfl
theorem isStr_248 : isStr Tryz.prog 248 = false := by kernel_rfl
theorem isBool_248 : isBool Tryz.prog 248 = false := by kernel_rfl
theorem isPtr_248 : isPtr Tryz.prog 248 = false := by kernel_rfl
theorem isU8_248 : isU8 Tryz.prog 248 = false := by kernel_rfl
theorem isIfc_248 : isIfc Tryz.prog 248 = false := by kernel_rfl
theorem ifcT_248 : ifcT Tryz.prog 248 = false := by kernel_rfl
theorem seqT_248 : seqT Tryz.prog 248 = false := by kernel_rfl
theorem sliceable_248 : sliceable Tryz.prog 248 = false := by kernel_rfl
theorem szOf_268 : szOf Tryz.prog 268 = 1 := by kernel_rfl
theorem aggT_268 : aggT Tryz.prog 268 = some false := by kernel_rfl
theorem elemT_268 : elemT Tryz.prog 268 = none := by kernel_rfl
theorem bytesOf_268 : bytesOf Tryz.prog 268 = some 8 := by kernel_rfl
theorem zeroOf_268 : zeroOf Tryz.prog 268 = some [A.int .u64 0] := by kernel_rfl
theorem arrT_268 : arrT Tryz.prog 268 = none := by kernel_rfl
theorem isStr_268 : isStr Tryz.prog 268 = false := by kernel_rfl
theorem isBool_268 : isBool Tryz.prog 268 = false := by kernel_rfl
theorem isPtr_268 : isPtr Tryz.prog 268 = false := by kernel_rfl
theorem isU8_268 : isU8 Tryz.prog 268 = false := by kernel_rfl
theorem isIfc_268 : isIfc Tryz.prog 268 = false := by kernel_rfl
theorem ifcT_268 : ifcT Tryz.prog 268 = false := by kernel_rfl
theorem seqT_268 : seqT Tryz.prog 268 = false := by kernel_rfl
theorem sliceable_268 : sliceable Tryz.prog 268 = false := by kernel_rfl
attribute [simp] szOf_1 aggT_1 elemT_1 bytesOf_1 zeroOf_1 arrT_1 isStr_1 isBool_1 isPtr_1 isU8_1 isIfc_1 ifcT_1 seqT_1 sliceable_1 szOf_2 aggT_2 elemT_2 bytesOf_2 zeroOf_2 arrT_2 isStr_2 isBool_2 isPtr_2 isU8_2 isIfc_2 ifcT_2 seqT_2 sliceable_2 szOf_3 aggT_3 elemT_3 bytesOf_3 zeroOf_3 arrT_3 isStr_3 isBool_3 isPtr_3 isU8_3 isIfc_3 ifcT_3 seqT_3 sliceable_3 szOf_4 aggT_4 elemT_4 bytesOf_4 zeroOf_4 arrT_4 isStr_4 isBool_4 isPtr_4 isU8_4 isIfc_4 ifcT_4 seqT_4 sliceable_4 szOf_5 aggT_5 elemT_5 bytesOf_5 zeroOf_5 arrT_5 isStr_5 isBool_5 isPtr_5 isU8_5 isIfc_5 ifcT_5 seqT_5 sliceable_5 szOf_9 aggT_9 elemT_9 bytesOf_9 zeroOf_9 arrT_9 isStr_9 isBool_9 isPtr_9 isU8_9 isIfc_9 ifcT_9 seqT_9 sliceable_9 szOf_10 aggT_10 elemT_10 bytesOf_10 zeroOf_10 arrT_10 isStr_10 isBool_10 isPtr_10 isU8_10 isIfc_10 ifcT_10 seqT_10 sliceable_10 szOf_12 aggT_12 elemT_12 bytesOf_12 zeroOf_12 arrT_12 isStr_12 isBool_12 isPtr_12 isU8_12 isIfc_12 ifcT_12 seqT_12 sliceable_12 szOf_14 aggT_14 elemT_14 bytesOf_14 zeroOf_14 arrT_14 fieldT_14_0 fieldT_14_1 isStr_14 isBool_14 isPtr_14 isU8_14 isIfc_14 ifcT_14 fieldsOk_14 seqT_14 sliceable_14 szOf_20 aggT_20 elemT_20 bytesOf_20 zeroOf_20 arrT_20 isStr_20 isBool_20 isPtr_20 isU8_20 isIfc_20 ifcT_20 seqT_20 sliceable_20 szOf_21 aggT_21 elemT_21 bytesOf_21 zeroOf_21 arrT_21 isStr_21 isBool_21 isPtr_21 isU8_21 isIfc_21 ifcT_21 seqT_21 sliceable_21 szOf_22 aggT_22 elemT_22 bytesOf_22 zeroOf_22 arrT_22 isStr_22 isBool_22 isPtr_22 isU8_22 isIfc_22 ifcT_22 seqT_22 sliceable_22 szOf_24 aggT_24 elemT_24 bytesOf_24 zeroOf_24 arrT_24 fieldT_24_0 fieldT_24_1 fieldT_24_2 isStr_24 isBool_24 isPtr_24 isU8_24 isIfc_24 ifcT_24 fieldsOk_24 seqT_24 sliceable_24 szOf_25 aggT_25 elemT_25 bytesOf_25 zeroOf_25 arrT_25 isStr_25 isBool_25 isPtr_25 isU8_25 isIfc_25 ifcT_25 seqT_25 sliceable_25 szOf_27 aggT_27 elemT_27 bytesOf_27 zeroOf_27 arrT_27 fieldT_27_0 fieldT_27_1 fieldT_27_2 fieldT_27_3 isStr_27 isBool_27 isPtr_27 isU8_27 isIfc_27 ifcT_27 fieldsOk_27 seqT_27 sliceable_27 szOf_29 aggT_29 elemT_29 bytesOf_29 zeroOf_29 arrT_29 isStr_29 isBool_29 isPtr_29 isU8_29 isIfc_29 ifcT_29 seqT_29 sliceable_29 szOf_30 aggT_30 elemT_30 bytesOf_30 zeroOf_30 arrT_30 isStr_30 isBool_30 isPtr_30 isU8_30 isIfc_30 ifcT_30 seqT_30 sliceable_30 szOf_31 aggT_31 elemT_31 bytesOf_31 zeroOf_31 arrT_31 isStr_31 isBool_31 isPtr_31 isU8_31 isIfc_31 ifcT_31 seqT_31 sliceable_31 szOf_32 aggT_32 elemT_32 bytesOf_32 zeroOf_32 arrT_32 isStr_32 isBool_32 isPtr_32 isU8_32 isIfc_32 ifcT_32 seqT_32 sliceable_32 szOf_39 aggT_39 elemT_39 bytesOf_39 zeroOf_39 arrT_39 isStr_39 isBool_39 isPtr_39 isU8_39 isIfc_39 ifcT_39 seqT_39 sliceable_39 szOf_40 aggT_40 elemT_40 bytesOf_40 zeroOf_40 arrT_40 isStr_40 isBool_40 isPtr_40 isU8_40 isIfc_40 ifcT_40 seqT_40 sliceable_40 szOf_41 aggT_41 elemT_41 bytesOf_41 zeroOf_41 arrT_41 isStr_41 isBool_41 isPtr_41 isU8_41 isIfc_41 ifcT_41 seqT_41 sliceable_41 szOf_42 aggT_42 elemT_42 bytesOf_42 zeroOf_42 arrT_42 isStr_42 isBool_42 isPtr_42 isU8_42 isIfc_42 ifcT_42 seqT_42 sliceable_42 szOf_44 aggT_44 elemT_44 bytesOf_44 zeroOf_44 arrT_44 fieldT_44_0 fieldT_44_1 isStr_44 isBool_44 isPtr_44 isU8_44 isIfc_44 ifcT_44 fieldsOk_44 seqT_44 sliceable_44 szOf_46 aggT_46 elemT_46 bytesOf_46 zeroOf_46 arrT_46 isStr_46 isBool_46 isPtr_46 isU8_46 isIfc_46 ifcT_46 seqT_46 sliceable_46 szOf_48 aggT_48 elemT_48 bytesOf_48 zeroOf_48 arrT_48 isStr_48 isBool_48 isPtr_48 isU8_48 isIfc_48 ifcT_48 seqT_48 sliceable_48 szOf_50 aggT_50 elemT_50 bytesOf_50 zeroOf_50 arrT_50 isStr_50 isBool_50 isPtr_50 isU8_50 isIfc_50 ifcT_50 seqT_50 sliceable_50 szOf_51 aggT_51 elemT_51 bytesOf_51 zeroOf_51 arrT_51 isStr_51 isBool_51 isPtr_51 isU8_51 isIfc_51 ifcT_51 seqT_51 sliceable_51 szOf_52 aggT_52 elemT_52 bytesOf_52 zeroOf_52 arrT_52 isStr_52 isBool_52 isPtr_52 isU8_52 isIfc_52 ifcT_52 seqT_52 sliceable_52 szOf_53 aggT_53 elemT_53 bytesOf_53 zeroOf_53 arrT_53 isStr_53 isBool_53 isPtr_53 isU8_53 isIfc_53 ifcT_53 seqT_53 sliceable_53 szOf_54 aggT_54 elemT_54 bytesOf_54 zeroOf_54 arrT_54 isStr_54 isBool_54 isPtr_54 isU8_54 isIfc_54 ifcT_54 seqT_54 sliceable_54 szOf_55 aggT_55 elemT_55 bytesOf_55 zeroOf_55 arrT_55 isStr_55 isBool_55 isPtr_55 isU8_55 isIfc_55 ifcT_55 seqT_55 sliceable_55 szOf_56 aggT_56 elemT_56 bytesOf_56 zeroOf_56 arrT_56 isStr_56 isBool_56 isPtr_56 isU8_56 isIfc_56 ifcT_56 seqT_56 sliceable_56 szOf_57 aggT_57 elemT_57 bytesOf_57 zeroOf_57 arrT_57 isStr_57 isBool_57 isPtr_57 isU8_57 isIfc_57 ifcT_57 seqT_57 sliceable_57 szOf_61 aggT_61 elemT_61 bytesOf_61 zeroOf_61 arrT_61 isStr_61 isBool_61 isPtr_61 isU8_61 isIfc_61 ifcT_61 seqT_61 sliceable_61 szOf_65 aggT_65 elemT_65 bytesOf_65 zeroOf_65 arrT_65 isStr_65 isBool_65 isPtr_65 isU8_65 isIfc_65 ifcT_65 seqT_65 sliceable_65 szOf_68 aggT_68 elemT_68 bytesOf_68 zeroOf_68 arrT_68 isStr_68 isBool_68 isPtr_68 isU8_68 isIfc_68 ifcT_68 seqT_68 sliceable_68 szOf_70 aggT_70 elemT_70 bytesOf_70 zeroOf_70 arrT_70 isStr_70 isBool_70 isPtr_70 isU8_70 isIfc_70 ifcT_70 fieldsOk_70 seqT_70 sliceable_70 szOf_72 aggT_72 elemT_72 bytesOf_72 zeroOf_72 arrT_72 isStr_72 isBool_72 isPtr_72 isU8_72 isIfc_72 ifcT_72 seqT_72 sliceable_72 szOf_73 aggT_73 elemT_73 bytesOf_73 zeroOf_73 arrT_73 isStr_73 isBool_73 isPtr_73 isU8_73 isIfc_73 ifcT_73 seqT_73 sliceable_73 szOf_76 aggT_76 elemT_76 bytesOf_76 zeroOf_76 arrT_76 fieldT_76_0 isStr_76 isBool_76 isPtr_76 isU8_76 isIfc_76 ifcT_76 fieldsOk_76 seqT_76 sliceable_76 szOf_82 aggT_82 elemT_82 bytesOf_82 zeroOf_82 arrT_82 isStr_82 isBool_82 isPtr_82 isU8_82 isIfc_82 ifcT_82 seqT_82 sliceable_82 szOf_84 aggT_84 elemT_84 bytesOf_84 zeroOf_84 arrT_84 fieldT_84_0 fieldT_84_1 isStr_84 isBool_84 isPtr_84 isU8_84 isIfc_84 ifcT_84 fieldsOk_84 seqT_84 sliceable_84 szOf_86 aggT_86 elemT_86 bytesOf_86 zeroOf_86 arrT_86 isStr_86 isBool_86 isPtr_86 isU8_86 isIfc_86 ifcT_86 seqT_86 sliceable_86 szOf_88 aggT_88 elemT_88 bytesOf_88 zeroOf_88 arrT_88 isStr_88 isBool_88 isPtr_88 isU8_88 isIfc_88 ifcT_88 seqT_88 sliceable_88 szOf_89 aggT_89 elemT_89 bytesOf_89 zeroOf_89 arrT_89 isStr_89 isBool_89 isPtr_89 isU8_89 isIfc_89 ifcT_89 seqT_89 sliceable_89 szOf_92 aggT_92 elemT_92 bytesOf_92 zeroOf_92 arrT_92 fieldT_92_0 fieldT_92_1 fieldT_92_2 isStr_92 isBool_92 isPtr_92 isU8_92 isIfc_92 ifcT_92 fieldsOk_92 seqT_92 sliceable_92 szOf_97 aggT_97 elemT_97 bytesOf_97 zeroOf_97 arrT_97 isStr_97 isBool_97 isPtr_97 isU8_97 isIfc_97 ifcT_97 seqT_97 sliceable_97 szOf_98 aggT_98 elemT_98 bytesOf_98 zeroOf_98 arrT_98 isStr_98 isBool_98 isPtr_98 isU8_98 isIfc_98 ifcT_98 seqT_98 sliceable_98 szOf_99 aggT_99 elemT_99 bytesOf_99 zeroOf_99 arrT_99 isStr_99 isBool_99 isPtr_99 isU8_99 isIfc_99 ifcT_99 seqT_99 sliceable_99 szOf_100 aggT_100 elemT_100 bytesOf_100 zeroOf_100 arrT_100 isStr_100 isBool_100 isPtr_100 isU8_100 isIfc_100 ifcT_100 seqT_100 sliceable_100 szOf_101 aggT_101 elemT_101 bytesOf_101 zeroOf_101 arrT_101 isStr_101 isBool_101 isPtr_101 isU8_101 isIfc_101 ifcT_101 seqT_101 sliceable_101 szOf_102 aggT_102 elemT_102 bytesOf_102 zeroOf_102 arrT_102 isStr_102 isBool_102 isPtr_102 isU8_102 isIfc_102 ifcT_102 seqT_102 sliceable_102 szOf_103 aggT_103 elemT_103 bytesOf_103 zeroOf_103 arrT_103 isStr_103 isBool_103 isPtr_103 isU8_103 isIfc_103 ifcT_103 seqT_103 sliceable_103 szOf_105 aggT_105 elemT_105 bytesOf_105 zeroOf_105 arrT_105 isStr_105 isBool_105 isPtr_105 isU8_105 isIfc_105 ifcT_105 seqT_105 sliceable_105 szOf_107 aggT_107 elemT_107 bytesOf_107 zeroOf_107 arrT_107 isStr_107 isBool_107 isPtr_107 isU8_107 isIfc_107 ifcT_107 seqT_107 sliceable_107 szOf_109 aggT_109 elemT_109 bytesOf_109 zeroOf_109 arrT_109 isStr_109 isBool_109 isPtr_109 isU8_109 isIfc_109 ifcT_109 seqT_109 sliceable_109 szOf_111 aggT_111 elemT_111 bytesOf_111 zeroOf_111 arrT_111 isStr_111 isBool_111 isPtr_111 isU8_111 isIfc_111 ifcT_111 seqT_111 sliceable_111 szOf_112 aggT_112 elemT_112 bytesOf_112 zeroOf_112 arrT_112 fieldT_112_0 fieldT_112_1 fieldT_112_2 isStr_112 isBool_112 isPtr_112 isU8_112 isIfc_112 ifcT_112 fieldsOk_112 seqT_112 sliceable_112 szOf_113 aggT_113 elemT_113 bytesOf_113 zeroOf_113 arrT_113 fieldT_113_0 fieldT_113_1 fieldT_113_2 isStr_113 isBool_113 isPtr_113 isU8_113 isIfc_113 ifcT_113 fieldsOk_113 seqT_113 sliceable_113 szOf_114 aggT_114 elemT_114 bytesOf_114 zeroOf_114 arrT_114 isStr_114 isBool_114 isPtr_114 isU8_114 isIfc_114 ifcT_114 fieldsOk_114 seqT_114 sliceable_114 szOf_115 aggT_115 elemT_115 bytesOf_115 zeroOf_115 arrT_115 isStr_115 isBool_115 isPtr_115 isU8_115 isIfc_115 ifcT_115 seqT_115 sliceable_115 szOf_116 aggT_116 elemT_116 bytesOf_116 zeroOf_116 arrT_116 isStr_116 isBool_116 isPtr_116 isU8_116 isIfc_116 ifcT_116 seqT_116 sliceable_116 szOf_117 aggT_117 elemT_117 bytesOf_117 zeroOf_117 arrT_117 isStr_117 isBool_117 isPtr_117 isU8_117 isIfc_117 ifcT_117 seqT_117 sliceable_117 szOf_118 aggT_118 elemT_118 bytesOf_118 zeroOf_118 arrT_118 isStr_118 isBool_118 isPtr_118 isU8_118 isIfc_118 ifcT_118 seqT_118 sliceable_118 szOf_119 aggT_119 elemT_119 bytesOf_119 zeroOf_119 arrT_119 isStr_119 isBool_119 isPtr_119 isU8_119 isIfc_119 ifcT_119 seqT_119 sliceable_119 szOf_120 aggT_120 elemT_120 bytesOf_120 zeroOf_120 arrT_120 isStr_120 isBool_120 isPtr_120 isU8_120 isIfc_120 ifcT_120 seqT_120 sliceable_120 szOf_121 aggT_121 elemT_121 bytesOf_121 zeroOf_121 arrT_121 isStr_121 isBool_121 isPtr_121 isU8_121 isIfc_121 ifcT_121 seqT_121 sliceable_121 szOf_122 aggT_122 elemT_122 bytesOf_122 zeroOf_122 arrT_122 isStr_122 isBool_122 isPtr_122 isU8_122 isIfc_122 ifcT_122 seqT_122 sliceable_122 szOf_123 aggT_123 elemT_123 bytesOf_123 zeroOf_123 arrT_123 isStr_123 isBool_123 isPtr_123 isU8_123 isIfc_123 ifcT_123 seqT_123 sliceable_123 szOf_125 aggT_125 elemT_125 bytesOf_125 zeroOf_125 arrT_125 isStr_125 isBool_125 isPtr_125 isU8_125 isIfc_125 ifcT_125 seqT_125 sliceable_125 szOf_127 aggT_127 elemT_127 bytesOf_127 zeroOf_127 arrT_127 fieldT_127_0 fieldT_127_1 isStr_127 isBool_127 isPtr_127 isU8_127 isIfc_127 ifcT_127 fieldsOk_127 seqT_127 sliceable_127 szOf_137 aggT_137 elemT_137 bytesOf_137 zeroOf_137 arrT_137 fieldT_137_0 isStr_137 isBool_137 isPtr_137 isU8_137 isIfc_137 ifcT_137 fieldsOk_137 seqT_137 sliceable_137 szOf_141 aggT_141 elemT_141 bytesOf_141 zeroOf_141 arrT_141 isStr_141 isBool_141 isPtr_141 isU8_141 isIfc_141 ifcT_141 seqT_141 sliceable_141 szOf_142 aggT_142 elemT_142 bytesOf_142 zeroOf_142 arrT_142 isStr_142 isBool_142 isPtr_142 isU8_142 isIfc_142 ifcT_142 seqT_142 sliceable_142 szOf_144 aggT_144 elemT_144 bytesOf_144 zeroOf_144 arrT_144 isStr_144 isBool_144 isPtr_144 isU8_144 isIfc_144 ifcT_144 seqT_144 sliceable_144 szOf_146 aggT_146 elemT_146 bytesOf_146 zeroOf_146 arrT_146 isStr_146 isBool_146 isPtr_146 isU8_146 isIfc_146 ifcT_146 seqT_146 sliceable_146 szOf_147 aggT_147 elemT_147 bytesOf_147 zeroOf_147 arrT_147 isStr_147 isBool_147 isPtr_147 isU8_147 isIfc_147 ifcT_147 seqT_147 sliceable_147 szOf_151 aggT_151 elemT_151 bytesOf_151 zeroOf_151 arrT_151 isStr_151 isBool_151 isPtr_151 isU8_151 isIfc_151 ifcT_151 fieldsOk_151 seqT_151 sliceable_151 szOf_153 aggT_153 elemT_153 bytesOf_153 zeroOf_153 arrT_153 isStr_153 isBool_153 isPtr_153 isU8_153 isIfc_153 ifcT_153 seqT_153 sliceable_153 szOf_155 aggT_155 elemT_155 bytesOf_155 zeroOf_155 arrT_155 fieldT_155_0 isStr_155 isBool_155 isPtr_155 isU8_155 isIfc_155 ifcT_155 fieldsOk_155 seqT_155 sliceable_155 szOf_158 aggT_158 elemT_158 bytesOf_158 zeroOf_158 arrT_158 isStr_158 isBool_158 isPtr_158 isU8_158 isIfc_158 ifcT_158 fieldsOk_158 seqT_158 sliceable_158 szOf_160 aggT_160 elemT_160 bytesOf_160 zeroOf_160 arrT_160 isStr_160 isBool_160 isPtr_160 isU8_160 isIfc_160 ifcT_160 seqT_160 sliceable_160 szOf_162 aggT_162 elemT_162 bytesOf_162 zeroOf_162 arrT_162 fieldT_162_0 isStr_162 isBool_162 isPtr_162 isU8_162 isIfc_162 ifcT_162 fieldsOk_162 seqT_162 sliceable_162 szOf_165 aggT_165 elemT_165 bytesOf_165 zeroOf_165 arrT_165 fieldT_165_0 fieldT_165_1 isStr_165 isBool_165 isPtr_165 isU8_165 isIfc_165 ifcT_165 fieldsOk_165 seqT_165 sliceable_165 szOf_166 aggT_166 elemT_166 bytesOf_166 zeroOf_166 arrT_166 isStr_166 isBool_166 isPtr_166 isU8_166 isIfc_166 ifcT_166 fieldsOk_166 seqT_166 sliceable_166 szOf_168 aggT_168 elemT_168 bytesOf_168 zeroOf_168 arrT_168 isStr_168 isBool_168 isPtr_168 isU8_168 isIfc_168 ifcT_168 seqT_168 sliceable_168 szOf_171 aggT_171 elemT_171 bytesOf_171 zeroOf_171 arrT_171 isStr_171 isBool_171 isPtr_171 isU8_171 isIfc_171 ifcT_171 seqT_171 sliceable_171 szOf_173 aggT_173 elemT_173 bytesOf_173 zeroOf_173 arrT_173 isStr_173 isBool_173 isPtr_173 isU8_173 isIfc_173 ifcT_173 seqT_173 sliceable_173 szOf_177 aggT_177 elemT_177 bytesOf_177 zeroOf_177 arrT_177 isStr_177 isBool_177 isPtr_177 isU8_177 isIfc_177 ifcT_177 seqT_177 sliceable_177 szOf_178 aggT_178 elemT_178 bytesOf_178 zeroOf_178 arrT_178 isStr_178 isBool_178 isPtr_178 isU8_178 isIfc_178 ifcT_178 seqT_178 sliceable_178 szOf_183 aggT_183 elemT_183 bytesOf_183 zeroOf_183 arrT_183 isStr_183 isBool_183 isPtr_183 isU8_183 isIfc_183 ifcT_183 seqT_183 sliceable_183 szOf_189 aggT_189 elemT_189 bytesOf_189 arrT_189 isStr_189 isBool_189 isPtr_189 isU8_189 isIfc_189 ifcT_189 fieldsOk_189 seqT_189 sliceable_189 szOf_193 aggT_193 elemT_193 bytesOf_193 zeroOf_193 arrT_193 isStr_193 isBool_193 isPtr_193 isU8_193 isIfc_193 ifcT_193 seqT_193 sliceable_193 szOf_197 aggT_197 elemT_197 bytesOf_197 zeroOf_197 arrT_197 isStr_197 isBool_197 isPtr_197 isU8_197 isIfc_197 ifcT_197 seqT_197 sliceable_197 szOf_199 aggT_199 elemT_199 bytesOf_199 zeroOf_199 arrT_199 fieldT_199_0 fieldT_199_1 fieldT_199_2 isStr_199 isBool_199 isPtr_199 isU8_199 isIfc_199 ifcT_199 fieldsOk_199 seqT_199 sliceable_199 szOf_207 aggT_207 elemT_207 bytesOf_207 zeroOf_207 arrT_207 isStr_207 isBool_207 isPtr_207 isU8_207 isIfc_207 ifcT_207 seqT_207 sliceable_207 szOf_209 aggT_209 elemT_209 bytesOf_209 zeroOf_209 arrT_209 fieldT_209_0 fieldT_209_1 isStr_209 isBool_209 isPtr_209 isU8_209 isIfc_209 ifcT_209 fieldsOk_209 seqT_209 sliceable_209 szOf_211 aggT_211 elemT_211 bytesOf_211 zeroOf_211 arrT_211 isStr_211 isBool_211 isPtr_211 isU8_211 isIfc_211 ifcT_211 seqT_211 sliceable_211 szOf_218 aggT_218 elemT_218 bytesOf_218 zeroOf_218 arrT_218 isStr_218 isBool_218 isPtr_218 isU8_218 isIfc_218 ifcT_218 fieldsOk_218 seqT_218 sliceable_218 szOf_219 aggT_219 elemT_219 bytesOf_219 zeroOf_219 arrT_219 isStr_219 isBool_219 isPtr_219 isU8_219 isIfc_219 ifcT_219 seqT_219 sliceable_219 szOf_224 aggT_224 elemT_224 bytesOf_224 zeroOf_224 arrT_224 isStr_224 isBool_224 isPtr_224 isU8_224 isIfc_224 ifcT_224 seqT_224 sliceable_224 szOf_233 aggT_233 elemT_233 bytesOf_233 zeroOf_233 arrT_233 isStr_233 isBool_233 isPtr_233 isU8_233 isIfc_233 ifcT_233 seqT_233 sliceable_233 szOf_248 aggT_248 elemT_248 bytesOf_248 zeroOf_248 arrT_248 isStr_248 isBool_248 isPtr_248 isU8_248 isIfc_248 ifcT_248 seqT_248 sliceable_248 szOf_268 aggT_268 elemT_268 bytesOf_268 zeroOf_268 arrT_268 isStr_268 isBool_268 isPtr_268 isU8_268 isIfc_268 ifcT_268 seqT_268 sliceable_268
attribute [simp] Tryz.underlying2 Tryz.underlying3 Tryz.underlying4 Tryz.underlying5 Tryz.underlying6 Tryz.underlying7 Tryz.underlying8 Tryz.underlying9 Tryz.underlying10 Tryz.underlying11 Tryz.underlying12 Tryz.underlying13 Tryz.underlying14 Tryz.underlying15 Tryz.underlying16 Tryz.underlying17 Tryz.underlying18 Tryz.underlying19 Tryz.underlying20 Tryz.underlying21 Tryz.underlying22 Tryz.underlying23 Tryz.underlying24 Tryz.underlying25 Tryz.underlying26 Tryz.underlying27 Tryz.underlying31 Tryz.underlying32 Tryz.underlying42 Tryz.underlying43 Tryz.underlying44 Tryz.underlying46 Tryz.underlying69 Tryz.underlying70 Tryz.underlying72 Tryz.underlying73 Tryz.underlying75 Tryz.underlying76 Tryz.underlying82 Tryz.underlying83 Tryz.underlying84 Tryz.underlying86 Tryz.underlying89 Tryz.underlying91 Tryz.underlying92 Tryz.underlying112 Tryz.underlying113 Tryz.underlying114 Tryz.underlying116 Tryz.underlying122 Tryz.underlying125 Tryz.underlying126 Tryz.underlying127 Tryz.underlying136 Tryz.underlying137 Tryz.underlying141 Tryz.underlying151 Tryz.underlying153 Tryz.underlying154 Tryz.underlying155 Tryz.underlying158 Tryz.underlying160 Tryz.underlying161 Tryz.underlying162 Tryz.underlying164 Tryz.underlying165 Tryz.underlying166 Tryz.underlying167 Tryz.underlying168 Tryz.underlying171 Tryz.underlying188 Tryz.underlying189 Tryz.underlying193 Tryz.underlying197 Tryz.underlying198 Tryz.underlying199 Tryz.underlying207 Tryz.underlying208 Tryz.underlying209 Tryz.underlying218 Tryz.underlying219 Tryz.underlying224 Tryz.underlying227 Tryz.underlying233 Tryz.underlying237 Tryz.underlying238 Tryz.underlying239 Tryz.underlying244 Tryz.underlying245 Tryz.underlying248 Tryz.underlying258 Tryz.underlying259 Tryz.underlying260 Tryz.underlying261 Tryz.underlying264 Tryz.underlying265 Tryz.underlying266 Tryz.underlying267 Tryz.underlying268 Tryz.underlying273 Tryz.underlying274 Tryz.underlying275 Tryz.underlying277 Tryz.underlying278 Tryz.underlying279 Tryz.underlying280 Tryz.underlying281 Tryz.underlying282 Tryz.underlying283 Tryz.underlying285 Tryz.underlying286 Tryz.underlying287 Tryz.underlying288 Tryz.underlying289
end AE
end Go.Proofs.YtopfodhjlhpdmaaGreatDoor
