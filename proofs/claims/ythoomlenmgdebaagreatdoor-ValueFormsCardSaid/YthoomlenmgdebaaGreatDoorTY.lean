/- Printed by wip/types.py: what the evaluator asks of each type. -/
import Derived.Test.YthoomlenmgdebaaGreatDoorAE1
namespace Go.Proofs.YthoomlenmgdebaaGreatDoor
namespace AE
open Go
theorem szOf_1 : szOf Tryz.prog 1 = 1 := by kernel_rfl
theorem aggT_1 : aggT Tryz.prog 1 = some false := by kernel_rfl
theorem elemT_1 : elemT Tryz.prog 1 = none := by kernel_rfl
theorem bytesOf_1 : bytesOf Tryz.prog 1 = some 8 := by kernel_rfl
theorem zeroOf_1 : zeroOf Tryz.prog 1 = some [A.nilf] := by kernel_rfl
theorem arrT_1 : arrT Tryz.prog 1 = none := by kernel_rfl
theorem isStr_1 : isStr Tryz.prog 1 = false := by kernel_rfl
theorem isBool_1 : isBool Tryz.prog 1 = false := by kernel_rfl
theorem isPtr_1 : isPtr Tryz.prog 1 = false := by kernel_rfl
theorem isU8_1 : isU8 Tryz.prog 1 = false := by kernel_rfl
theorem isIfc_1 : isIfc Tryz.prog 1 = false := by kernel_rfl
theorem ifcT_1 : ifcT Tryz.prog 1 = false := by kernel_rfl
theorem seqT_1 : seqT Tryz.prog 1 = false := by kernel_rfl
theorem sliceable_1 : sliceable Tryz.prog 1 = false := by kernel_rfl
theorem szOf_2 : szOf Tryz.prog 2 = 1 := by kernel_rfl
theorem aggT_2 : aggT Tryz.prog 2 = some false := by kernel_rfl
theorem elemT_2 : elemT Tryz.prog 2 = none := by kernel_rfl
theorem bytesOf_2 : bytesOf Tryz.prog 2 = some 8 := by kernel_rfl
theorem zeroOf_2 : zeroOf Tryz.prog 2 = some [A.int .i64 0] := by kernel_rfl
theorem arrT_2 : arrT Tryz.prog 2 = none := by kernel_rfl
theorem isStr_2 : isStr Tryz.prog 2 = false := by kernel_rfl
theorem isBool_2 : isBool Tryz.prog 2 = false := by kernel_rfl
theorem isPtr_2 : isPtr Tryz.prog 2 = false := by kernel_rfl
theorem isU8_2 : isU8 Tryz.prog 2 = false := by kernel_rfl
theorem isIfc_2 : isIfc Tryz.prog 2 = false := by kernel_rfl
theorem ifcT_2 : ifcT Tryz.prog 2 = false := by kernel_rfl
theorem seqT_2 : seqT Tryz.prog 2 = false := by kernel_rfl
theorem sliceable_2 : sliceable Tryz.prog 2 = false := by kernel_rfl
theorem szOf_3 : szOf Tryz.prog 3 = 1 := by kernel_rfl
theorem aggT_3 : aggT Tryz.prog 3 = some false := by kernel_rfl
theorem elemT_3 : elemT Tryz.prog 3 = none := by kernel_rfl
theorem bytesOf_3 : bytesOf Tryz.prog 3 = some 8 := by kernel_rfl
theorem zeroOf_3 : zeroOf Tryz.prog 3 = some [A.int .i64 0] := by kernel_rfl
theorem arrT_3 : arrT Tryz.prog 3 = none := by kernel_rfl
theorem isStr_3 : isStr Tryz.prog 3 = false := by kernel_rfl
theorem isBool_3 : isBool Tryz.prog 3 = false := by kernel_rfl
theorem isPtr_3 : isPtr Tryz.prog 3 = false := by kernel_rfl
theorem isU8_3 : isU8 Tryz.prog 3 = false := by kernel_rfl
theorem isIfc_3 : isIfc Tryz.prog 3 = false := by kernel_rfl
theorem ifcT_3 : ifcT Tryz.prog 3 = false := by kernel_rfl
theorem seqT_3 : seqT Tryz.prog 3 = false := by kernel_rfl
theorem sliceable_3 : sliceable Tryz.prog 3 = false := by kernel_rfl
theorem szOf_4 : szOf Tryz.prog 4 = 1 := by kernel_rfl
theorem aggT_4 : aggT Tryz.prog 4 = some false := by kernel_rfl
theorem elemT_4 : elemT Tryz.prog 4 = none := by kernel_rfl
theorem bytesOf_4 : bytesOf Tryz.prog 4 = some 1 := by kernel_rfl
theorem zeroOf_4 : zeroOf Tryz.prog 4 = some [A.bool false] := by kernel_rfl
theorem arrT_4 : arrT Tryz.prog 4 = none := by kernel_rfl
theorem isStr_4 : isStr Tryz.prog 4 = false := by kernel_rfl
theorem isBool_4 : isBool Tryz.prog 4 = true := by kernel_rfl
theorem isPtr_4 : isPtr Tryz.prog 4 = false := by kernel_rfl
theorem isU8_4 : isU8 Tryz.prog 4 = false := by kernel_rfl
theorem isIfc_4 : isIfc Tryz.prog 4 = false := by kernel_rfl
theorem ifcT_4 : ifcT Tryz.prog 4 = false := by kernel_rfl
theorem seqT_4 : seqT Tryz.prog 4 = false := by kernel_rfl
theorem sliceable_4 : sliceable Tryz.prog 4 = false := by kernel_rfl
theorem szOf_5 : szOf Tryz.prog 5 = 1 := by kernel_rfl
theorem aggT_5 : aggT Tryz.prog 5 = some false := by kernel_rfl
theorem elemT_5 : elemT Tryz.prog 5 = none := by kernel_rfl
theorem bytesOf_5 : bytesOf Tryz.prog 5 = some 1 := by kernel_rfl
theorem zeroOf_5 : zeroOf Tryz.prog 5 = some [A.int .u8 0] := by kernel_rfl
theorem arrT_5 : arrT Tryz.prog 5 = none := by kernel_rfl
theorem isStr_5 : isStr Tryz.prog 5 = false := by kernel_rfl
theorem isBool_5 : isBool Tryz.prog 5 = false := by kernel_rfl
theorem isPtr_5 : isPtr Tryz.prog 5 = false := by kernel_rfl
theorem isU8_5 : isU8 Tryz.prog 5 = true := by kernel_rfl
theorem isIfc_5 : isIfc Tryz.prog 5 = false := by kernel_rfl
theorem ifcT_5 : ifcT Tryz.prog 5 = false := by kernel_rfl
theorem seqT_5 : seqT Tryz.prog 5 = false := by kernel_rfl
theorem sliceable_5 : sliceable Tryz.prog 5 = false := by kernel_rfl
theorem szOf_6 : szOf Tryz.prog 6 = 1 := by kernel_rfl
theorem aggT_6 : aggT Tryz.prog 6 = some false := by kernel_rfl
theorem elemT_6 : elemT Tryz.prog 6 = none := by kernel_rfl
theorem bytesOf_6 : bytesOf Tryz.prog 6 = some 1 := by kernel_rfl
theorem zeroOf_6 : zeroOf Tryz.prog 6 = some [A.int .u8 0] := by kernel_rfl
theorem arrT_6 : arrT Tryz.prog 6 = none := by kernel_rfl
theorem isStr_6 : isStr Tryz.prog 6 = false := by kernel_rfl
theorem isBool_6 : isBool Tryz.prog 6 = false := by kernel_rfl
theorem isPtr_6 : isPtr Tryz.prog 6 = false := by kernel_rfl
theorem isU8_6 : isU8 Tryz.prog 6 = true := by kernel_rfl
theorem isIfc_6 : isIfc Tryz.prog 6 = false := by kernel_rfl
theorem ifcT_6 : ifcT Tryz.prog 6 = false := by kernel_rfl
theorem seqT_6 : seqT Tryz.prog 6 = false := by kernel_rfl
theorem sliceable_6 : sliceable Tryz.prog 6 = false := by kernel_rfl
theorem szOf_7 : szOf Tryz.prog 7 = 4 := by kernel_rfl
theorem aggT_7 : aggT Tryz.prog 7 = some true := by kernel_rfl
theorem elemT_7 : elemT Tryz.prog 7 = none := by kernel_rfl
theorem bytesOf_7 : bytesOf Tryz.prog 7 = some 24 := by kernel_rfl
theorem zeroOf_7 : zeroOf Tryz.prog 7 = some [A.int .i64 0, A.int .i64 0, A.bool false, A.int .u8 0] := by kernel_rfl
theorem arrT_7 : arrT Tryz.prog 7 = none := by kernel_rfl
theorem fieldT_7_0 : fieldT Tryz.prog 7 0 = some (0, 2) := by kernel_rfl
theorem fieldT_7_1 : fieldT Tryz.prog 7 1 = some (1, 3) := by kernel_rfl
theorem fieldT_7_2 : fieldT Tryz.prog 7 2 = some (2, 4) := by kernel_rfl
theorem fieldT_7_3 : fieldT Tryz.prog 7 3 = some (3, 6) := by kernel_rfl
theorem isStr_7 : isStr Tryz.prog 7 = false := by kernel_rfl
theorem isBool_7 : isBool Tryz.prog 7 = false := by kernel_rfl
theorem isPtr_7 : isPtr Tryz.prog 7 = false := by kernel_rfl
theorem isU8_7 : isU8 Tryz.prog 7 = false := by kernel_rfl
theorem isIfc_7 : isIfc Tryz.prog 7 = false := by kernel_rfl
theorem ifcT_7 : ifcT Tryz.prog 7 = false := by kernel_rfl
theorem fieldsOk_7 : fieldsOk Tryz.prog 7 = true := by kernel_rfl
theorem seqT_7 : seqT Tryz.prog 7 = false := by kernel_rfl
theorem sliceable_7 : sliceable Tryz.prog 7 = false := by kernel_rfl
theorem szOf_8 : szOf Tryz.prog 8 = 4 := by kernel_rfl
theorem aggT_8 : aggT Tryz.prog 8 = some true := by kernel_rfl
theorem elemT_8 : elemT Tryz.prog 8 = none := by kernel_rfl
theorem bytesOf_8 : bytesOf Tryz.prog 8 = some 24 := by kernel_rfl
theorem zeroOf_8 : zeroOf Tryz.prog 8 = some [A.int .i64 0, A.int .i64 0, A.bool false, A.int .u8 0] := by kernel_rfl
theorem arrT_8 : arrT Tryz.prog 8 = none := by kernel_rfl
theorem fieldT_8_0 : fieldT Tryz.prog 8 0 = some (0, 2) := by kernel_rfl
theorem fieldT_8_1 : fieldT Tryz.prog 8 1 = some (1, 3) := by kernel_rfl
theorem fieldT_8_2 : fieldT Tryz.prog 8 2 = some (2, 4) := by kernel_rfl
theorem fieldT_8_3 : fieldT Tryz.prog 8 3 = some (3, 6) := by kernel_rfl
theorem isStr_8 : isStr Tryz.prog 8 = false := by kernel_rfl
theorem isBool_8 : isBool Tryz.prog 8 = false := by kernel_rfl
theorem isPtr_8 : isPtr Tryz.prog 8 = false := by kernel_rfl
theorem isU8_8 : isU8 Tryz.prog 8 = false := by kernel_rfl
theorem isIfc_8 : isIfc Tryz.prog 8 = false := by kernel_rfl
theorem ifcT_8 : ifcT Tryz.prog 8 = false := by kernel_rfl
theorem fieldsOk_8 : fieldsOk Tryz.prog 8 = true := by kernel_rfl
theorem seqT_8 : seqT Tryz.prog 8 = false := by kernel_rfl
theorem sliceable_8 : sliceable Tryz.prog 8 = false := by kernel_rfl
theorem szOf_9 : szOf Tryz.prog 9 = 1 := by kernel_rfl
theorem aggT_9 : aggT Tryz.prog 9 = some false := by kernel_rfl
theorem elemT_9 : elemT Tryz.prog 9 = none := by kernel_rfl
theorem bytesOf_9 : bytesOf Tryz.prog 9 = some 16 := by kernel_rfl
theorem zeroOf_9 : zeroOf Tryz.prog 9 = some [A.str []] := by kernel_rfl
theorem arrT_9 : arrT Tryz.prog 9 = none := by kernel_rfl
theorem isStr_9 : isStr Tryz.prog 9 = true := by kernel_rfl
theorem isBool_9 : isBool Tryz.prog 9 = false := by kernel_rfl
theorem isPtr_9 : isPtr Tryz.prog 9 = false := by kernel_rfl
theorem isU8_9 : isU8 Tryz.prog 9 = false := by kernel_rfl
theorem isIfc_9 : isIfc Tryz.prog 9 = false := by kernel_rfl
theorem ifcT_9 : ifcT Tryz.prog 9 = false := by kernel_rfl
theorem seqT_9 : seqT Tryz.prog 9 = true := by kernel_rfl
theorem sliceable_9 : sliceable Tryz.prog 9 = true := by kernel_rfl
theorem szOf_10 : szOf Tryz.prog 10 = 1 := by kernel_rfl
theorem aggT_10 : aggT Tryz.prog 10 = some false := by kernel_rfl
theorem elemT_10 : elemT Tryz.prog 10 = none := by kernel_rfl
theorem bytesOf_10 : bytesOf Tryz.prog 10 = some 16 := by kernel_rfl
theorem zeroOf_10 : zeroOf Tryz.prog 10 = some [A.str []] := by kernel_rfl
theorem arrT_10 : arrT Tryz.prog 10 = none := by kernel_rfl
theorem isStr_10 : isStr Tryz.prog 10 = true := by kernel_rfl
theorem isBool_10 : isBool Tryz.prog 10 = false := by kernel_rfl
theorem isPtr_10 : isPtr Tryz.prog 10 = false := by kernel_rfl
theorem isU8_10 : isU8 Tryz.prog 10 = false := by kernel_rfl
theorem isIfc_10 : isIfc Tryz.prog 10 = false := by kernel_rfl
theorem ifcT_10 : ifcT Tryz.prog 10 = false := by kernel_rfl
theorem seqT_10 : seqT Tryz.prog 10 = true := by kernel_rfl
theorem sliceable_10 : sliceable Tryz.prog 10 = true := by kernel_rfl
theorem szOf_11 : szOf Tryz.prog 11 = 1 := by kernel_rfl
theorem aggT_11 : aggT Tryz.prog 11 = some false := by kernel_rfl
theorem elemT_11 : elemT Tryz.prog 11 = none := by kernel_rfl
theorem bytesOf_11 : bytesOf Tryz.prog 11 = some 16 := by kernel_rfl
theorem zeroOf_11 : zeroOf Tryz.prog 11 = some [A.str []] := by kernel_rfl
theorem arrT_11 : arrT Tryz.prog 11 = none := by kernel_rfl
theorem isStr_11 : isStr Tryz.prog 11 = true := by kernel_rfl
theorem isBool_11 : isBool Tryz.prog 11 = false := by kernel_rfl
theorem isPtr_11 : isPtr Tryz.prog 11 = false := by kernel_rfl
theorem isU8_11 : isU8 Tryz.prog 11 = false := by kernel_rfl
theorem isIfc_11 : isIfc Tryz.prog 11 = false := by kernel_rfl
theorem ifcT_11 : ifcT Tryz.prog 11 = false := by kernel_rfl
theorem seqT_11 : seqT Tryz.prog 11 = true := by kernel_rfl
theorem sliceable_11 : sliceable Tryz.prog 11 = true := by kernel_rfl
theorem szOf_12 : szOf Tryz.prog 12 = 1 := by kernel_rfl
theorem aggT_12 : aggT Tryz.prog 12 = some false := by kernel_rfl
theorem elemT_12 : elemT Tryz.prog 12 = none := by kernel_rfl
theorem bytesOf_12 : bytesOf Tryz.prog 12 = some 8 := by kernel_rfl
theorem zeroOf_12 : zeroOf Tryz.prog 12 = some [A.int .u64 0] := by kernel_rfl
theorem arrT_12 : arrT Tryz.prog 12 = none := by kernel_rfl
theorem isStr_12 : isStr Tryz.prog 12 = false := by kernel_rfl
theorem isBool_12 : isBool Tryz.prog 12 = false := by kernel_rfl
theorem isPtr_12 : isPtr Tryz.prog 12 = false := by kernel_rfl
theorem isU8_12 : isU8 Tryz.prog 12 = false := by kernel_rfl
theorem isIfc_12 : isIfc Tryz.prog 12 = false := by kernel_rfl
theorem ifcT_12 : ifcT Tryz.prog 12 = false := by kernel_rfl
theorem seqT_12 : seqT Tryz.prog 12 = false := by kernel_rfl
theorem sliceable_12 : sliceable Tryz.prog 12 = false := by kernel_rfl
theorem szOf_13 : szOf Tryz.prog 13 = 2 := by kernel_rfl
theorem aggT_13 : aggT Tryz.prog 13 = some true := by kernel_rfl
theorem elemT_13 : elemT Tryz.prog 13 = none := by kernel_rfl
theorem bytesOf_13 : bytesOf Tryz.prog 13 = some 24 := by kernel_rfl
theorem zeroOf_13 : zeroOf Tryz.prog 13 = some [A.str [], A.int .u64 0] := by kernel_rfl
theorem arrT_13 : arrT Tryz.prog 13 = none := by kernel_rfl
theorem fieldT_13_0 : fieldT Tryz.prog 13 0 = some (0, 9) := by kernel_rfl
theorem fieldT_13_1 : fieldT Tryz.prog 13 1 = some (1, 12) := by kernel_rfl
theorem isStr_13 : isStr Tryz.prog 13 = false := by kernel_rfl
theorem isBool_13 : isBool Tryz.prog 13 = false := by kernel_rfl
theorem isPtr_13 : isPtr Tryz.prog 13 = false := by kernel_rfl
theorem isU8_13 : isU8 Tryz.prog 13 = false := by kernel_rfl
theorem isIfc_13 : isIfc Tryz.prog 13 = false := by kernel_rfl
theorem ifcT_13 : ifcT Tryz.prog 13 = false := by kernel_rfl
theorem fieldsOk_13 : fieldsOk Tryz.prog 13 = true := by kernel_rfl
theorem seqT_13 : seqT Tryz.prog 13 = false := by kernel_rfl
theorem sliceable_13 : sliceable Tryz.prog 13 = false := by kernel_rfl
theorem szOf_14 : szOf Tryz.prog 14 = 2 := by kernel_rfl
theorem aggT_14 : aggT Tryz.prog 14 = some true := by kernel_rfl
theorem elemT_14 : elemT Tryz.prog 14 = none := by kernel_rfl
theorem bytesOf_14 : bytesOf Tryz.prog 14 = some 24 := by kernel_rfl
theorem zeroOf_14 : zeroOf Tryz.prog 14 = some [A.str [], A.int .u64 0] := by kernel_rfl
theorem arrT_14 : arrT Tryz.prog 14 = none := by kernel_rfl
theorem fieldT_14_0 : fieldT Tryz.prog 14 0 = some (0, 9) := by kernel_rfl
theorem fieldT_14_1 : fieldT Tryz.prog 14 1 = some (1, 12) := by kernel_rfl
theorem isStr_14 : isStr Tryz.prog 14 = false := by kernel_rfl
theorem isBool_14 : isBool Tryz.prog 14 = false := by kernel_rfl
theorem isPtr_14 : isPtr Tryz.prog 14 = false := by kernel_rfl
theorem isU8_14 : isU8 Tryz.prog 14 = false := by kernel_rfl
theorem isIfc_14 : isIfc Tryz.prog 14 = false := by kernel_rfl
theorem ifcT_14 : ifcT Tryz.prog 14 = false := by kernel_rfl
theorem fieldsOk_14 : fieldsOk Tryz.prog 14 = true := by kernel_rfl
theorem seqT_14 : seqT Tryz.prog 14 = false := by kernel_rfl
theorem sliceable_14 : sliceable Tryz.prog 14 = false := by kernel_rfl
theorem szOf_15 : szOf Tryz.prog 15 = 1 := by kernel_rfl
theorem aggT_15 : aggT Tryz.prog 15 = some false := by kernel_rfl
theorem elemT_15 : elemT Tryz.prog 15 = none := by kernel_rfl
theorem bytesOf_15 : bytesOf Tryz.prog 15 = some 8 := by kernel_rfl
theorem zeroOf_15 : zeroOf Tryz.prog 15 = some [A.nilp] := by kernel_rfl
theorem arrT_15 : arrT Tryz.prog 15 = none := by kernel_rfl
theorem isStr_15 : isStr Tryz.prog 15 = false := by kernel_rfl
theorem isBool_15 : isBool Tryz.prog 15 = false := by kernel_rfl
theorem isPtr_15 : isPtr Tryz.prog 15 = true := by kernel_rfl
theorem isU8_15 : isU8 Tryz.prog 15 = false := by kernel_rfl
theorem isIfc_15 : isIfc Tryz.prog 15 = false := by kernel_rfl
theorem ifcT_15 : ifcT Tryz.prog 15 = false := by kernel_rfl
theorem seqT_15 : seqT Tryz.prog 15 = false := by kernel_rfl
theorem sliceable_15 : sliceable Tryz.prog 15 = false := by kernel_rfl
theorem szOf_16 : szOf Tryz.prog 16 = 1 := by kernel_rfl
theorem aggT_16 : aggT Tryz.prog 16 = some false := by kernel_rfl
theorem elemT_16 : elemT Tryz.prog 16 = none := by kernel_rfl
theorem bytesOf_16 : bytesOf Tryz.prog 16 = some 8 := by kernel_rfl
theorem zeroOf_16 : zeroOf Tryz.prog 16 = some [A.nilp] := by kernel_rfl
theorem arrT_16 : arrT Tryz.prog 16 = none := by kernel_rfl
theorem isStr_16 : isStr Tryz.prog 16 = false := by kernel_rfl
theorem isBool_16 : isBool Tryz.prog 16 = false := by kernel_rfl
theorem isPtr_16 : isPtr Tryz.prog 16 = true := by kernel_rfl
theorem isU8_16 : isU8 Tryz.prog 16 = false := by kernel_rfl
theorem isIfc_16 : isIfc Tryz.prog 16 = false := by kernel_rfl
theorem ifcT_16 : ifcT Tryz.prog 16 = false := by kernel_rfl
theorem seqT_16 : seqT Tryz.prog 16 = false := by kernel_rfl
theorem sliceable_16 : sliceable Tryz.prog 16 = false := by kernel_rfl
theorem szOf_17 : szOf Tryz.prog 17 = 1 := by kernel_rfl
theorem aggT_17 : aggT Tryz.prog 17 = some false := by kernel_rfl
theorem elemT_17 : elemT Tryz.prog 17 = none := by kernel_rfl
theorem bytesOf_17 : bytesOf Tryz.prog 17 = some 8 := by kernel_rfl
theorem zeroOf_17 : zeroOf Tryz.prog 17 = some [A.nilp] := by kernel_rfl
theorem arrT_17 : arrT Tryz.prog 17 = none := by kernel_rfl
theorem isStr_17 : isStr Tryz.prog 17 = false := by kernel_rfl
theorem isBool_17 : isBool Tryz.prog 17 = false := by kernel_rfl
theorem isPtr_17 : isPtr Tryz.prog 17 = true := by kernel_rfl
theorem isU8_17 : isU8 Tryz.prog 17 = false := by kernel_rfl
theorem isIfc_17 : isIfc Tryz.prog 17 = false := by kernel_rfl
theorem ifcT_17 : ifcT Tryz.prog 17 = false := by kernel_rfl
theorem seqT_17 : seqT Tryz.prog 17 = false := by kernel_rfl
theorem sliceable_17 : sliceable Tryz.prog 17 = false := by kernel_rfl
theorem szOf_18 : szOf Tryz.prog 18 = 1 := by kernel_rfl
theorem aggT_18 : aggT Tryz.prog 18 = some true := by kernel_rfl
theorem elemT_18 : elemT Tryz.prog 18 = none := by kernel_rfl
theorem bytesOf_18 : bytesOf Tryz.prog 18 = some 8 := by kernel_rfl
theorem zeroOf_18 : zeroOf Tryz.prog 18 = some [A.nilp] := by kernel_rfl
theorem arrT_18 : arrT Tryz.prog 18 = none := by kernel_rfl
theorem fieldT_18_0 : fieldT Tryz.prog 18 0 = some (0, 17) := by kernel_rfl
theorem isStr_18 : isStr Tryz.prog 18 = false := by kernel_rfl
theorem isBool_18 : isBool Tryz.prog 18 = false := by kernel_rfl
theorem isPtr_18 : isPtr Tryz.prog 18 = false := by kernel_rfl
theorem isU8_18 : isU8 Tryz.prog 18 = false := by kernel_rfl
theorem isIfc_18 : isIfc Tryz.prog 18 = false := by kernel_rfl
theorem ifcT_18 : ifcT Tryz.prog 18 = false := by kernel_rfl
theorem fieldsOk_18 : fieldsOk Tryz.prog 18 = true := by kernel_rfl
theorem seqT_18 : seqT Tryz.prog 18 = false := by kernel_rfl
theorem sliceable_18 : sliceable Tryz.prog 18 = false := by kernel_rfl
theorem szOf_19 : szOf Tryz.prog 19 = 1 := by kernel_rfl
theorem aggT_19 : aggT Tryz.prog 19 = some true := by kernel_rfl
theorem elemT_19 : elemT Tryz.prog 19 = none := by kernel_rfl
theorem bytesOf_19 : bytesOf Tryz.prog 19 = some 8 := by kernel_rfl
theorem zeroOf_19 : zeroOf Tryz.prog 19 = some [A.nilp] := by kernel_rfl
theorem arrT_19 : arrT Tryz.prog 19 = none := by kernel_rfl
theorem fieldT_19_0 : fieldT Tryz.prog 19 0 = some (0, 17) := by kernel_rfl
theorem isStr_19 : isStr Tryz.prog 19 = false := by kernel_rfl
theorem isBool_19 : isBool Tryz.prog 19 = false := by kernel_rfl
theorem isPtr_19 : isPtr Tryz.prog 19 = false := by kernel_rfl
theorem isU8_19 : isU8 Tryz.prog 19 = false := by kernel_rfl
theorem isIfc_19 : isIfc Tryz.prog 19 = false := by kernel_rfl
theorem ifcT_19 : ifcT Tryz.prog 19 = false := by kernel_rfl
theorem fieldsOk_19 : fieldsOk Tryz.prog 19 = true := by kernel_rfl
theorem seqT_19 : seqT Tryz.prog 19 = false := by kernel_rfl
theorem sliceable_19 : sliceable Tryz.prog 19 = false := by kernel_rfl
theorem szOf_20 : szOf Tryz.prog 20 = 1 := by kernel_rfl
theorem aggT_20 : aggT Tryz.prog 20 = some false := by kernel_rfl
theorem elemT_20 : elemT Tryz.prog 20 = none := by kernel_rfl
theorem bytesOf_20 : bytesOf Tryz.prog 20 = some 16 := by kernel_rfl
theorem zeroOf_20 : zeroOf Tryz.prog 20 = some [A.nili] := by kernel_rfl
theorem arrT_20 : arrT Tryz.prog 20 = none := by kernel_rfl
theorem isStr_20 : isStr Tryz.prog 20 = false := by kernel_rfl
theorem isBool_20 : isBool Tryz.prog 20 = false := by kernel_rfl
theorem isPtr_20 : isPtr Tryz.prog 20 = false := by kernel_rfl
theorem isU8_20 : isU8 Tryz.prog 20 = false := by kernel_rfl
theorem isIfc_20 : isIfc Tryz.prog 20 = true := by kernel_rfl
theorem ifcT_20 : ifcT Tryz.prog 20 = true := by kernel_rfl
theorem seqT_20 : seqT Tryz.prog 20 = false := by kernel_rfl
theorem sliceable_20 : sliceable Tryz.prog 20 = false := by kernel_rfl
theorem szOf_21 : szOf Tryz.prog 21 = 1 := by kernel_rfl
theorem aggT_21 : aggT Tryz.prog 21 = some false := by kernel_rfl
theorem elemT_21 : elemT Tryz.prog 21 = none := by kernel_rfl
theorem bytesOf_21 : bytesOf Tryz.prog 21 = some 4 := by kernel_rfl
theorem zeroOf_21 : zeroOf Tryz.prog 21 = some [A.int .i32 0] := by kernel_rfl
theorem arrT_21 : arrT Tryz.prog 21 = none := by kernel_rfl
theorem isStr_21 : isStr Tryz.prog 21 = false := by kernel_rfl
theorem isBool_21 : isBool Tryz.prog 21 = false := by kernel_rfl
theorem isPtr_21 : isPtr Tryz.prog 21 = false := by kernel_rfl
theorem isU8_21 : isU8 Tryz.prog 21 = false := by kernel_rfl
theorem isIfc_21 : isIfc Tryz.prog 21 = false := by kernel_rfl
theorem ifcT_21 : ifcT Tryz.prog 21 = false := by kernel_rfl
theorem seqT_21 : seqT Tryz.prog 21 = false := by kernel_rfl
theorem sliceable_21 : sliceable Tryz.prog 21 = false := by kernel_rfl
theorem szOf_22 : szOf Tryz.prog 22 = 1 := by kernel_rfl
theorem aggT_22 : aggT Tryz.prog 22 = some false := by kernel_rfl
theorem elemT_22 : elemT Tryz.prog 22 = some 24 := by kernel_rfl
theorem bytesOf_22 : bytesOf Tryz.prog 22 = some 24 := by kernel_rfl
theorem zeroOf_22 : zeroOf Tryz.prog 22 = some [A.nils] := by kernel_rfl
theorem arrT_22 : arrT Tryz.prog 22 = none := by kernel_rfl
theorem isStr_22 : isStr Tryz.prog 22 = false := by kernel_rfl
theorem isBool_22 : isBool Tryz.prog 22 = false := by kernel_rfl
theorem isPtr_22 : isPtr Tryz.prog 22 = false := by kernel_rfl
theorem isU8_22 : isU8 Tryz.prog 22 = false := by kernel_rfl
theorem isIfc_22 : isIfc Tryz.prog 22 = false := by kernel_rfl
theorem ifcT_22 : ifcT Tryz.prog 22 = false := by kernel_rfl
theorem seqT_22 : seqT Tryz.prog 22 = true := by kernel_rfl
theorem sliceable_22 : sliceable Tryz.prog 22 = true := by kernel_rfl
theorem szOf_23 : szOf Tryz.prog 23 = 3 := by kernel_rfl
theorem aggT_23 : aggT Tryz.prog 23 = some true := by kernel_rfl
theorem elemT_23 : elemT Tryz.prog 23 = none := by kernel_rfl
theorem bytesOf_23 : bytesOf Tryz.prog 23 = some 40 := by kernel_rfl
theorem zeroOf_23 : zeroOf Tryz.prog 23 = some [A.int .i64 0, A.int .i64 0, A.nils] := by kernel_rfl
theorem arrT_23 : arrT Tryz.prog 23 = none := by kernel_rfl
theorem fieldT_23_0 : fieldT Tryz.prog 23 0 = some (0, 3) := by kernel_rfl
theorem fieldT_23_1 : fieldT Tryz.prog 23 1 = some (1, 3) := by kernel_rfl
theorem fieldT_23_2 : fieldT Tryz.prog 23 2 = some (2, 22) := by kernel_rfl
theorem isStr_23 : isStr Tryz.prog 23 = false := by kernel_rfl
theorem isBool_23 : isBool Tryz.prog 23 = false := by kernel_rfl
theorem isPtr_23 : isPtr Tryz.prog 23 = false := by kernel_rfl
theorem isU8_23 : isU8 Tryz.prog 23 = false := by kernel_rfl
theorem isIfc_23 : isIfc Tryz.prog 23 = false := by kernel_rfl
theorem ifcT_23 : ifcT Tryz.prog 23 = false := by kernel_rfl
theorem fieldsOk_23 : fieldsOk Tryz.prog 23 = true := by kernel_rfl
theorem seqT_23 : seqT Tryz.prog 23 = false := by kernel_rfl
theorem sliceable_23 : sliceable Tryz.prog 23 = false := by kernel_rfl
theorem szOf_24 : szOf Tryz.prog 24 = 3 := by kernel_rfl
theorem aggT_24 : aggT Tryz.prog 24 = some true := by kernel_rfl
theorem elemT_24 : elemT Tryz.prog 24 = none := by kernel_rfl
theorem bytesOf_24 : bytesOf Tryz.prog 24 = some 40 := by kernel_rfl
theorem zeroOf_24 : zeroOf Tryz.prog 24 = some [A.int .i64 0, A.int .i64 0, A.nils] := by kernel_rfl
theorem arrT_24 : arrT Tryz.prog 24 = none := by kernel_rfl
theorem fieldT_24_0 : fieldT Tryz.prog 24 0 = some (0, 3) := by kernel_rfl
theorem fieldT_24_1 : fieldT Tryz.prog 24 1 = some (1, 3) := by kernel_rfl
theorem fieldT_24_2 : fieldT Tryz.prog 24 2 = some (2, 22) := by kernel_rfl
theorem isStr_24 : isStr Tryz.prog 24 = false := by kernel_rfl
theorem isBool_24 : isBool Tryz.prog 24 = false := by kernel_rfl
theorem isPtr_24 : isPtr Tryz.prog 24 = false := by kernel_rfl
theorem isU8_24 : isU8 Tryz.prog 24 = false := by kernel_rfl
theorem isIfc_24 : isIfc Tryz.prog 24 = false := by kernel_rfl
theorem ifcT_24 : ifcT Tryz.prog 24 = false := by kernel_rfl
theorem fieldsOk_24 : fieldsOk Tryz.prog 24 = true := by kernel_rfl
theorem seqT_24 : seqT Tryz.prog 24 = false := by kernel_rfl
theorem sliceable_24 : sliceable Tryz.prog 24 = false := by kernel_rfl
theorem szOf_25 : szOf Tryz.prog 25 = 1 := by kernel_rfl
theorem aggT_25 : aggT Tryz.prog 25 = some false := by kernel_rfl
theorem elemT_25 : elemT Tryz.prog 25 = some 28 := by kernel_rfl
theorem bytesOf_25 : bytesOf Tryz.prog 25 = some 24 := by kernel_rfl
theorem zeroOf_25 : zeroOf Tryz.prog 25 = some [A.nils] := by kernel_rfl
theorem arrT_25 : arrT Tryz.prog 25 = none := by kernel_rfl
theorem isStr_25 : isStr Tryz.prog 25 = false := by kernel_rfl
theorem isBool_25 : isBool Tryz.prog 25 = false := by kernel_rfl
theorem isPtr_25 : isPtr Tryz.prog 25 = false := by kernel_rfl
theorem isU8_25 : isU8 Tryz.prog 25 = false := by kernel_rfl
theorem isIfc_25 : isIfc Tryz.prog 25 = false := by kernel_rfl
theorem ifcT_25 : ifcT Tryz.prog 25 = false := by kernel_rfl
theorem seqT_25 : seqT Tryz.prog 25 = true := by kernel_rfl
theorem sliceable_25 : sliceable Tryz.prog 25 = true := by kernel_rfl
theorem szOf_26 : szOf Tryz.prog 26 = 1 := by kernel_rfl
theorem aggT_26 : aggT Tryz.prog 26 = some false := by kernel_rfl
theorem elemT_26 : elemT Tryz.prog 26 = some 3 := by kernel_rfl
theorem bytesOf_26 : bytesOf Tryz.prog 26 = some 24 := by kernel_rfl
theorem zeroOf_26 : zeroOf Tryz.prog 26 = some [A.nils] := by kernel_rfl
theorem arrT_26 : arrT Tryz.prog 26 = none := by kernel_rfl
theorem isStr_26 : isStr Tryz.prog 26 = false := by kernel_rfl
theorem isBool_26 : isBool Tryz.prog 26 = false := by kernel_rfl
theorem isPtr_26 : isPtr Tryz.prog 26 = false := by kernel_rfl
theorem isU8_26 : isU8 Tryz.prog 26 = false := by kernel_rfl
theorem isIfc_26 : isIfc Tryz.prog 26 = false := by kernel_rfl
theorem ifcT_26 : ifcT Tryz.prog 26 = false := by kernel_rfl
theorem seqT_26 : seqT Tryz.prog 26 = true := by kernel_rfl
theorem sliceable_26 : sliceable Tryz.prog 26 = true := by kernel_rfl
theorem szOf_27 : szOf Tryz.prog 27 = 3 := by kernel_rfl
theorem aggT_27 : aggT Tryz.prog 27 = some true := by kernel_rfl
theorem elemT_27 : elemT Tryz.prog 27 = none := by kernel_rfl
theorem bytesOf_27 : bytesOf Tryz.prog 27 = some 56 := by kernel_rfl
theorem zeroOf_27 : zeroOf Tryz.prog 27 = some [A.int .i64 0, A.nils, A.nils] := by kernel_rfl
theorem arrT_27 : arrT Tryz.prog 27 = none := by kernel_rfl
theorem fieldT_27_0 : fieldT Tryz.prog 27 0 = some (0, 3) := by kernel_rfl
theorem fieldT_27_1 : fieldT Tryz.prog 27 1 = some (1, 25) := by kernel_rfl
theorem fieldT_27_2 : fieldT Tryz.prog 27 2 = some (2, 26) := by kernel_rfl
theorem isStr_27 : isStr Tryz.prog 27 = false := by kernel_rfl
theorem isBool_27 : isBool Tryz.prog 27 = false := by kernel_rfl
theorem isPtr_27 : isPtr Tryz.prog 27 = false := by kernel_rfl
theorem isU8_27 : isU8 Tryz.prog 27 = false := by kernel_rfl
theorem isIfc_27 : isIfc Tryz.prog 27 = false := by kernel_rfl
theorem ifcT_27 : ifcT Tryz.prog 27 = false := by kernel_rfl
theorem fieldsOk_27 : fieldsOk Tryz.prog 27 = true := by kernel_rfl
theorem seqT_27 : seqT Tryz.prog 27 = false := by kernel_rfl
theorem sliceable_27 : sliceable Tryz.prog 27 = false := by kernel_rfl
theorem szOf_28 : szOf Tryz.prog 28 = 3 := by kernel_rfl
theorem aggT_28 : aggT Tryz.prog 28 = some true := by kernel_rfl
theorem elemT_28 : elemT Tryz.prog 28 = none := by kernel_rfl
theorem bytesOf_28 : bytesOf Tryz.prog 28 = some 56 := by kernel_rfl
theorem zeroOf_28 : zeroOf Tryz.prog 28 = some [A.int .i64 0, A.nils, A.nils] := by kernel_rfl
theorem arrT_28 : arrT Tryz.prog 28 = none := by kernel_rfl
theorem fieldT_28_0 : fieldT Tryz.prog 28 0 = some (0, 3) := by kernel_rfl
theorem fieldT_28_1 : fieldT Tryz.prog 28 1 = some (1, 25) := by kernel_rfl
theorem fieldT_28_2 : fieldT Tryz.prog 28 2 = some (2, 26) := by kernel_rfl
theorem isStr_28 : isStr Tryz.prog 28 = false := by kernel_rfl
theorem isBool_28 : isBool Tryz.prog 28 = false := by kernel_rfl
theorem isPtr_28 : isPtr Tryz.prog 28 = false := by kernel_rfl
theorem isU8_28 : isU8 Tryz.prog 28 = false := by kernel_rfl
theorem isIfc_28 : isIfc Tryz.prog 28 = false := by kernel_rfl
theorem ifcT_28 : ifcT Tryz.prog 28 = false := by kernel_rfl
theorem fieldsOk_28 : fieldsOk Tryz.prog 28 = true := by kernel_rfl
theorem seqT_28 : seqT Tryz.prog 28 = false := by kernel_rfl
theorem sliceable_28 : sliceable Tryz.prog 28 = false := by kernel_rfl
theorem szOf_29 : szOf Tryz.prog 29 = 1 := by kernel_rfl
theorem aggT_29 : aggT Tryz.prog 29 = some false := by kernel_rfl
theorem elemT_29 : elemT Tryz.prog 29 = none := by kernel_rfl
theorem bytesOf_29 : bytesOf Tryz.prog 29 = some 8 := by kernel_rfl
theorem zeroOf_29 : zeroOf Tryz.prog 29 = some [A.nilf] := by kernel_rfl
theorem arrT_29 : arrT Tryz.prog 29 = none := by kernel_rfl
theorem isStr_29 : isStr Tryz.prog 29 = false := by kernel_rfl
theorem isBool_29 : isBool Tryz.prog 29 = false := by kernel_rfl
theorem isPtr_29 : isPtr Tryz.prog 29 = false := by kernel_rfl
theorem isU8_29 : isU8 Tryz.prog 29 = false := by kernel_rfl
theorem isIfc_29 : isIfc Tryz.prog 29 = false := by kernel_rfl
theorem ifcT_29 : ifcT Tryz.prog 29 = false := by kernel_rfl
theorem seqT_29 : seqT Tryz.prog 29 = false := by kernel_rfl
theorem sliceable_29 : sliceable Tryz.prog 29 = false := by kernel_rfl
theorem szOf_30 : szOf Tryz.prog 30 = 1 := by kernel_rfl
theorem aggT_30 : aggT Tryz.prog 30 = some false := by kernel_rfl
theorem elemT_30 : elemT Tryz.prog 30 = none := by kernel_rfl
theorem bytesOf_30 : bytesOf Tryz.prog 30 = some 8 := by kernel_rfl
theorem zeroOf_30 : zeroOf Tryz.prog 30 = some [A.nilf] := by kernel_rfl
theorem arrT_30 : arrT Tryz.prog 30 = none := by kernel_rfl
theorem isStr_30 : isStr Tryz.prog 30 = false := by kernel_rfl
theorem isBool_30 : isBool Tryz.prog 30 = false := by kernel_rfl
theorem isPtr_30 : isPtr Tryz.prog 30 = false := by kernel_rfl
theorem isU8_30 : isU8 Tryz.prog 30 = false := by kernel_rfl
theorem isIfc_30 : isIfc Tryz.prog 30 = false := by kernel_rfl
theorem ifcT_30 : ifcT Tryz.prog 30 = false := by kernel_rfl
theorem seqT_30 : seqT Tryz.prog 30 = false := by kernel_rfl
theorem sliceable_30 : sliceable Tryz.prog 30 = false := by kernel_rfl
theorem szOf_31 : szOf Tryz.prog 31 = 1 := by kernel_rfl
theorem aggT_31 : aggT Tryz.prog 31 = some false := by kernel_rfl
theorem elemT_31 : elemT Tryz.prog 31 = none := by kernel_rfl
theorem bytesOf_31 : bytesOf Tryz.prog 31 = some 8 := by kernel_rfl
theorem zeroOf_31 : zeroOf Tryz.prog 31 = some [A.int .i64 0] := by kernel_rfl
theorem arrT_31 : arrT Tryz.prog 31 = none := by kernel_rfl
theorem isStr_31 : isStr Tryz.prog 31 = false := by kernel_rfl
theorem isBool_31 : isBool Tryz.prog 31 = false := by kernel_rfl
theorem isPtr_31 : isPtr Tryz.prog 31 = false := by kernel_rfl
theorem isU8_31 : isU8 Tryz.prog 31 = false := by kernel_rfl
theorem isIfc_31 : isIfc Tryz.prog 31 = false := by kernel_rfl
theorem ifcT_31 : ifcT Tryz.prog 31 = false := by kernel_rfl
theorem seqT_31 : seqT Tryz.prog 31 = false := by kernel_rfl
theorem sliceable_31 : sliceable Tryz.prog 31 = false := by kernel_rfl
theorem szOf_33 : szOf Tryz.prog 33 = 1 := by kernel_rfl
theorem aggT_33 : aggT Tryz.prog 33 = some false := by kernel_rfl
theorem elemT_33 : elemT Tryz.prog 33 = none := by kernel_rfl
theorem bytesOf_33 : bytesOf Tryz.prog 33 = some 8 := by kernel_rfl
theorem zeroOf_33 : zeroOf Tryz.prog 33 = some [A.nilf] := by kernel_rfl
theorem arrT_33 : arrT Tryz.prog 33 = none := by kernel_rfl
theorem isStr_33 : isStr Tryz.prog 33 = false := by kernel_rfl
theorem isBool_33 : isBool Tryz.prog 33 = false := by kernel_rfl
theorem isPtr_33 : isPtr Tryz.prog 33 = false := by kernel_rfl
theorem isU8_33 : isU8 Tryz.prog 33 = false := by kernel_rfl
theorem isIfc_33 : isIfc Tryz.prog 33 = false := by kernel_rfl
theorem ifcT_33 : ifcT Tryz.prog 33 = false := by kernel_rfl
theorem seqT_33 : seqT Tryz.prog 33 = false := by kernel_rfl
theorem sliceable_33 : sliceable Tryz.prog 33 = false := by kernel_rfl
theorem szOf_34 : szOf Tryz.prog 34 = 1 := by kernel_rfl
theorem aggT_34 : aggT Tryz.prog 34 = some false := by kernel_rfl
theorem elemT_34 : elemT Tryz.prog 34 = none := by kernel_rfl
theorem bytesOf_34 : bytesOf Tryz.prog 34 = some 8 := by kernel_rfl
theorem zeroOf_34 : zeroOf Tryz.prog 34 = some [A.nilf] := by kernel_rfl
theorem arrT_34 : arrT Tryz.prog 34 = none := by kernel_rfl
theorem isStr_34 : isStr Tryz.prog 34 = false := by kernel_rfl
theorem isBool_34 : isBool Tryz.prog 34 = false := by kernel_rfl
theorem isPtr_34 : isPtr Tryz.prog 34 = false := by kernel_rfl
theorem isU8_34 : isU8 Tryz.prog 34 = false := by kernel_rfl
theorem isIfc_34 : isIfc Tryz.prog 34 = false := by kernel_rfl
theorem ifcT_34 : ifcT Tryz.prog 34 = false := by kernel_rfl
theorem seqT_34 : seqT Tryz.prog 34 = false := by kernel_rfl
theorem sliceable_34 : sliceable Tryz.prog 34 = false := by kernel_rfl
theorem szOf_35 : szOf Tryz.prog 35 = 1 := by kernel_rfl
theorem aggT_35 : aggT Tryz.prog 35 = some false := by kernel_rfl
theorem elemT_35 : elemT Tryz.prog 35 = none := by kernel_rfl
theorem bytesOf_35 : bytesOf Tryz.prog 35 = some 8 := by kernel_rfl
theorem zeroOf_35 : zeroOf Tryz.prog 35 = some [A.nilf] := by kernel_rfl
theorem arrT_35 : arrT Tryz.prog 35 = none := by kernel_rfl
theorem isStr_35 : isStr Tryz.prog 35 = false := by kernel_rfl
theorem isBool_35 : isBool Tryz.prog 35 = false := by kernel_rfl
theorem isPtr_35 : isPtr Tryz.prog 35 = false := by kernel_rfl
theorem isU8_35 : isU8 Tryz.prog 35 = false := by kernel_rfl
theorem isIfc_35 : isIfc Tryz.prog 35 = false := by kernel_rfl
theorem ifcT_35 : ifcT Tryz.prog 35 = false := by kernel_rfl
theorem seqT_35 : seqT Tryz.prog 35 = false := by kernel_rfl
theorem sliceable_35 : sliceable Tryz.prog 35 = false := by kernel_rfl
theorem szOf_36 : szOf Tryz.prog 36 = 1 := by kernel_rfl
theorem aggT_36 : aggT Tryz.prog 36 = some false := by kernel_rfl
theorem elemT_36 : elemT Tryz.prog 36 = none := by kernel_rfl
theorem bytesOf_36 : bytesOf Tryz.prog 36 = some 8 := by kernel_rfl
theorem zeroOf_36 : zeroOf Tryz.prog 36 = some [A.nilf] := by kernel_rfl
theorem arrT_36 : arrT Tryz.prog 36 = none := by kernel_rfl
theorem isStr_36 : isStr Tryz.prog 36 = false := by kernel_rfl
theorem isBool_36 : isBool Tryz.prog 36 = false := by kernel_rfl
theorem isPtr_36 : isPtr Tryz.prog 36 = false := by kernel_rfl
theorem isU8_36 : isU8 Tryz.prog 36 = false := by kernel_rfl
theorem isIfc_36 : isIfc Tryz.prog 36 = false := by kernel_rfl
theorem ifcT_36 : ifcT Tryz.prog 36 = false := by kernel_rfl
theorem seqT_36 : seqT Tryz.prog 36 = false := by kernel_rfl
theorem sliceable_36 : sliceable Tryz.prog 36 = false := by kernel_rfl
theorem szOf_37 : szOf Tryz.prog 37 = 1 := by kernel_rfl
theorem aggT_37 : aggT Tryz.prog 37 = some false := by kernel_rfl
theorem elemT_37 : elemT Tryz.prog 37 = none := by kernel_rfl
theorem bytesOf_37 : bytesOf Tryz.prog 37 = some 8 := by kernel_rfl
theorem zeroOf_37 : zeroOf Tryz.prog 37 = some [A.nilf] := by kernel_rfl
theorem arrT_37 : arrT Tryz.prog 37 = none := by kernel_rfl
theorem isStr_37 : isStr Tryz.prog 37 = false := by kernel_rfl
theorem isBool_37 : isBool Tryz.prog 37 = false := by kernel_rfl
theorem isPtr_37 : isPtr Tryz.prog 37 = false := by kernel_rfl
theorem isU8_37 : isU8 Tryz.prog 37 = false := by kernel_rfl
theorem isIfc_37 : isIfc Tryz.prog 37 = false := by kernel_rfl
theorem ifcT_37 : ifcT Tryz.prog 37 = false := by kernel_rfl
theorem seqT_37 : seqT Tryz.prog 37 = false := by kernel_rfl
theorem sliceable_37 : sliceable Tryz.prog 37 = false := by kernel_rfl
theorem szOf_38 : szOf Tryz.prog 38 = 1 := by kernel_rfl
theorem aggT_38 : aggT Tryz.prog 38 = some false := by kernel_rfl
theorem elemT_38 : elemT Tryz.prog 38 = none := by kernel_rfl
theorem bytesOf_38 : bytesOf Tryz.prog 38 = some 8 := by kernel_rfl
theorem zeroOf_38 : zeroOf Tryz.prog 38 = some [A.nilf] := by kernel_rfl
theorem arrT_38 : arrT Tryz.prog 38 = none := by kernel_rfl
theorem isStr_38 : isStr Tryz.prog 38 = false := by kernel_rfl
theorem isBool_38 : isBool Tryz.prog 38 = false := by kernel_rfl
theorem isPtr_38 : isPtr Tryz.prog 38 = false := by kernel_rfl
theorem isU8_38 : isU8 Tryz.prog 38 = false := by kernel_rfl
theorem isIfc_38 : isIfc Tryz.prog 38 = false := by kernel_rfl
theorem ifcT_38 : ifcT Tryz.prog 38 = false := by kernel_rfl
theorem seqT_38 : seqT Tryz.prog 38 = false := by kernel_rfl
theorem sliceable_38 : sliceable Tryz.prog 38 = false := by kernel_rfl
theorem szOf_39 : szOf Tryz.prog 39 = 1 := by kernel_rfl
theorem aggT_39 : aggT Tryz.prog 39 = some false := by kernel_rfl
theorem elemT_39 : elemT Tryz.prog 39 = some 5 := by kernel_rfl
theorem bytesOf_39 : bytesOf Tryz.prog 39 = some 24 := by kernel_rfl
theorem zeroOf_39 : zeroOf Tryz.prog 39 = some [A.nils] := by kernel_rfl
theorem arrT_39 : arrT Tryz.prog 39 = none := by kernel_rfl
theorem isStr_39 : isStr Tryz.prog 39 = false := by kernel_rfl
theorem isBool_39 : isBool Tryz.prog 39 = false := by kernel_rfl
theorem isPtr_39 : isPtr Tryz.prog 39 = false := by kernel_rfl
theorem isU8_39 : isU8 Tryz.prog 39 = false := by kernel_rfl
theorem isIfc_39 : isIfc Tryz.prog 39 = false := by kernel_rfl
theorem ifcT_39 : ifcT Tryz.prog 39 = false := by kernel_rfl
theorem seqT_39 : seqT Tryz.prog 39 = true := by kernel_rfl
theorem sliceable_39 : sliceable Tryz.prog 39 = true := by kernel_rfl
theorem szOf_41 : szOf Tryz.prog 41 = 1 := by kernel_rfl
theorem aggT_41 : aggT Tryz.prog 41 = some false := by kernel_rfl
theorem elemT_41 : elemT Tryz.prog 41 = none := by kernel_rfl
theorem bytesOf_41 : bytesOf Tryz.prog 41 = some 8 := by kernel_rfl
theorem zeroOf_41 : zeroOf Tryz.prog 41 = some [A.nilf] := by kernel_rfl
theorem arrT_41 : arrT Tryz.prog 41 = none := by kernel_rfl
theorem isStr_41 : isStr Tryz.prog 41 = false := by kernel_rfl
theorem isBool_41 : isBool Tryz.prog 41 = false := by kernel_rfl
theorem isPtr_41 : isPtr Tryz.prog 41 = false := by kernel_rfl
theorem isU8_41 : isU8 Tryz.prog 41 = false := by kernel_rfl
theorem isIfc_41 : isIfc Tryz.prog 41 = false := by kernel_rfl
theorem ifcT_41 : ifcT Tryz.prog 41 = false := by kernel_rfl
theorem seqT_41 : seqT Tryz.prog 41 = false := by kernel_rfl
theorem sliceable_41 : sliceable Tryz.prog 41 = false := by kernel_rfl
theorem szOf_42 : szOf Tryz.prog 42 = 1 := by kernel_rfl
theorem aggT_42 : aggT Tryz.prog 42 = some false := by kernel_rfl
theorem elemT_42 : elemT Tryz.prog 42 = none := by kernel_rfl
theorem bytesOf_42 : bytesOf Tryz.prog 42 = some 8 := by kernel_rfl
theorem zeroOf_42 : zeroOf Tryz.prog 42 = some [A.nilf] := by kernel_rfl
theorem arrT_42 : arrT Tryz.prog 42 = none := by kernel_rfl
theorem isStr_42 : isStr Tryz.prog 42 = false := by kernel_rfl
theorem isBool_42 : isBool Tryz.prog 42 = false := by kernel_rfl
theorem isPtr_42 : isPtr Tryz.prog 42 = false := by kernel_rfl
theorem isU8_42 : isU8 Tryz.prog 42 = false := by kernel_rfl
theorem isIfc_42 : isIfc Tryz.prog 42 = false := by kernel_rfl
theorem ifcT_42 : ifcT Tryz.prog 42 = false := by kernel_rfl
theorem seqT_42 : seqT Tryz.prog 42 = false := by kernel_rfl
theorem sliceable_42 : sliceable Tryz.prog 42 = false := by kernel_rfl
theorem szOf_43 : szOf Tryz.prog 43 = 1 := by kernel_rfl
theorem aggT_43 : aggT Tryz.prog 43 = some false := by kernel_rfl
theorem elemT_43 : elemT Tryz.prog 43 = none := by kernel_rfl
theorem bytesOf_43 : bytesOf Tryz.prog 43 = some 8 := by kernel_rfl
theorem zeroOf_43 : zeroOf Tryz.prog 43 = some [A.nilf] := by kernel_rfl
theorem arrT_43 : arrT Tryz.prog 43 = none := by kernel_rfl
theorem isStr_43 : isStr Tryz.prog 43 = false := by kernel_rfl
theorem isBool_43 : isBool Tryz.prog 43 = false := by kernel_rfl
theorem isPtr_43 : isPtr Tryz.prog 43 = false := by kernel_rfl
theorem isU8_43 : isU8 Tryz.prog 43 = false := by kernel_rfl
theorem isIfc_43 : isIfc Tryz.prog 43 = false := by kernel_rfl
theorem ifcT_43 : ifcT Tryz.prog 43 = false := by kernel_rfl
theorem seqT_43 : seqT Tryz.prog 43 = false := by kernel_rfl
theorem sliceable_43 : sliceable Tryz.prog 43 = false := by kernel_rfl
theorem szOf_44 : szOf Tryz.prog 44 = 1 := by kernel_rfl
theorem aggT_44 : aggT Tryz.prog 44 = some false := by kernel_rfl
theorem elemT_44 : elemT Tryz.prog 44 = none := by kernel_rfl
theorem bytesOf_44 : bytesOf Tryz.prog 44 = some 8 := by kernel_rfl
theorem zeroOf_44 : zeroOf Tryz.prog 44 = some [A.nilf] := by kernel_rfl
theorem arrT_44 : arrT Tryz.prog 44 = none := by kernel_rfl
theorem isStr_44 : isStr Tryz.prog 44 = false := by kernel_rfl
theorem isBool_44 : isBool Tryz.prog 44 = false := by kernel_rfl
theorem isPtr_44 : isPtr Tryz.prog 44 = false := by kernel_rfl
theorem isU8_44 : isU8 Tryz.prog 44 = false := by kernel_rfl
theorem isIfc_44 : isIfc Tryz.prog 44 = false := by kernel_rfl
theorem ifcT_44 : ifcT Tryz.prog 44 = false := by kernel_rfl
theorem seqT_44 : seqT Tryz.prog 44 = false := by kernel_rfl
theorem sliceable_44 : sliceable Tryz.prog 44 = false := by kernel_rfl
theorem szOf_46 : szOf Tryz.prog 46 = 1 := by kernel_rfl
theorem aggT_46 : aggT Tryz.prog 46 = some false := by kernel_rfl
theorem elemT_46 : elemT Tryz.prog 46 = none := by kernel_rfl
theorem bytesOf_46 : bytesOf Tryz.prog 46 = some 8 := by kernel_rfl
theorem zeroOf_46 : zeroOf Tryz.prog 46 = some [A.nilf] := by kernel_rfl
theorem arrT_46 : arrT Tryz.prog 46 = none := by kernel_rfl
theorem isStr_46 : isStr Tryz.prog 46 = false := by kernel_rfl
theorem isBool_46 : isBool Tryz.prog 46 = false := by kernel_rfl
theorem isPtr_46 : isPtr Tryz.prog 46 = false := by kernel_rfl
theorem isU8_46 : isU8 Tryz.prog 46 = false := by kernel_rfl
theorem isIfc_46 : isIfc Tryz.prog 46 = false := by kernel_rfl
theorem ifcT_46 : ifcT Tryz.prog 46 = false := by kernel_rfl
theorem seqT_46 : seqT Tryz.prog 46 = false := by kernel_rfl
theorem sliceable_46 : sliceable Tryz.prog 46 = false := by kernel_rfl
theorem szOf_47 : szOf Tryz.prog 47 = 1 := by kernel_rfl
theorem aggT_47 : aggT Tryz.prog 47 = some false := by kernel_rfl
theorem elemT_47 : elemT Tryz.prog 47 = none := by kernel_rfl
theorem bytesOf_47 : bytesOf Tryz.prog 47 = some 8 := by kernel_rfl
theorem zeroOf_47 : zeroOf Tryz.prog 47 = some [A.nilf] := by kernel_rfl
theorem arrT_47 : arrT Tryz.prog 47 = none := by kernel_rfl
theorem isStr_47 : isStr Tryz.prog 47 = false := by kernel_rfl
theorem isBool_47 : isBool Tryz.prog 47 = false := by kernel_rfl
theorem isPtr_47 : isPtr Tryz.prog 47 = false := by kernel_rfl
theorem isU8_47 : isU8 Tryz.prog 47 = false := by kernel_rfl
theorem isIfc_47 : isIfc Tryz.prog 47 = false := by kernel_rfl
theorem ifcT_47 : ifcT Tryz.prog 47 = false := by kernel_rfl
theorem seqT_47 : seqT Tryz.prog 47 = false := by kernel_rfl
theorem sliceable_47 : sliceable Tryz.prog 47 = false := by kernel_rfl
theorem szOf_48 : szOf Tryz.prog 48 = 1 := by kernel_rfl
theorem aggT_48 : aggT Tryz.prog 48 = some false := by kernel_rfl
theorem elemT_48 : elemT Tryz.prog 48 = none := by kernel_rfl
theorem bytesOf_48 : bytesOf Tryz.prog 48 = some 8 := by kernel_rfl
theorem zeroOf_48 : zeroOf Tryz.prog 48 = some [A.nilf] := by kernel_rfl
theorem arrT_48 : arrT Tryz.prog 48 = none := by kernel_rfl
theorem isStr_48 : isStr Tryz.prog 48 = false := by kernel_rfl
theorem isBool_48 : isBool Tryz.prog 48 = false := by kernel_rfl
theorem isPtr_48 : isPtr Tryz.prog 48 = false := by kernel_rfl
theorem isU8_48 : isU8 Tryz.prog 48 = false := by kernel_rfl
theorem isIfc_48 : isIfc Tryz.prog 48 = false := by kernel_rfl
theorem ifcT_48 : ifcT Tryz.prog 48 = false := by kernel_rfl
theorem seqT_48 : seqT Tryz.prog 48 = false := by kernel_rfl
theorem sliceable_48 : sliceable Tryz.prog 48 = false := by kernel_rfl
theorem szOf_49 : szOf Tryz.prog 49 = 1 := by kernel_rfl
theorem aggT_49 : aggT Tryz.prog 49 = some false := by kernel_rfl
theorem elemT_49 : elemT Tryz.prog 49 = none := by kernel_rfl
theorem bytesOf_49 : bytesOf Tryz.prog 49 = some 8 := by kernel_rfl
theorem zeroOf_49 : zeroOf Tryz.prog 49 = some [A.nilf] := by kernel_rfl
theorem arrT_49 : arrT Tryz.prog 49 = none := by kernel_rfl
theorem isStr_49 : isStr Tryz.prog 49 = false := by kernel_rfl
theorem isBool_49 : isBool Tryz.prog 49 = false := by kernel_rfl
theorem isPtr_49 : isPtr Tryz.prog 49 = false := by kernel_rfl
theorem isU8_49 : isU8 Tryz.prog 49 = false := by kernel_rfl
theorem isIfc_49 : isIfc Tryz.prog 49 = false := by kernel_rfl
theorem ifcT_49 : ifcT Tryz.prog 49 = false := by kernel_rfl
theorem seqT_49 : seqT Tryz.prog 49 = false := by kernel_rfl
theorem sliceable_49 : sliceable Tryz.prog 49 = false := by kernel_rfl
theorem szOf_50 : szOf Tryz.prog 50 = 1 := by kernel_rfl
theorem aggT_50 : aggT Tryz.prog 50 = some false := by kernel_rfl
theorem elemT_50 : elemT Tryz.prog 50 = none := by kernel_rfl
theorem bytesOf_50 : bytesOf Tryz.prog 50 = some 8 := by kernel_rfl
theorem zeroOf_50 : zeroOf Tryz.prog 50 = some [A.nilf] := by kernel_rfl
theorem arrT_50 : arrT Tryz.prog 50 = none := by kernel_rfl
theorem isStr_50 : isStr Tryz.prog 50 = false := by kernel_rfl
theorem isBool_50 : isBool Tryz.prog 50 = false := by kernel_rfl
theorem isPtr_50 : isPtr Tryz.prog 50 = false := by kernel_rfl
theorem isU8_50 : isU8 Tryz.prog 50 = false := by kernel_rfl
theorem isIfc_50 : isIfc Tryz.prog 50 = false := by kernel_rfl
theorem ifcT_50 : ifcT Tryz.prog 50 = false := by kernel_rfl
theorem seqT_50 : seqT Tryz.prog 50 = false := by kernel_rfl
theorem sliceable_50 : sliceable Tryz.prog 50 = false := by kernel_rfl
theorem szOf_51 : szOf Tryz.prog 51 = 1 := by kernel_rfl
theorem aggT_51 : aggT Tryz.prog 51 = some false := by kernel_rfl
theorem elemT_51 : elemT Tryz.prog 51 = none := by kernel_rfl
theorem bytesOf_51 : bytesOf Tryz.prog 51 = some 8 := by kernel_rfl
theorem zeroOf_51 : zeroOf Tryz.prog 51 = some [A.nilf] := by kernel_rfl
theorem arrT_51 : arrT Tryz.prog 51 = none := by kernel_rfl
theorem isStr_51 : isStr Tryz.prog 51 = false := by kernel_rfl
theorem isBool_51 : isBool Tryz.prog 51 = false := by kernel_rfl
theorem isPtr_51 : isPtr Tryz.prog 51 = false := by kernel_rfl
theorem isU8_51 : isU8 Tryz.prog 51 = false := by kernel_rfl
theorem isIfc_51 : isIfc Tryz.prog 51 = false := by kernel_rfl
theorem ifcT_51 : ifcT Tryz.prog 51 = false := by kernel_rfl
theorem seqT_51 : seqT Tryz.prog 51 = false := by kernel_rfl
theorem sliceable_51 : sliceable Tryz.prog 51 = false := by kernel_rfl
theorem szOf_52 : szOf Tryz.prog 52 = 1 := by kernel_rfl
theorem aggT_52 : aggT Tryz.prog 52 = some false := by kernel_rfl
theorem elemT_52 : elemT Tryz.prog 52 = none := by kernel_rfl
theorem bytesOf_52 : bytesOf Tryz.prog 52 = some 8 := by kernel_rfl
theorem zeroOf_52 : zeroOf Tryz.prog 52 = some [A.nilf] := by kernel_rfl
theorem arrT_52 : arrT Tryz.prog 52 = none := by kernel_rfl
theorem isStr_52 : isStr Tryz.prog 52 = false := by kernel_rfl
theorem isBool_52 : isBool Tryz.prog 52 = false := by kernel_rfl
theorem isPtr_52 : isPtr Tryz.prog 52 = false := by kernel_rfl
theorem isU8_52 : isU8 Tryz.prog 52 = false := by kernel_rfl
theorem isIfc_52 : isIfc Tryz.prog 52 = false := by kernel_rfl
theorem ifcT_52 : ifcT Tryz.prog 52 = false := by kernel_rfl
theorem seqT_52 : seqT Tryz.prog 52 = false := by kernel_rfl
theorem sliceable_52 : sliceable Tryz.prog 52 = false := by kernel_rfl
theorem szOf_53 : szOf Tryz.prog 53 = 1 := by kernel_rfl
theorem aggT_53 : aggT Tryz.prog 53 = some false := by kernel_rfl
theorem elemT_53 : elemT Tryz.prog 53 = none := by kernel_rfl
theorem bytesOf_53 : bytesOf Tryz.prog 53 = some 8 := by kernel_rfl
theorem zeroOf_53 : zeroOf Tryz.prog 53 = some [A.nilf] := by kernel_rfl
theorem arrT_53 : arrT Tryz.prog 53 = none := by kernel_rfl
theorem isStr_53 : isStr Tryz.prog 53 = false := by kernel_rfl
theorem isBool_53 : isBool Tryz.prog 53 = false := by kernel_rfl
theorem isPtr_53 : isPtr Tryz.prog 53 = false := by kernel_rfl
theorem isU8_53 : isU8 Tryz.prog 53 = false := by kernel_rfl
theorem isIfc_53 : isIfc Tryz.prog 53 = false := by kernel_rfl
theorem ifcT_53 : ifcT Tryz.prog 53 = false := by kernel_rfl
theorem seqT_53 : seqT Tryz.prog 53 = false := by kernel_rfl
theorem sliceable_53 : sliceable Tryz.prog 53 = false := by kernel_rfl
theorem szOf_54 : szOf Tryz.prog 54 = 1 := by kernel_rfl
theorem aggT_54 : aggT Tryz.prog 54 = some false := by kernel_rfl
theorem elemT_54 : elemT Tryz.prog 54 = none := by kernel_rfl
theorem bytesOf_54 : bytesOf Tryz.prog 54 = some 8 := by kernel_rfl
theorem zeroOf_54 : zeroOf Tryz.prog 54 = some [A.nilf] := by kernel_rfl
theorem arrT_54 : arrT Tryz.prog 54 = none := by kernel_rfl
theorem isStr_54 : isStr Tryz.prog 54 = false := by kernel_rfl
theorem isBool_54 : isBool Tryz.prog 54 = false := by kernel_rfl
theorem isPtr_54 : isPtr Tryz.prog 54 = false := by kernel_rfl
theorem isU8_54 : isU8 Tryz.prog 54 = false := by kernel_rfl
theorem isIfc_54 : isIfc Tryz.prog 54 = false := by kernel_rfl
theorem ifcT_54 : ifcT Tryz.prog 54 = false := by kernel_rfl
theorem seqT_54 : seqT Tryz.prog 54 = false := by kernel_rfl
theorem sliceable_54 : sliceable Tryz.prog 54 = false := by kernel_rfl
theorem szOf_55 : szOf Tryz.prog 55 = 1 := by kernel_rfl
theorem aggT_55 : aggT Tryz.prog 55 = some false := by kernel_rfl
theorem elemT_55 : elemT Tryz.prog 55 = none := by kernel_rfl
theorem bytesOf_55 : bytesOf Tryz.prog 55 = some 8 := by kernel_rfl
theorem zeroOf_55 : zeroOf Tryz.prog 55 = some [A.nilf] := by kernel_rfl
theorem arrT_55 : arrT Tryz.prog 55 = none := by kernel_rfl
theorem isStr_55 : isStr Tryz.prog 55 = false := by kernel_rfl
theorem isBool_55 : isBool Tryz.prog 55 = false := by kernel_rfl
theorem isPtr_55 : isPtr Tryz.prog 55 = false := by kernel_rfl
theorem isU8_55 : isU8 Tryz.prog 55 = false := by kernel_rfl
theorem isIfc_55 : isIfc Tryz.prog 55 = false := by kernel_rfl
theorem ifcT_55 : ifcT Tryz.prog 55 = false := by kernel_rfl
theorem seqT_55 : seqT Tryz.prog 55 = false := by kernel_rfl
theorem sliceable_55 : sliceable Tryz.prog 55 = false := by kernel_rfl
theorem szOf_56 : szOf Tryz.prog 56 = 1 := by kernel_rfl
theorem aggT_56 : aggT Tryz.prog 56 = some false := by kernel_rfl
theorem elemT_56 : elemT Tryz.prog 56 = none := by kernel_rfl
theorem bytesOf_56 : bytesOf Tryz.prog 56 = some 8 := by kernel_rfl
theorem zeroOf_56 : zeroOf Tryz.prog 56 = some [A.nilf] := by kernel_rfl
theorem arrT_56 : arrT Tryz.prog 56 = none := by kernel_rfl
theorem isStr_56 : isStr Tryz.prog 56 = false := by kernel_rfl
theorem isBool_56 : isBool Tryz.prog 56 = false := by kernel_rfl
theorem isPtr_56 : isPtr Tryz.prog 56 = false := by kernel_rfl
theorem isU8_56 : isU8 Tryz.prog 56 = false := by kernel_rfl
theorem isIfc_56 : isIfc Tryz.prog 56 = false := by kernel_rfl
theorem ifcT_56 : ifcT Tryz.prog 56 = false := by kernel_rfl
theorem seqT_56 : seqT Tryz.prog 56 = false := by kernel_rfl
theorem sliceable_56 : sliceable Tryz.prog 56 = false := by kernel_rfl
theorem szOf_57 : szOf Tryz.prog 57 = 1 := by kernel_rfl
theorem aggT_57 : aggT Tryz.prog 57 = some false := by kernel_rfl
theorem elemT_57 : elemT Tryz.prog 57 = none := by kernel_rfl
theorem bytesOf_57 : bytesOf Tryz.prog 57 = some 8 := by kernel_rfl
theorem zeroOf_57 : zeroOf Tryz.prog 57 = some [A.nilf] := by kernel_rfl
theorem arrT_57 : arrT Tryz.prog 57 = none := by kernel_rfl
theorem isStr_57 : isStr Tryz.prog 57 = false := by kernel_rfl
theorem isBool_57 : isBool Tryz.prog 57 = false := by kernel_rfl
theorem isPtr_57 : isPtr Tryz.prog 57 = false := by kernel_rfl
theorem isU8_57 : isU8 Tryz.prog 57 = false := by kernel_rfl
theorem isIfc_57 : isIfc Tryz.prog 57 = false := by kernel_rfl
theorem ifcT_57 : ifcT Tryz.prog 57 = false := by kernel_rfl
theorem seqT_57 : seqT Tryz.prog 57 = false := by kernel_rfl
theorem sliceable_57 : sliceable Tryz.prog 57 = false := by kernel_rfl
theorem szOf_58 : szOf Tryz.prog 58 = 1 := by kernel_rfl
theorem aggT_58 : aggT Tryz.prog 58 = some false := by kernel_rfl
theorem elemT_58 : elemT Tryz.prog 58 = none := by kernel_rfl
theorem bytesOf_58 : bytesOf Tryz.prog 58 = some 8 := by kernel_rfl
theorem zeroOf_58 : zeroOf Tryz.prog 58 = some [A.nilf] := by kernel_rfl
theorem arrT_58 : arrT Tryz.prog 58 = none := by kernel_rfl
theorem isStr_58 : isStr Tryz.prog 58 = false := by kernel_rfl
theorem isBool_58 : isBool Tryz.prog 58 = false := by kernel_rfl
theorem isPtr_58 : isPtr Tryz.prog 58 = false := by kernel_rfl
theorem isU8_58 : isU8 Tryz.prog 58 = false := by kernel_rfl
theorem isIfc_58 : isIfc Tryz.prog 58 = false := by kernel_rfl
theorem ifcT_58 : ifcT Tryz.prog 58 = false := by kernel_rfl
theorem seqT_58 : seqT Tryz.prog 58 = false := by kernel_rfl
theorem sliceable_58 : sliceable Tryz.prog 58 = false := by kernel_rfl
theorem szOf_59 : szOf Tryz.prog 59 = 1 := by kernel_rfl
theorem aggT_59 : aggT Tryz.prog 59 = some false := by kernel_rfl
theorem elemT_59 : elemT Tryz.prog 59 = none := by kernel_rfl
theorem bytesOf_59 : bytesOf Tryz.prog 59 = some 8 := by kernel_rfl
theorem zeroOf_59 : zeroOf Tryz.prog 59 = some [A.nilf] := by kernel_rfl
theorem arrT_59 : arrT Tryz.prog 59 = none := by kernel_rfl
theorem isStr_59 : isStr Tryz.prog 59 = false := by kernel_rfl
theorem isBool_59 : isBool Tryz.prog 59 = false := by kernel_rfl
theorem isPtr_59 : isPtr Tryz.prog 59 = false := by kernel_rfl
theorem isU8_59 : isU8 Tryz.prog 59 = false := by kernel_rfl
theorem isIfc_59 : isIfc Tryz.prog 59 = false := by kernel_rfl
theorem ifcT_59 : ifcT Tryz.prog 59 = false := by kernel_rfl
theorem seqT_59 : seqT Tryz.prog 59 = false := by kernel_rfl
theorem sliceable_59 : sliceable Tryz.prog 59 = false := by kernel_rfl
theorem szOf_60 : szOf Tryz.prog 60 = 1 := by kernel_rfl
theorem aggT_60 : aggT Tryz.prog 60 = some false := by kernel_rfl
theorem elemT_60 : elemT Tryz.prog 60 = none := by kernel_rfl
theorem bytesOf_60 : bytesOf Tryz.prog 60 = some 8 := by kernel_rfl
theorem zeroOf_60 : zeroOf Tryz.prog 60 = some [A.nilf] := by kernel_rfl
theorem arrT_60 : arrT Tryz.prog 60 = none := by kernel_rfl
theorem isStr_60 : isStr Tryz.prog 60 = false := by kernel_rfl
theorem isBool_60 : isBool Tryz.prog 60 = false := by kernel_rfl
theorem isPtr_60 : isPtr Tryz.prog 60 = false := by kernel_rfl
theorem isU8_60 : isU8 Tryz.prog 60 = false := by kernel_rfl
theorem isIfc_60 : isIfc Tryz.prog 60 = false := by kernel_rfl
theorem ifcT_60 : ifcT Tryz.prog 60 = false := by kernel_rfl
theorem seqT_60 : seqT Tryz.prog 60 = false := by kernel_rfl
theorem sliceable_60 : sliceable Tryz.prog 60 = false := by kernel_rfl
theorem szOf_61 : szOf Tryz.prog 61 = 1 := by kernel_rfl
theorem aggT_61 : aggT Tryz.prog 61 = some false := by kernel_rfl
theorem elemT_61 : elemT Tryz.prog 61 = none := by kernel_rfl
theorem bytesOf_61 : bytesOf Tryz.prog 61 = some 8 := by kernel_rfl
theorem zeroOf_61 : zeroOf Tryz.prog 61 = some [A.nilf] := by kernel_rfl
theorem arrT_61 : arrT Tryz.prog 61 = none := by kernel_rfl
theorem isStr_61 : isStr Tryz.prog 61 = false := by kernel_rfl
theorem isBool_61 : isBool Tryz.prog 61 = false := by kernel_rfl
theorem isPtr_61 : isPtr Tryz.prog 61 = false := by kernel_rfl
theorem isU8_61 : isU8 Tryz.prog 61 = false := by kernel_rfl
theorem isIfc_61 : isIfc Tryz.prog 61 = false := by kernel_rfl
theorem ifcT_61 : ifcT Tryz.prog 61 = false := by kernel_rfl
theorem seqT_61 : seqT Tryz.prog 61 = false := by kernel_rfl
theorem sliceable_61 : sliceable Tryz.prog 61 = false := by kernel_rfl
theorem szOf_63 : szOf Tryz.prog 63 = 1 := by kernel_rfl
theorem aggT_63 : aggT Tryz.prog 63 = some false := by kernel_rfl
theorem elemT_63 : elemT Tryz.prog 63 = none := by kernel_rfl
theorem bytesOf_63 : bytesOf Tryz.prog 63 = some 8 := by kernel_rfl
theorem zeroOf_63 : zeroOf Tryz.prog 63 = some [A.nilf] := by kernel_rfl
theorem arrT_63 : arrT Tryz.prog 63 = none := by kernel_rfl
theorem isStr_63 : isStr Tryz.prog 63 = false := by kernel_rfl
theorem isBool_63 : isBool Tryz.prog 63 = false := by kernel_rfl
theorem isPtr_63 : isPtr Tryz.prog 63 = false := by kernel_rfl
theorem isU8_63 : isU8 Tryz.prog 63 = false := by kernel_rfl
theorem isIfc_63 : isIfc Tryz.prog 63 = false := by kernel_rfl
theorem ifcT_63 : ifcT Tryz.prog 63 = false := by kernel_rfl
theorem seqT_63 : seqT Tryz.prog 63 = false := by kernel_rfl
theorem sliceable_63 : sliceable Tryz.prog 63 = false := by kernel_rfl
theorem szOf_64 : szOf Tryz.prog 64 = 1 := by kernel_rfl
theorem aggT_64 : aggT Tryz.prog 64 = some false := by kernel_rfl
theorem elemT_64 : elemT Tryz.prog 64 = none := by kernel_rfl
theorem bytesOf_64 : bytesOf Tryz.prog 64 = some 8 := by kernel_rfl
theorem zeroOf_64 : zeroOf Tryz.prog 64 = some [A.nilf] := by kernel_rfl
theorem arrT_64 : arrT Tryz.prog 64 = none := by kernel_rfl
theorem isStr_64 : isStr Tryz.prog 64 = false := by kernel_rfl
theorem isBool_64 : isBool Tryz.prog 64 = false := by kernel_rfl
theorem isPtr_64 : isPtr Tryz.prog 64 = false := by kernel_rfl
theorem isU8_64 : isU8 Tryz.prog 64 = false := by kernel_rfl
theorem isIfc_64 : isIfc Tryz.prog 64 = false := by kernel_rfl
theorem ifcT_64 : ifcT Tryz.prog 64 = false := by kernel_rfl
theorem seqT_64 : seqT Tryz.prog 64 = false := by kernel_rfl
theorem sliceable_64 : sliceable Tryz.prog 64 = false := by kernel_rfl
theorem szOf_65 : szOf Tryz.prog 65 = 1 := by kernel_rfl
theorem aggT_65 : aggT Tryz.prog 65 = some false := by kernel_rfl
theorem elemT_65 : elemT Tryz.prog 65 = none := by kernel_rfl
theorem bytesOf_65 : bytesOf Tryz.prog 65 = some 8 := by kernel_rfl
theorem zeroOf_65 : zeroOf Tryz.prog 65 = some [A.nilf] := by kernel_rfl
theorem arrT_65 : arrT Tryz.prog 65 = none := by kernel_rfl
theorem isStr_65 : isStr Tryz.prog 65 = false := by kernel_rfl
theorem isBool_65 : isBool Tryz.prog 65 = false := by kernel_rfl
theorem isPtr_65 : isPtr Tryz.prog 65 = false := by kernel_rfl
theorem isU8_65 : isU8 Tryz.prog 65 = false := by kernel_rfl
theorem isIfc_65 : isIfc Tryz.prog 65 = false := by kernel_rfl
theorem ifcT_65 : ifcT Tryz.prog 65 = false := by kernel_rfl
theorem seqT_65 : seqT Tryz.prog 65 = false := by kernel_rfl
theorem sliceable_65 : sliceable Tryz.prog 65 = false := by kernel_rfl
theorem szOf_66 : szOf Tryz.prog 66 = 1 := by kernel_rfl
theorem aggT_66 : aggT Tryz.prog 66 = some false := by kernel_rfl
theorem elemT_66 : elemT Tryz.prog 66 = some 9 := by kernel_rfl
theorem bytesOf_66 : bytesOf Tryz.prog 66 = some 24 := by kernel_rfl
theorem zeroOf_66 : zeroOf Tryz.prog 66 = some [A.nils] := by kernel_rfl
theorem arrT_66 : arrT Tryz.prog 66 = none := by kernel_rfl
theorem isStr_66 : isStr Tryz.prog 66 = false := by kernel_rfl
theorem isBool_66 : isBool Tryz.prog 66 = false := by kernel_rfl
theorem isPtr_66 : isPtr Tryz.prog 66 = false := by kernel_rfl
theorem isU8_66 : isU8 Tryz.prog 66 = false := by kernel_rfl
theorem isIfc_66 : isIfc Tryz.prog 66 = false := by kernel_rfl
theorem ifcT_66 : ifcT Tryz.prog 66 = false := by kernel_rfl
theorem seqT_66 : seqT Tryz.prog 66 = true := by kernel_rfl
theorem sliceable_66 : sliceable Tryz.prog 66 = true := by kernel_rfl
theorem szOf_67 : szOf Tryz.prog 67 = 1 := by kernel_rfl
theorem aggT_67 : aggT Tryz.prog 67 = some false := by kernel_rfl
theorem elemT_67 : elemT Tryz.prog 67 = none := by kernel_rfl
theorem bytesOf_67 : bytesOf Tryz.prog 67 = some 8 := by kernel_rfl
theorem zeroOf_67 : zeroOf Tryz.prog 67 = some [A.nilf] := by kernel_rfl
theorem arrT_67 : arrT Tryz.prog 67 = none := by kernel_rfl
theorem isStr_67 : isStr Tryz.prog 67 = false := by kernel_rfl
theorem isBool_67 : isBool Tryz.prog 67 = false := by kernel_rfl
theorem isPtr_67 : isPtr Tryz.prog 67 = false := by kernel_rfl
theorem isU8_67 : isU8 Tryz.prog 67 = false := by kernel_rfl
theorem isIfc_67 : isIfc Tryz.prog 67 = false := by kernel_rfl
theorem ifcT_67 : ifcT Tryz.prog 67 = false := by kernel_rfl
theorem seqT_67 : seqT Tryz.prog 67 = false := by kernel_rfl
theorem sliceable_67 : sliceable Tryz.prog 67 = false := by kernel_rfl
theorem szOf_68 : szOf Tryz.prog 68 = 1 := by kernel_rfl
theorem aggT_68 : aggT Tryz.prog 68 = some false := by kernel_rfl
theorem elemT_68 : elemT Tryz.prog 68 = none := by kernel_rfl
theorem bytesOf_68 : bytesOf Tryz.prog 68 = some 8 := by kernel_rfl
theorem zeroOf_68 : zeroOf Tryz.prog 68 = some [A.nilf] := by kernel_rfl
theorem arrT_68 : arrT Tryz.prog 68 = none := by kernel_rfl
theorem isStr_68 : isStr Tryz.prog 68 = false := by kernel_rfl
theorem isBool_68 : isBool Tryz.prog 68 = false := by kernel_rfl
theorem isPtr_68 : isPtr Tryz.prog 68 = false := by kernel_rfl
theorem isU8_68 : isU8 Tryz.prog 68 = false := by kernel_rfl
theorem isIfc_68 : isIfc Tryz.prog 68 = false := by kernel_rfl
theorem ifcT_68 : ifcT Tryz.prog 68 = false := by kernel_rfl
theorem seqT_68 : seqT Tryz.prog 68 = false := by kernel_rfl
theorem sliceable_68 : sliceable Tryz.prog 68 = false := by kernel_rfl
theorem szOf_70 : szOf Tryz.prog 70 = 1 := by kernel_rfl
theorem aggT_70 : aggT Tryz.prog 70 = some false := by kernel_rfl
theorem elemT_70 : elemT Tryz.prog 70 = none := by kernel_rfl
theorem bytesOf_70 : bytesOf Tryz.prog 70 = some 8 := by kernel_rfl
theorem zeroOf_70 : zeroOf Tryz.prog 70 = some [A.nilf] := by kernel_rfl
theorem arrT_70 : arrT Tryz.prog 70 = none := by kernel_rfl
theorem isStr_70 : isStr Tryz.prog 70 = false := by kernel_rfl
theorem isBool_70 : isBool Tryz.prog 70 = false := by kernel_rfl
theorem isPtr_70 : isPtr Tryz.prog 70 = false := by kernel_rfl
theorem isU8_70 : isU8 Tryz.prog 70 = false := by kernel_rfl
theorem isIfc_70 : isIfc Tryz.prog 70 = false := by kernel_rfl
theorem ifcT_70 : ifcT Tryz.prog 70 = false := by kernel_rfl
theorem seqT_70 : seqT Tryz.prog 70 = false := by kernel_rfl
theorem sliceable_70 : sliceable Tryz.prog 70 = false := by kernel_rfl
theorem szOf_71 : szOf Tryz.prog 71 = 1 := by kernel_rfl
theorem aggT_71 : aggT Tryz.prog 71 = some false := by kernel_rfl
theorem elemT_71 : elemT Tryz.prog 71 = none := by kernel_rfl
theorem bytesOf_71 : bytesOf Tryz.prog 71 = some 8 := by kernel_rfl
theorem zeroOf_71 : zeroOf Tryz.prog 71 = some [A.nilf] := by kernel_rfl
theorem arrT_71 : arrT Tryz.prog 71 = none := by kernel_rfl
theorem isStr_71 : isStr Tryz.prog 71 = false := by kernel_rfl
theorem isBool_71 : isBool Tryz.prog 71 = false := by kernel_rfl
theorem isPtr_71 : isPtr Tryz.prog 71 = false := by kernel_rfl
theorem isU8_71 : isU8 Tryz.prog 71 = false := by kernel_rfl
theorem isIfc_71 : isIfc Tryz.prog 71 = false := by kernel_rfl
theorem ifcT_71 : ifcT Tryz.prog 71 = false := by kernel_rfl
theorem seqT_71 : seqT Tryz.prog 71 = false := by kernel_rfl
theorem sliceable_71 : sliceable Tryz.prog 71 = false := by kernel_rfl
theorem szOf_72 : szOf Tryz.prog 72 = 1 := by kernel_rfl
theorem aggT_72 : aggT Tryz.prog 72 = some false := by kernel_rfl
theorem elemT_72 : elemT Tryz.prog 72 = none := by kernel_rfl
theorem bytesOf_72 : bytesOf Tryz.prog 72 = some 8 := by kernel_rfl
theorem zeroOf_72 : zeroOf Tryz.prog 72 = some [A.nilf] := by kernel_rfl
theorem arrT_72 : arrT Tryz.prog 72 = none := by kernel_rfl
theorem isStr_72 : isStr Tryz.prog 72 = false := by kernel_rfl
theorem isBool_72 : isBool Tryz.prog 72 = false := by kernel_rfl
theorem isPtr_72 : isPtr Tryz.prog 72 = false := by kernel_rfl
theorem isU8_72 : isU8 Tryz.prog 72 = false := by kernel_rfl
theorem isIfc_72 : isIfc Tryz.prog 72 = false := by kernel_rfl
theorem ifcT_72 : ifcT Tryz.prog 72 = false := by kernel_rfl
theorem seqT_72 : seqT Tryz.prog 72 = false := by kernel_rfl
theorem sliceable_72 : sliceable Tryz.prog 72 = false := by kernel_rfl
theorem szOf_73 : szOf Tryz.prog 73 = 1 := by kernel_rfl
theorem aggT_73 : aggT Tryz.prog 73 = some false := by kernel_rfl
theorem elemT_73 : elemT Tryz.prog 73 = none := by kernel_rfl
theorem bytesOf_73 : bytesOf Tryz.prog 73 = some 8 := by kernel_rfl
theorem zeroOf_73 : zeroOf Tryz.prog 73 = some [A.nilf] := by kernel_rfl
theorem arrT_73 : arrT Tryz.prog 73 = none := by kernel_rfl
theorem isStr_73 : isStr Tryz.prog 73 = false := by kernel_rfl
theorem isBool_73 : isBool Tryz.prog 73 = false := by kernel_rfl
theorem isPtr_73 : isPtr Tryz.prog 73 = false := by kernel_rfl
theorem isU8_73 : isU8 Tryz.prog 73 = false := by kernel_rfl
theorem isIfc_73 : isIfc Tryz.prog 73 = false := by kernel_rfl
theorem ifcT_73 : ifcT Tryz.prog 73 = false := by kernel_rfl
theorem seqT_73 : seqT Tryz.prog 73 = false := by kernel_rfl
theorem sliceable_73 : sliceable Tryz.prog 73 = false := by kernel_rfl
theorem szOf_74 : szOf Tryz.prog 74 = 1 := by kernel_rfl
theorem aggT_74 : aggT Tryz.prog 74 = some false := by kernel_rfl
theorem elemT_74 : elemT Tryz.prog 74 = none := by kernel_rfl
theorem bytesOf_74 : bytesOf Tryz.prog 74 = some 8 := by kernel_rfl
theorem zeroOf_74 : zeroOf Tryz.prog 74 = some [A.nilf] := by kernel_rfl
theorem arrT_74 : arrT Tryz.prog 74 = none := by kernel_rfl
theorem isStr_74 : isStr Tryz.prog 74 = false := by kernel_rfl
theorem isBool_74 : isBool Tryz.prog 74 = false := by kernel_rfl
theorem isPtr_74 : isPtr Tryz.prog 74 = false := by kernel_rfl
theorem isU8_74 : isU8 Tryz.prog 74 = false := by kernel_rfl
theorem isIfc_74 : isIfc Tryz.prog 74 = false := by kernel_rfl
theorem ifcT_74 : ifcT Tryz.prog 74 = false := by kernel_rfl
theorem seqT_74 : seqT Tryz.prog 74 = false := by kernel_rfl
theorem sliceable_74 : sliceable Tryz.prog 74 = false := by kernel_rfl
theorem szOf_75 : szOf Tryz.prog 75 = 1 := by kernel_rfl
theorem aggT_75 : aggT Tryz.prog 75 = some false := by kernel_rfl
theorem elemT_75 : elemT Tryz.prog 75 = none := by kernel_rfl
theorem bytesOf_75 : bytesOf Tryz.prog 75 = some 8 := by kernel_rfl
theorem zeroOf_75 : zeroOf Tryz.prog 75 = some [A.nilf] := by kernel_rfl
theorem arrT_75 : arrT Tryz.prog 75 = none := by kernel_rfl
theorem isStr_75 : isStr Tryz.prog 75 = false := by kernel_rfl
theorem isBool_75 : isBool Tryz.prog 75 = false := by kernel_rfl
theorem isPtr_75 : isPtr Tryz.prog 75 = false := by kernel_rfl
theorem isU8_75 : isU8 Tryz.prog 75 = false := by kernel_rfl
theorem isIfc_75 : isIfc Tryz.prog 75 = false := by kernel_rfl
theorem ifcT_75 : ifcT Tryz.prog 75 = false := by kernel_rfl
theorem seqT_75 : seqT Tryz.prog 75 = false := by kernel_rfl
theorem sliceable_75 : sliceable Tryz.prog 75 = false := by kernel_rfl
theorem szOf_76 : szOf Tryz.prog 76 = 1 := by kernel_rfl
theorem aggT_76 : aggT Tryz.prog 76 = some false := by kernel_rfl
theorem elemT_76 : elemT Tryz.prog 76 = none := by kernel_rfl
theorem bytesOf_76 : bytesOf Tryz.prog 76 = some 8 := by kernel_rfl
theorem zeroOf_76 : zeroOf Tryz.prog 76 = some [A.nilf] := by kernel_rfl
theorem arrT_76 : arrT Tryz.prog 76 = none := by kernel_rfl
theorem isStr_76 : isStr Tryz.prog 76 = false := by kernel_rfl
theorem isBool_76 : isBool Tryz.prog 76 = false := by kernel_rfl
theorem isPtr_76 : isPtr Tryz.prog 76 = false := by kernel_rfl
theorem isU8_76 : isU8 Tryz.prog 76 = false := by kernel_rfl
theorem isIfc_76 : isIfc Tryz.prog 76 = false := by kernel_rfl
theorem ifcT_76 : ifcT Tryz.prog 76 = false := by kernel_rfl
theorem seqT_76 : seqT Tryz.prog 76 = false := by kernel_rfl
theorem sliceable_76 : sliceable Tryz.prog 76 = false := by kernel_rfl
theorem szOf_77 : szOf Tryz.prog 77 = 1 := by kernel_rfl
theorem aggT_77 : aggT Tryz.prog 77 = some false := by kernel_rfl
theorem elemT_77 : elemT Tryz.prog 77 = none := by kernel_rfl
theorem bytesOf_77 : bytesOf Tryz.prog 77 = some 8 := by kernel_rfl
theorem zeroOf_77 : zeroOf Tryz.prog 77 = some [A.nilf] := by kernel_rfl
theorem arrT_77 : arrT Tryz.prog 77 = none := by kernel_rfl
theorem isStr_77 : isStr Tryz.prog 77 = false := by kernel_rfl
theorem isBool_77 : isBool Tryz.prog 77 = false := by kernel_rfl
theorem isPtr_77 : isPtr Tryz.prog 77 = false := by kernel_rfl
theorem isU8_77 : isU8 Tryz.prog 77 = false := by kernel_rfl
theorem isIfc_77 : isIfc Tryz.prog 77 = false := by kernel_rfl
theorem ifcT_77 : ifcT Tryz.prog 77 = false := by kernel_rfl
theorem seqT_77 : seqT Tryz.prog 77 = false := by kernel_rfl
theorem sliceable_77 : sliceable Tryz.prog 77 = false := by kernel_rfl
theorem szOf_78 : szOf Tryz.prog 78 = 1 := by kernel_rfl
theorem aggT_78 : aggT Tryz.prog 78 = some false := by kernel_rfl
theorem elemT_78 : elemT Tryz.prog 78 = none := by kernel_rfl
theorem bytesOf_78 : bytesOf Tryz.prog 78 = some 8 := by kernel_rfl
theorem zeroOf_78 : zeroOf Tryz.prog 78 = some [A.nilf] := by kernel_rfl
theorem arrT_78 : arrT Tryz.prog 78 = none := by kernel_rfl
theorem isStr_78 : isStr Tryz.prog 78 = false := by kernel_rfl
theorem isBool_78 : isBool Tryz.prog 78 = false := by kernel_rfl
theorem isPtr_78 : isPtr Tryz.prog 78 = false := by kernel_rfl
theorem isU8_78 : isU8 Tryz.prog 78 = false := by kernel_rfl
theorem isIfc_78 : isIfc Tryz.prog 78 = false := by kernel_rfl
theorem ifcT_78 : ifcT Tryz.prog 78 = false := by kernel_rfl
theorem seqT_78 : seqT Tryz.prog 78 = false := by kernel_rfl
theorem sliceable_78 : sliceable Tryz.prog 78 = false := by kernel_rfl
theorem szOf_79 : szOf Tryz.prog 79 = 1 := by kernel_rfl
theorem aggT_79 : aggT Tryz.prog 79 = some false := by kernel_rfl
theorem elemT_79 : elemT Tryz.prog 79 = none := by kernel_rfl
theorem bytesOf_79 : bytesOf Tryz.prog 79 = some 8 := by kernel_rfl
theorem zeroOf_79 : zeroOf Tryz.prog 79 = some [A.nilf] := by kernel_rfl
theorem arrT_79 : arrT Tryz.prog 79 = none := by kernel_rfl
theorem isStr_79 : isStr Tryz.prog 79 = false := by kernel_rfl
theorem isBool_79 : isBool Tryz.prog 79 = false := by kernel_rfl
theorem isPtr_79 : isPtr Tryz.prog 79 = false := by kernel_rfl
theorem isU8_79 : isU8 Tryz.prog 79 = false := by kernel_rfl
theorem isIfc_79 : isIfc Tryz.prog 79 = false := by kernel_rfl
theorem ifcT_79 : ifcT Tryz.prog 79 = false := by kernel_rfl
theorem seqT_79 : seqT Tryz.prog 79 = false := by kernel_rfl
theorem sliceable_79 : sliceable Tryz.prog 79 = false := by kernel_rfl
theorem szOf_80 : szOf Tryz.prog 80 = 1 := by kernel_rfl
theorem aggT_80 : aggT Tryz.prog 80 = some false := by kernel_rfl
theorem elemT_80 : elemT Tryz.prog 80 = none := by kernel_rfl
theorem bytesOf_80 : bytesOf Tryz.prog 80 = some 8 := by kernel_rfl
theorem zeroOf_80 : zeroOf Tryz.prog 80 = some [A.nilf] := by kernel_rfl
theorem arrT_80 : arrT Tryz.prog 80 = none := by kernel_rfl
theorem isStr_80 : isStr Tryz.prog 80 = false := by kernel_rfl
theorem isBool_80 : isBool Tryz.prog 80 = false := by kernel_rfl
theorem isPtr_80 : isPtr Tryz.prog 80 = false := by kernel_rfl
theorem isU8_80 : isU8 Tryz.prog 80 = false := by kernel_rfl
theorem isIfc_80 : isIfc Tryz.prog 80 = false := by kernel_rfl
theorem ifcT_80 : ifcT Tryz.prog 80 = false := by kernel_rfl
theorem seqT_80 : seqT Tryz.prog 80 = false := by kernel_rfl
theorem sliceable_80 : sliceable Tryz.prog 80 = false := by kernel_rfl
theorem szOf_81 : szOf Tryz.prog 81 = 1 := by kernel_rfl
theorem aggT_81 : aggT Tryz.prog 81 = some false := by kernel_rfl
theorem elemT_81 : elemT Tryz.prog 81 = none := by kernel_rfl
theorem bytesOf_81 : bytesOf Tryz.prog 81 = some 8 := by kernel_rfl
theorem zeroOf_81 : zeroOf Tryz.prog 81 = some [A.nilf] := by kernel_rfl
theorem arrT_81 : arrT Tryz.prog 81 = none := by kernel_rfl
theorem isStr_81 : isStr Tryz.prog 81 = false := by kernel_rfl
theorem isBool_81 : isBool Tryz.prog 81 = false := by kernel_rfl
theorem isPtr_81 : isPtr Tryz.prog 81 = false := by kernel_rfl
theorem isU8_81 : isU8 Tryz.prog 81 = false := by kernel_rfl
theorem isIfc_81 : isIfc Tryz.prog 81 = false := by kernel_rfl
theorem ifcT_81 : ifcT Tryz.prog 81 = false := by kernel_rfl
theorem seqT_81 : seqT Tryz.prog 81 = false := by kernel_rfl
theorem sliceable_81 : sliceable Tryz.prog 81 = false := by kernel_rfl
theorem szOf_82 : szOf Tryz.prog 82 = 1 := by kernel_rfl
theorem aggT_82 : aggT Tryz.prog 82 = some false := by kernel_rfl
theorem elemT_82 : elemT Tryz.prog 82 = none := by kernel_rfl
theorem bytesOf_82 : bytesOf Tryz.prog 82 = some 8 := by kernel_rfl
theorem zeroOf_82 : zeroOf Tryz.prog 82 = some [A.nilf] := by kernel_rfl
theorem arrT_82 : arrT Tryz.prog 82 = none := by kernel_rfl
theorem isStr_82 : isStr Tryz.prog 82 = false := by kernel_rfl
theorem isBool_82 : isBool Tryz.prog 82 = false := by kernel_rfl
theorem isPtr_82 : isPtr Tryz.prog 82 = false := by kernel_rfl
theorem isU8_82 : isU8 Tryz.prog 82 = false := by kernel_rfl
theorem isIfc_82 : isIfc Tryz.prog 82 = false := by kernel_rfl
theorem ifcT_82 : ifcT Tryz.prog 82 = false := by kernel_rfl
theorem seqT_82 : seqT Tryz.prog 82 = false := by kernel_rfl
theorem sliceable_82 : sliceable Tryz.prog 82 = false := by kernel_rfl
theorem szOf_83 : szOf Tryz.prog 83 = 1 := by kernel_rfl
theorem aggT_83 : aggT Tryz.prog 83 = some false := by kernel_rfl
theorem elemT_83 : elemT Tryz.prog 83 = none := by kernel_rfl
theorem bytesOf_83 : bytesOf Tryz.prog 83 = some 8 := by kernel_rfl
theorem zeroOf_83 : zeroOf Tryz.prog 83 = some [A.nilf] := by kernel_rfl
theorem arrT_83 : arrT Tryz.prog 83 = none := by kernel_rfl
theorem isStr_83 : isStr Tryz.prog 83 = false := by kernel_rfl
theorem isBool_83 : isBool Tryz.prog 83 = false := by kernel_rfl
theorem isPtr_83 : isPtr Tryz.prog 83 = false := by kernel_rfl
theorem isU8_83 : isU8 Tryz.prog 83 = false := by kernel_rfl
theorem isIfc_83 : isIfc Tryz.prog 83 = false := by kernel_rfl
theorem ifcT_83 : ifcT Tryz.prog 83 = false := by kernel_rfl
theorem seqT_83 : seqT Tryz.prog 83 = false := by kernel_rfl
theorem sliceable_83 : sliceable Tryz.prog 83 = false := by kernel_rfl
theorem szOf_84 : szOf Tryz.prog 84 = 1 := by kernel_rfl
theorem aggT_84 : aggT Tryz.prog 84 = some false := by kernel_rfl
theorem elemT_84 : elemT Tryz.prog 84 = none := by kernel_rfl
theorem bytesOf_84 : bytesOf Tryz.prog 84 = some 8 := by kernel_rfl
theorem zeroOf_84 : zeroOf Tryz.prog 84 = some [A.nilf] := by kernel_rfl
theorem arrT_84 : arrT Tryz.prog 84 = none := by kernel_rfl
theorem isStr_84 : isStr Tryz.prog 84 = false := by kernel_rfl
theorem isBool_84 : isBool Tryz.prog 84 = false := by kernel_rfl
theorem isPtr_84 : isPtr Tryz.prog 84 = false := by kernel_rfl
theorem isU8_84 : isU8 Tryz.prog 84 = false := by kernel_rfl
theorem isIfc_84 : isIfc Tryz.prog 84 = false := by kernel_rfl
theorem ifcT_84 : ifcT Tryz.prog 84 = false := by kernel_rfl
theorem seqT_84 : seqT Tryz.prog 84 = false := by kernel_rfl
theorem sliceable_84 : sliceable Tryz.prog 84 = false := by kernel_rfl
theorem szOf_85 : szOf Tryz.prog 85 = 1 := by kernel_rfl
theorem aggT_85 : aggT Tryz.prog 85 = some false := by kernel_rfl
theorem elemT_85 : elemT Tryz.prog 85 = none := by kernel_rfl
theorem bytesOf_85 : bytesOf Tryz.prog 85 = some 8 := by kernel_rfl
theorem zeroOf_85 : zeroOf Tryz.prog 85 = some [A.nilf] := by kernel_rfl
theorem arrT_85 : arrT Tryz.prog 85 = none := by kernel_rfl
theorem isStr_85 : isStr Tryz.prog 85 = false := by kernel_rfl
theorem isBool_85 : isBool Tryz.prog 85 = false := by kernel_rfl
theorem isPtr_85 : isPtr Tryz.prog 85 = false := by kernel_rfl
theorem isU8_85 : isU8 Tryz.prog 85 = false := by kernel_rfl
theorem isIfc_85 : isIfc Tryz.prog 85 = false := by kernel_rfl
theorem ifcT_85 : ifcT Tryz.prog 85 = false := by kernel_rfl
theorem seqT_85 : seqT Tryz.prog 85 = false := by kernel_rfl
theorem sliceable_85 : sliceable Tryz.prog 85 = false := by kernel_rfl
theorem szOf_86 : szOf Tryz.prog 86 = 1 := by kernel_rfl
theorem aggT_86 : aggT Tryz.prog 86 = some false := by kernel_rfl
theorem elemT_86 : elemT Tryz.prog 86 = none := by kernel_rfl
theorem bytesOf_86 : bytesOf Tryz.prog 86 = some 8 := by kernel_rfl
theorem zeroOf_86 : zeroOf Tryz.prog 86 = some [A.nilf] := by kernel_rfl
theorem arrT_86 : arrT Tryz.prog 86 = none := by kernel_rfl
theorem isStr_86 : isStr Tryz.prog 86 = false := by kernel_rfl
theorem isBool_86 : isBool Tryz.prog 86 = false := by kernel_rfl
theorem isPtr_86 : isPtr Tryz.prog 86 = false := by kernel_rfl
theorem isU8_86 : isU8 Tryz.prog 86 = false := by kernel_rfl
theorem isIfc_86 : isIfc Tryz.prog 86 = false := by kernel_rfl
theorem ifcT_86 : ifcT Tryz.prog 86 = false := by kernel_rfl
theorem seqT_86 : seqT Tryz.prog 86 = false := by kernel_rfl
theorem sliceable_86 : sliceable Tryz.prog 86 = false := by kernel_rfl
theorem szOf_88 : szOf Tryz.prog 88 = 1 := by kernel_rfl
theorem aggT_88 : aggT Tryz.prog 88 = some false := by kernel_rfl
theorem elemT_88 : elemT Tryz.prog 88 = none := by kernel_rfl
theorem bytesOf_88 : bytesOf Tryz.prog 88 = some 8 := by kernel_rfl
theorem zeroOf_88 : zeroOf Tryz.prog 88 = some [A.nilf] := by kernel_rfl
theorem arrT_88 : arrT Tryz.prog 88 = none := by kernel_rfl
theorem isStr_88 : isStr Tryz.prog 88 = false := by kernel_rfl
theorem isBool_88 : isBool Tryz.prog 88 = false := by kernel_rfl
theorem isPtr_88 : isPtr Tryz.prog 88 = false := by kernel_rfl
theorem isU8_88 : isU8 Tryz.prog 88 = false := by kernel_rfl
theorem isIfc_88 : isIfc Tryz.prog 88 = false := by kernel_rfl
theorem ifcT_88 : ifcT Tryz.prog 88 = false := by kernel_rfl
theorem seqT_88 : seqT Tryz.prog 88 = false := by kernel_rfl
theorem sliceable_88 : sliceable Tryz.prog 88 = false := by kernel_rfl
theorem szOf_89 : szOf Tryz.prog 89 = 1 := by kernel_rfl
theorem aggT_89 : aggT Tryz.prog 89 = some false := by kernel_rfl
theorem elemT_89 : elemT Tryz.prog 89 = none := by kernel_rfl
theorem bytesOf_89 : bytesOf Tryz.prog 89 = some 8 := by kernel_rfl
theorem zeroOf_89 : zeroOf Tryz.prog 89 = some [A.nilf] := by kernel_rfl
theorem arrT_89 : arrT Tryz.prog 89 = none := by kernel_rfl
theorem isStr_89 : isStr Tryz.prog 89 = false := by kernel_rfl
theorem isBool_89 : isBool Tryz.prog 89 = false := by kernel_rfl
theorem isPtr_89 : isPtr Tryz.prog 89 = false := by kernel_rfl
theorem isU8_89 : isU8 Tryz.prog 89 = false := by kernel_rfl
theorem isIfc_89 : isIfc Tryz.prog 89 = false := by kernel_rfl
theorem ifcT_89 : ifcT Tryz.prog 89 = false := by kernel_rfl
theorem seqT_89 : seqT Tryz.prog 89 = false := by kernel_rfl
theorem sliceable_89 : sliceable Tryz.prog 89 = false := by kernel_rfl
theorem szOf_90 : szOf Tryz.prog 90 = 0 := by kernel_rfl
theorem aggT_90 : aggT Tryz.prog 90 = some true := by kernel_rfl
theorem elemT_90 : elemT Tryz.prog 90 = none := by kernel_rfl
theorem bytesOf_90 : bytesOf Tryz.prog 90 = some 0 := by kernel_rfl
theorem zeroOf_90 : zeroOf Tryz.prog 90 = some [] := by kernel_rfl
theorem arrT_90 : arrT Tryz.prog 90 = none := by kernel_rfl
theorem isStr_90 : isStr Tryz.prog 90 = false := by kernel_rfl
theorem isBool_90 : isBool Tryz.prog 90 = false := by kernel_rfl
theorem isPtr_90 : isPtr Tryz.prog 90 = false := by kernel_rfl
theorem isU8_90 : isU8 Tryz.prog 90 = false := by kernel_rfl
theorem isIfc_90 : isIfc Tryz.prog 90 = false := by kernel_rfl
theorem ifcT_90 : ifcT Tryz.prog 90 = false := by kernel_rfl
theorem fieldsOk_90 : fieldsOk Tryz.prog 90 = true := by kernel_rfl
theorem seqT_90 : seqT Tryz.prog 90 = false := by kernel_rfl
theorem sliceable_90 : sliceable Tryz.prog 90 = false := by kernel_rfl
theorem szOf_91 : szOf Tryz.prog 91 = 0 := by kernel_rfl
theorem aggT_91 : aggT Tryz.prog 91 = some true := by kernel_rfl
theorem elemT_91 : elemT Tryz.prog 91 = none := by kernel_rfl
theorem bytesOf_91 : bytesOf Tryz.prog 91 = some 0 := by kernel_rfl
theorem zeroOf_91 : zeroOf Tryz.prog 91 = some [] := by kernel_rfl
theorem arrT_91 : arrT Tryz.prog 91 = none := by kernel_rfl
theorem isStr_91 : isStr Tryz.prog 91 = false := by kernel_rfl
theorem isBool_91 : isBool Tryz.prog 91 = false := by kernel_rfl
theorem isPtr_91 : isPtr Tryz.prog 91 = false := by kernel_rfl
theorem isU8_91 : isU8 Tryz.prog 91 = false := by kernel_rfl
theorem isIfc_91 : isIfc Tryz.prog 91 = false := by kernel_rfl
theorem ifcT_91 : ifcT Tryz.prog 91 = false := by kernel_rfl
theorem fieldsOk_91 : fieldsOk Tryz.prog 91 = true := by kernel_rfl
theorem seqT_91 : seqT Tryz.prog 91 = false := by kernel_rfl
theorem sliceable_91 : sliceable Tryz.prog 91 = false := by kernel_rfl
theorem szOf_93 : szOf Tryz.prog 93 = 1 := by kernel_rfl
theorem aggT_93 : aggT Tryz.prog 93 = some false := by kernel_rfl
theorem elemT_93 : elemT Tryz.prog 93 = none := by kernel_rfl
theorem bytesOf_93 : bytesOf Tryz.prog 93 = some 8 := by kernel_rfl
theorem zeroOf_93 : zeroOf Tryz.prog 93 = some [A.nilp] := by kernel_rfl
theorem arrT_93 : arrT Tryz.prog 93 = none := by kernel_rfl
theorem isStr_93 : isStr Tryz.prog 93 = false := by kernel_rfl
theorem isBool_93 : isBool Tryz.prog 93 = false := by kernel_rfl
theorem isPtr_93 : isPtr Tryz.prog 93 = true := by kernel_rfl
theorem isU8_93 : isU8 Tryz.prog 93 = false := by kernel_rfl
theorem isIfc_93 : isIfc Tryz.prog 93 = false := by kernel_rfl
theorem ifcT_93 : ifcT Tryz.prog 93 = false := by kernel_rfl
theorem seqT_93 : seqT Tryz.prog 93 = false := by kernel_rfl
theorem sliceable_93 : sliceable Tryz.prog 93 = false := by kernel_rfl
theorem szOf_94 : szOf Tryz.prog 94 = 1 := by kernel_rfl
theorem aggT_94 : aggT Tryz.prog 94 = some true := by kernel_rfl
theorem elemT_94 : elemT Tryz.prog 94 = none := by kernel_rfl
theorem bytesOf_94 : bytesOf Tryz.prog 94 = some 16 := by kernel_rfl
theorem zeroOf_94 : zeroOf Tryz.prog 94 = some [A.str []] := by kernel_rfl
theorem arrT_94 : arrT Tryz.prog 94 = none := by kernel_rfl
theorem fieldT_94_0 : fieldT Tryz.prog 94 0 = some (0, 9) := by kernel_rfl
theorem isStr_94 : isStr Tryz.prog 94 = false := by kernel_rfl
theorem isBool_94 : isBool Tryz.prog 94 = false := by kernel_rfl
theorem isPtr_94 : isPtr Tryz.prog 94 = false := by kernel_rfl
theorem isU8_94 : isU8 Tryz.prog 94 = false := by kernel_rfl
theorem isIfc_94 : isIfc Tryz.prog 94 = false := by kernel_rfl
theorem ifcT_94 : ifcT Tryz.prog 94 = false := by kernel_rfl
theorem fieldsOk_94 : fieldsOk Tryz.prog 94 = true := by kernel_rfl
theorem seqT_94 : seqT Tryz.prog 94 = false := by kernel_rfl
theorem sliceable_94 : sliceable Tryz.prog 94 = false := by kernel_rfl
theorem szOf_95 : szOf Tryz.prog 95 = 1 := by kernel_rfl
theorem aggT_95 : aggT Tryz.prog 95 = some true := by kernel_rfl
theorem elemT_95 : elemT Tryz.prog 95 = none := by kernel_rfl
theorem bytesOf_95 : bytesOf Tryz.prog 95 = some 16 := by kernel_rfl
theorem zeroOf_95 : zeroOf Tryz.prog 95 = some [A.str []] := by kernel_rfl
theorem arrT_95 : arrT Tryz.prog 95 = none := by kernel_rfl
theorem fieldT_95_0 : fieldT Tryz.prog 95 0 = some (0, 9) := by kernel_rfl
theorem isStr_95 : isStr Tryz.prog 95 = false := by kernel_rfl
theorem isBool_95 : isBool Tryz.prog 95 = false := by kernel_rfl
theorem isPtr_95 : isPtr Tryz.prog 95 = false := by kernel_rfl
theorem isU8_95 : isU8 Tryz.prog 95 = false := by kernel_rfl
theorem isIfc_95 : isIfc Tryz.prog 95 = false := by kernel_rfl
theorem ifcT_95 : ifcT Tryz.prog 95 = false := by kernel_rfl
theorem fieldsOk_95 : fieldsOk Tryz.prog 95 = true := by kernel_rfl
theorem seqT_95 : seqT Tryz.prog 95 = false := by kernel_rfl
theorem sliceable_95 : sliceable Tryz.prog 95 = false := by kernel_rfl
theorem szOf_96 : szOf Tryz.prog 96 = 1 := by kernel_rfl
theorem aggT_96 : aggT Tryz.prog 96 = some false := by kernel_rfl
theorem elemT_96 : elemT Tryz.prog 96 = none := by kernel_rfl
theorem bytesOf_96 : bytesOf Tryz.prog 96 = some 8 := by kernel_rfl
theorem zeroOf_96 : zeroOf Tryz.prog 96 = some [A.nilf] := by kernel_rfl
theorem arrT_96 : arrT Tryz.prog 96 = none := by kernel_rfl
theorem isStr_96 : isStr Tryz.prog 96 = false := by kernel_rfl
theorem isBool_96 : isBool Tryz.prog 96 = false := by kernel_rfl
theorem isPtr_96 : isPtr Tryz.prog 96 = false := by kernel_rfl
theorem isU8_96 : isU8 Tryz.prog 96 = false := by kernel_rfl
theorem isIfc_96 : isIfc Tryz.prog 96 = false := by kernel_rfl
theorem ifcT_96 : ifcT Tryz.prog 96 = false := by kernel_rfl
theorem seqT_96 : seqT Tryz.prog 96 = false := by kernel_rfl
theorem sliceable_96 : sliceable Tryz.prog 96 = false := by kernel_rfl
theorem szOf_97 : szOf Tryz.prog 97 = 1 := by kernel_rfl
theorem aggT_97 : aggT Tryz.prog 97 = some false := by kernel_rfl
theorem elemT_97 : elemT Tryz.prog 97 = none := by kernel_rfl
theorem bytesOf_97 : bytesOf Tryz.prog 97 = some 8 := by kernel_rfl
theorem zeroOf_97 : zeroOf Tryz.prog 97 = some [A.nilf] := by kernel_rfl
theorem arrT_97 : arrT Tryz.prog 97 = none := by kernel_rfl
theorem isStr_97 : isStr Tryz.prog 97 = false := by kernel_rfl
theorem isBool_97 : isBool Tryz.prog 97 = false := by kernel_rfl
theorem isPtr_97 : isPtr Tryz.prog 97 = false := by kernel_rfl
theorem isU8_97 : isU8 Tryz.prog 97 = false := by kernel_rfl
theorem isIfc_97 : isIfc Tryz.prog 97 = false := by kernel_rfl
theorem ifcT_97 : ifcT Tryz.prog 97 = false := by kernel_rfl
theorem seqT_97 : seqT Tryz.prog 97 = false := by kernel_rfl
theorem sliceable_97 : sliceable Tryz.prog 97 = false := by kernel_rfl
theorem szOf_98 : szOf Tryz.prog 98 = 1 := by kernel_rfl
theorem aggT_98 : aggT Tryz.prog 98 = some false := by kernel_rfl
theorem elemT_98 : elemT Tryz.prog 98 = none := by kernel_rfl
theorem bytesOf_98 : bytesOf Tryz.prog 98 = some 8 := by kernel_rfl
theorem zeroOf_98 : zeroOf Tryz.prog 98 = some [A.nilp] := by kernel_rfl
theorem arrT_98 : arrT Tryz.prog 98 = none := by kernel_rfl
theorem isStr_98 : isStr Tryz.prog 98 = false := by kernel_rfl
theorem isBool_98 : isBool Tryz.prog 98 = false := by kernel_rfl
theorem isPtr_98 : isPtr Tryz.prog 98 = true := by kernel_rfl
theorem isU8_98 : isU8 Tryz.prog 98 = false := by kernel_rfl
theorem isIfc_98 : isIfc Tryz.prog 98 = false := by kernel_rfl
theorem ifcT_98 : ifcT Tryz.prog 98 = false := by kernel_rfl
theorem seqT_98 : seqT Tryz.prog 98 = false := by kernel_rfl
theorem sliceable_98 : sliceable Tryz.prog 98 = false := by kernel_rfl
theorem szOf_99 : szOf Tryz.prog 99 = 3 := by kernel_rfl
theorem aggT_99 : aggT Tryz.prog 99 = some true := by kernel_rfl
theorem elemT_99 : elemT Tryz.prog 99 = none := by kernel_rfl
theorem bytesOf_99 : bytesOf Tryz.prog 99 = some 24 := by kernel_rfl
theorem zeroOf_99 : zeroOf Tryz.prog 99 = some [A.int .i64 0, A.int .i64 0, A.bool false] := by kernel_rfl
theorem arrT_99 : arrT Tryz.prog 99 = none := by kernel_rfl
theorem fieldT_99_0 : fieldT Tryz.prog 99 0 = some (0, 3) := by kernel_rfl
theorem fieldT_99_1 : fieldT Tryz.prog 99 1 = some (1, 3) := by kernel_rfl
theorem fieldT_99_2 : fieldT Tryz.prog 99 2 = some (2, 4) := by kernel_rfl
theorem isStr_99 : isStr Tryz.prog 99 = false := by kernel_rfl
theorem isBool_99 : isBool Tryz.prog 99 = false := by kernel_rfl
theorem isPtr_99 : isPtr Tryz.prog 99 = false := by kernel_rfl
theorem isU8_99 : isU8 Tryz.prog 99 = false := by kernel_rfl
theorem isIfc_99 : isIfc Tryz.prog 99 = false := by kernel_rfl
theorem ifcT_99 : ifcT Tryz.prog 99 = false := by kernel_rfl
theorem fieldsOk_99 : fieldsOk Tryz.prog 99 = true := by kernel_rfl
theorem seqT_99 : seqT Tryz.prog 99 = false := by kernel_rfl
theorem sliceable_99 : sliceable Tryz.prog 99 = false := by kernel_rfl
theorem szOf_100 : szOf Tryz.prog 100 = 3 := by kernel_rfl
theorem aggT_100 : aggT Tryz.prog 100 = some true := by kernel_rfl
theorem elemT_100 : elemT Tryz.prog 100 = none := by kernel_rfl
theorem bytesOf_100 : bytesOf Tryz.prog 100 = some 24 := by kernel_rfl
theorem zeroOf_100 : zeroOf Tryz.prog 100 = some [A.int .i64 0, A.int .i64 0, A.bool false] := by kernel_rfl
theorem arrT_100 : arrT Tryz.prog 100 = none := by kernel_rfl
theorem fieldT_100_0 : fieldT Tryz.prog 100 0 = some (0, 3) := by kernel_rfl
theorem fieldT_100_1 : fieldT Tryz.prog 100 1 = some (1, 3) := by kernel_rfl
theorem fieldT_100_2 : fieldT Tryz.prog 100 2 = some (2, 4) := by kernel_rfl
theorem isStr_100 : isStr Tryz.prog 100 = false := by kernel_rfl
theorem isBool_100 : isBool Tryz.prog 100 = false := by kernel_rfl
theorem isPtr_100 : isPtr Tryz.prog 100 = false := by kernel_rfl
theorem isU8_100 : isU8 Tryz.prog 100 = false := by kernel_rfl
theorem isIfc_100 : isIfc Tryz.prog 100 = false := by kernel_rfl
theorem ifcT_100 : ifcT Tryz.prog 100 = false := by kernel_rfl
theorem fieldsOk_100 : fieldsOk Tryz.prog 100 = true := by kernel_rfl
theorem seqT_100 : seqT Tryz.prog 100 = false := by kernel_rfl
theorem sliceable_100 : sliceable Tryz.prog 100 = false := by kernel_rfl
theorem szOf_102 : szOf Tryz.prog 102 = 1 := by kernel_rfl
theorem aggT_102 : aggT Tryz.prog 102 = some false := by kernel_rfl
theorem elemT_102 : elemT Tryz.prog 102 = none := by kernel_rfl
theorem bytesOf_102 : bytesOf Tryz.prog 102 = some 8 := by kernel_rfl
theorem zeroOf_102 : zeroOf Tryz.prog 102 = some [A.nilf] := by kernel_rfl
theorem arrT_102 : arrT Tryz.prog 102 = none := by kernel_rfl
theorem isStr_102 : isStr Tryz.prog 102 = false := by kernel_rfl
theorem isBool_102 : isBool Tryz.prog 102 = false := by kernel_rfl
theorem isPtr_102 : isPtr Tryz.prog 102 = false := by kernel_rfl
theorem isU8_102 : isU8 Tryz.prog 102 = false := by kernel_rfl
theorem isIfc_102 : isIfc Tryz.prog 102 = false := by kernel_rfl
theorem ifcT_102 : ifcT Tryz.prog 102 = false := by kernel_rfl
theorem seqT_102 : seqT Tryz.prog 102 = false := by kernel_rfl
theorem sliceable_102 : sliceable Tryz.prog 102 = false := by kernel_rfl
theorem szOf_103 : szOf Tryz.prog 103 = 1 := by kernel_rfl
theorem aggT_103 : aggT Tryz.prog 103 = some false := by kernel_rfl
theorem elemT_103 : elemT Tryz.prog 103 = none := by kernel_rfl
theorem bytesOf_103 : bytesOf Tryz.prog 103 = some 8 := by kernel_rfl
theorem zeroOf_103 : zeroOf Tryz.prog 103 = some [A.nilp] := by kernel_rfl
theorem arrT_103 : arrT Tryz.prog 103 = none := by kernel_rfl
theorem isStr_103 : isStr Tryz.prog 103 = false := by kernel_rfl
theorem isBool_103 : isBool Tryz.prog 103 = false := by kernel_rfl
theorem isPtr_103 : isPtr Tryz.prog 103 = true := by kernel_rfl
theorem isU8_103 : isU8 Tryz.prog 103 = false := by kernel_rfl
theorem isIfc_103 : isIfc Tryz.prog 103 = false := by kernel_rfl
theorem ifcT_103 : ifcT Tryz.prog 103 = false := by kernel_rfl
theorem seqT_103 : seqT Tryz.prog 103 = false := by kernel_rfl
theorem sliceable_103 : sliceable Tryz.prog 103 = false := by kernel_rfl
theorem szOf_104 : szOf Tryz.prog 104 = 2 := by kernel_rfl
theorem aggT_104 : aggT Tryz.prog 104 = some true := by kernel_rfl
theorem elemT_104 : elemT Tryz.prog 104 = none := by kernel_rfl
theorem bytesOf_104 : bytesOf Tryz.prog 104 = some 32 := by kernel_rfl
theorem zeroOf_104 : zeroOf Tryz.prog 104 = some [A.nils, A.bool false] := by kernel_rfl
theorem arrT_104 : arrT Tryz.prog 104 = none := by kernel_rfl
theorem fieldT_104_0 : fieldT Tryz.prog 104 0 = some (0, 66) := by kernel_rfl
theorem fieldT_104_1 : fieldT Tryz.prog 104 1 = some (1, 4) := by kernel_rfl
theorem isStr_104 : isStr Tryz.prog 104 = false := by kernel_rfl
theorem isBool_104 : isBool Tryz.prog 104 = false := by kernel_rfl
theorem isPtr_104 : isPtr Tryz.prog 104 = false := by kernel_rfl
theorem isU8_104 : isU8 Tryz.prog 104 = false := by kernel_rfl
theorem isIfc_104 : isIfc Tryz.prog 104 = false := by kernel_rfl
theorem ifcT_104 : ifcT Tryz.prog 104 = false := by kernel_rfl
theorem fieldsOk_104 : fieldsOk Tryz.prog 104 = true := by kernel_rfl
theorem seqT_104 : seqT Tryz.prog 104 = false := by kernel_rfl
theorem sliceable_104 : sliceable Tryz.prog 104 = false := by kernel_rfl
theorem szOf_105 : szOf Tryz.prog 105 = 2 := by kernel_rfl
theorem aggT_105 : aggT Tryz.prog 105 = some true := by kernel_rfl
theorem elemT_105 : elemT Tryz.prog 105 = none := by kernel_rfl
theorem bytesOf_105 : bytesOf Tryz.prog 105 = some 32 := by kernel_rfl
theorem zeroOf_105 : zeroOf Tryz.prog 105 = some [A.nils, A.bool false] := by kernel_rfl
theorem arrT_105 : arrT Tryz.prog 105 = none := by kernel_rfl
theorem fieldT_105_0 : fieldT Tryz.prog 105 0 = some (0, 66) := by kernel_rfl
theorem fieldT_105_1 : fieldT Tryz.prog 105 1 = some (1, 4) := by kernel_rfl
theorem isStr_105 : isStr Tryz.prog 105 = false := by kernel_rfl
theorem isBool_105 : isBool Tryz.prog 105 = false := by kernel_rfl
theorem isPtr_105 : isPtr Tryz.prog 105 = false := by kernel_rfl
theorem isU8_105 : isU8 Tryz.prog 105 = false := by kernel_rfl
theorem isIfc_105 : isIfc Tryz.prog 105 = false := by kernel_rfl
theorem ifcT_105 : ifcT Tryz.prog 105 = false := by kernel_rfl
theorem fieldsOk_105 : fieldsOk Tryz.prog 105 = true := by kernel_rfl
theorem seqT_105 : seqT Tryz.prog 105 = false := by kernel_rfl
theorem sliceable_105 : sliceable Tryz.prog 105 = false := by kernel_rfl
theorem szOf_106 : szOf Tryz.prog 106 = 1 := by kernel_rfl
theorem aggT_106 : aggT Tryz.prog 106 = some false := by kernel_rfl
theorem elemT_106 : elemT Tryz.prog 106 = none := by kernel_rfl
theorem bytesOf_106 : bytesOf Tryz.prog 106 = some 8 := by kernel_rfl
theorem zeroOf_106 : zeroOf Tryz.prog 106 = some [A.nilf] := by kernel_rfl
theorem arrT_106 : arrT Tryz.prog 106 = none := by kernel_rfl
theorem isStr_106 : isStr Tryz.prog 106 = false := by kernel_rfl
theorem isBool_106 : isBool Tryz.prog 106 = false := by kernel_rfl
theorem isPtr_106 : isPtr Tryz.prog 106 = false := by kernel_rfl
theorem isU8_106 : isU8 Tryz.prog 106 = false := by kernel_rfl
theorem isIfc_106 : isIfc Tryz.prog 106 = false := by kernel_rfl
theorem ifcT_106 : ifcT Tryz.prog 106 = false := by kernel_rfl
theorem seqT_106 : seqT Tryz.prog 106 = false := by kernel_rfl
theorem sliceable_106 : sliceable Tryz.prog 106 = false := by kernel_rfl
theorem szOf_107 : szOf Tryz.prog 107 = 1 := by kernel_rfl
theorem aggT_107 : aggT Tryz.prog 107 = some false := by kernel_rfl
theorem elemT_107 : elemT Tryz.prog 107 = none := by kernel_rfl
theorem bytesOf_107 : bytesOf Tryz.prog 107 = some 8 := by kernel_rfl
theorem zeroOf_107 : zeroOf Tryz.prog 107 = some [A.nilf] := by kernel_rfl
theorem arrT_107 : arrT Tryz.prog 107 = none := by kernel_rfl
theorem isStr_107 : isStr Tryz.prog 107 = false := by kernel_rfl
theorem isBool_107 : isBool Tryz.prog 107 = false := by kernel_rfl
theorem isPtr_107 : isPtr Tryz.prog 107 = false := by kernel_rfl
theorem isU8_107 : isU8 Tryz.prog 107 = false := by kernel_rfl
theorem isIfc_107 : isIfc Tryz.prog 107 = false := by kernel_rfl
theorem ifcT_107 : ifcT Tryz.prog 107 = false := by kernel_rfl
theorem seqT_107 : seqT Tryz.prog 107 = false := by kernel_rfl
theorem sliceable_107 : sliceable Tryz.prog 107 = false := by kernel_rfl
theorem szOf_108 : szOf Tryz.prog 108 = 1 := by kernel_rfl
theorem aggT_108 : aggT Tryz.prog 108 = some false := by kernel_rfl
theorem elemT_108 : elemT Tryz.prog 108 = none := by kernel_rfl
theorem bytesOf_108 : bytesOf Tryz.prog 108 = some 8 := by kernel_rfl
theorem zeroOf_108 : zeroOf Tryz.prog 108 = some [A.nilf] := by kernel_rfl
theorem arrT_108 : arrT Tryz.prog 108 = none := by kernel_rfl
theorem isStr_108 : isStr Tryz.prog 108 = false := by kernel_rfl
theorem isBool_108 : isBool Tryz.prog 108 = false := by kernel_rfl
theorem isPtr_108 : isPtr Tryz.prog 108 = false := by kernel_rfl
theorem isU8_108 : isU8 Tryz.prog 108 = false := by kernel_rfl
theorem isIfc_108 : isIfc Tryz.prog 108 = false := by kernel_rfl
theorem ifcT_108 : ifcT Tryz.prog 108 = false := by kernel_rfl
theorem seqT_108 : seqT Tryz.prog 108 = false := by kernel_rfl
theorem sliceable_108 : sliceable Tryz.prog 108 = false := by kernel_rfl
theorem szOf_109 : szOf Tryz.prog 109 = 1 := by kernel_rfl
theorem aggT_109 : aggT Tryz.prog 109 = some false := by kernel_rfl
theorem elemT_109 : elemT Tryz.prog 109 = none := by kernel_rfl
theorem bytesOf_109 : bytesOf Tryz.prog 109 = some 8 := by kernel_rfl
theorem zeroOf_109 : zeroOf Tryz.prog 109 = some [A.nilf] := by kernel_rfl
theorem arrT_109 : arrT Tryz.prog 109 = none := by kernel_rfl
theorem isStr_109 : isStr Tryz.prog 109 = false := by kernel_rfl
theorem isBool_109 : isBool Tryz.prog 109 = false := by kernel_rfl
theorem isPtr_109 : isPtr Tryz.prog 109 = false := by kernel_rfl
theorem isU8_109 : isU8 Tryz.prog 109 = false := by kernel_rfl
theorem isIfc_109 : isIfc Tryz.prog 109 = false := by kernel_rfl
theorem ifcT_109 : ifcT Tryz.prog 109 = false := by kernel_rfl
theorem seqT_109 : seqT Tryz.prog 109 = false := by kernel_rfl
theorem sliceable_109 : sliceable Tryz.prog 109 = false := by kernel_rfl
theorem szOf_110 : szOf Tryz.prog 110 = 1 := by kernel_rfl
theorem aggT_110 : aggT Tryz.prog 110 = some false := by kernel_rfl
theorem elemT_110 : elemT Tryz.prog 110 = none := by kernel_rfl
theorem bytesOf_110 : bytesOf Tryz.prog 110 = some 8 := by kernel_rfl
theorem zeroOf_110 : zeroOf Tryz.prog 110 = some [A.int .u64 0] := by kernel_rfl
theorem arrT_110 : arrT Tryz.prog 110 = none := by kernel_rfl
theorem isStr_110 : isStr Tryz.prog 110 = false := by kernel_rfl
theorem isBool_110 : isBool Tryz.prog 110 = false := by kernel_rfl
theorem isPtr_110 : isPtr Tryz.prog 110 = false := by kernel_rfl
theorem isU8_110 : isU8 Tryz.prog 110 = false := by kernel_rfl
theorem isIfc_110 : isIfc Tryz.prog 110 = false := by kernel_rfl
theorem ifcT_110 : ifcT Tryz.prog 110 = false := by kernel_rfl
theorem seqT_110 : seqT Tryz.prog 110 = false := by kernel_rfl
theorem sliceable_110 : sliceable Tryz.prog 110 = false := by kernel_rfl
theorem szOf_111 : szOf Tryz.prog 111 = 1 := by kernel_rfl
theorem aggT_111 : aggT Tryz.prog 111 = some false := by kernel_rfl
theorem elemT_111 : elemT Tryz.prog 111 = none := by kernel_rfl
theorem bytesOf_111 : bytesOf Tryz.prog 111 = some 8 := by kernel_rfl
theorem zeroOf_111 : zeroOf Tryz.prog 111 = some [A.nilf] := by kernel_rfl
theorem arrT_111 : arrT Tryz.prog 111 = none := by kernel_rfl
theorem isStr_111 : isStr Tryz.prog 111 = false := by kernel_rfl
theorem isBool_111 : isBool Tryz.prog 111 = false := by kernel_rfl
theorem isPtr_111 : isPtr Tryz.prog 111 = false := by kernel_rfl
theorem isU8_111 : isU8 Tryz.prog 111 = false := by kernel_rfl
theorem isIfc_111 : isIfc Tryz.prog 111 = false := by kernel_rfl
theorem ifcT_111 : ifcT Tryz.prog 111 = false := by kernel_rfl
theorem seqT_111 : seqT Tryz.prog 111 = false := by kernel_rfl
theorem sliceable_111 : sliceable Tryz.prog 111 = false := by kernel_rfl
theorem szOf_112 : szOf Tryz.prog 112 = 1 := by kernel_rfl
theorem aggT_112 : aggT Tryz.prog 112 = some false := by kernel_rfl
theorem elemT_112 : elemT Tryz.prog 112 = none := by kernel_rfl
theorem bytesOf_112 : bytesOf Tryz.prog 112 = some 8 := by kernel_rfl
theorem zeroOf_112 : zeroOf Tryz.prog 112 = some [A.nilf] := by kernel_rfl
theorem arrT_112 : arrT Tryz.prog 112 = none := by kernel_rfl
theorem isStr_112 : isStr Tryz.prog 112 = false := by kernel_rfl
theorem isBool_112 : isBool Tryz.prog 112 = false := by kernel_rfl
theorem isPtr_112 : isPtr Tryz.prog 112 = false := by kernel_rfl
theorem isU8_112 : isU8 Tryz.prog 112 = false := by kernel_rfl
theorem isIfc_112 : isIfc Tryz.prog 112 = false := by kernel_rfl
theorem ifcT_112 : ifcT Tryz.prog 112 = false := by kernel_rfl
theorem seqT_112 : seqT Tryz.prog 112 = false := by kernel_rfl
theorem sliceable_112 : sliceable Tryz.prog 112 = false := by kernel_rfl
theorem szOf_113 : szOf Tryz.prog 113 = 1 := by kernel_rfl
theorem aggT_113 : aggT Tryz.prog 113 = some false := by kernel_rfl
theorem elemT_113 : elemT Tryz.prog 113 = none := by kernel_rfl
theorem bytesOf_113 : bytesOf Tryz.prog 113 = some 8 := by kernel_rfl
theorem zeroOf_113 : zeroOf Tryz.prog 113 = some [A.nilf] := by kernel_rfl
theorem arrT_113 : arrT Tryz.prog 113 = none := by kernel_rfl
theorem isStr_113 : isStr Tryz.prog 113 = false := by kernel_rfl
theorem isBool_113 : isBool Tryz.prog 113 = false := by kernel_rfl
theorem isPtr_113 : isPtr Tryz.prog 113 = false := by kernel_rfl
theorem isU8_113 : isU8 Tryz.prog 113 = false := by kernel_rfl
theorem isIfc_113 : isIfc Tryz.prog 113 = false := by kernel_rfl
theorem ifcT_113 : ifcT Tryz.prog 113 = false := by kernel_rfl
theorem seqT_113 : seqT Tryz.prog 113 = false := by kernel_rfl
theorem sliceable_113 : sliceable Tryz.prog 113 = false := by kernel_rfl
theorem szOf_114 : szOf Tryz.prog 114 = 1 := by kernel_rfl
theorem aggT_114 : aggT Tryz.prog 114 = some false := by kernel_rfl
theorem elemT_114 : elemT Tryz.prog 114 = none := by kernel_rfl
theorem bytesOf_114 : bytesOf Tryz.prog 114 = some 8 := by kernel_rfl
theorem zeroOf_114 : zeroOf Tryz.prog 114 = some [A.nilf] := by kernel_rfl
theorem arrT_114 : arrT Tryz.prog 114 = none := by kernel_rfl
theorem isStr_114 : isStr Tryz.prog 114 = false := by kernel_rfl
theorem isBool_114 : isBool Tryz.prog 114 = false := by kernel_rfl
theorem isPtr_114 : isPtr Tryz.prog 114 = false := by kernel_rfl
theorem isU8_114 : isU8 Tryz.prog 114 = false := by kernel_rfl
theorem isIfc_114 : isIfc Tryz.prog 114 = false := by kernel_rfl
theorem ifcT_114 : ifcT Tryz.prog 114 = false := by kernel_rfl
theorem seqT_114 : seqT Tryz.prog 114 = false := by kernel_rfl
theorem sliceable_114 : sliceable Tryz.prog 114 = false := by kernel_rfl
theorem szOf_115 : szOf Tryz.prog 115 = 1 := by kernel_rfl
theorem aggT_115 : aggT Tryz.prog 115 = some false := by kernel_rfl
theorem elemT_115 : elemT Tryz.prog 115 = none := by kernel_rfl
theorem bytesOf_115 : bytesOf Tryz.prog 115 = some 8 := by kernel_rfl
theorem zeroOf_115 : zeroOf Tryz.prog 115 = some [A.nilp] := by kernel_rfl
theorem arrT_115 : arrT Tryz.prog 115 = none := by kernel_rfl
theorem isStr_115 : isStr Tryz.prog 115 = false := by kernel_rfl
theorem isBool_115 : isBool Tryz.prog 115 = false := by kernel_rfl
theorem isPtr_115 : isPtr Tryz.prog 115 = true := by kernel_rfl
theorem isU8_115 : isU8 Tryz.prog 115 = false := by kernel_rfl
theorem isIfc_115 : isIfc Tryz.prog 115 = false := by kernel_rfl
theorem ifcT_115 : ifcT Tryz.prog 115 = false := by kernel_rfl
theorem seqT_115 : seqT Tryz.prog 115 = false := by kernel_rfl
theorem sliceable_115 : sliceable Tryz.prog 115 = false := by kernel_rfl
theorem szOf_116 : szOf Tryz.prog 116 = 1 := by kernel_rfl
theorem aggT_116 : aggT Tryz.prog 116 = some false := by kernel_rfl
theorem elemT_116 : elemT Tryz.prog 116 = none := by kernel_rfl
theorem bytesOf_116 : bytesOf Tryz.prog 116 = some 8 := by kernel_rfl
theorem zeroOf_116 : zeroOf Tryz.prog 116 = some [A.nilf] := by kernel_rfl
theorem arrT_116 : arrT Tryz.prog 116 = none := by kernel_rfl
theorem isStr_116 : isStr Tryz.prog 116 = false := by kernel_rfl
theorem isBool_116 : isBool Tryz.prog 116 = false := by kernel_rfl
theorem isPtr_116 : isPtr Tryz.prog 116 = false := by kernel_rfl
theorem isU8_116 : isU8 Tryz.prog 116 = false := by kernel_rfl
theorem isIfc_116 : isIfc Tryz.prog 116 = false := by kernel_rfl
theorem ifcT_116 : ifcT Tryz.prog 116 = false := by kernel_rfl
theorem seqT_116 : seqT Tryz.prog 116 = false := by kernel_rfl
theorem sliceable_116 : sliceable Tryz.prog 116 = false := by kernel_rfl
theorem szOf_117 : szOf Tryz.prog 117 = 1 := by kernel_rfl
theorem aggT_117 : aggT Tryz.prog 117 = some false := by kernel_rfl
theorem elemT_117 : elemT Tryz.prog 117 = none := by kernel_rfl
theorem bytesOf_117 : bytesOf Tryz.prog 117 = some 8 := by kernel_rfl
theorem zeroOf_117 : zeroOf Tryz.prog 117 = some [A.nilf] := by kernel_rfl
theorem arrT_117 : arrT Tryz.prog 117 = none := by kernel_rfl
theorem isStr_117 : isStr Tryz.prog 117 = false := by kernel_rfl
theorem isBool_117 : isBool Tryz.prog 117 = false := by kernel_rfl
theorem isPtr_117 : isPtr Tryz.prog 117 = false := by kernel_rfl
theorem isU8_117 : isU8 Tryz.prog 117 = false := by kernel_rfl
theorem isIfc_117 : isIfc Tryz.prog 117 = false := by kernel_rfl
theorem ifcT_117 : ifcT Tryz.prog 117 = false := by kernel_rfl
theorem seqT_117 : seqT Tryz.prog 117 = false := by kernel_rfl
theorem sliceable_117 : sliceable Tryz.prog 117 = false := by kernel_rfl
theorem szOf_118 : szOf Tryz.prog 118 = 1 := by kernel_rfl
theorem aggT_118 : aggT Tryz.prog 118 = some false := by kernel_rfl
theorem elemT_118 : elemT Tryz.prog 118 = none := by kernel_rfl
theorem bytesOf_118 : bytesOf Tryz.prog 118 = some 8 := by kernel_rfl
theorem zeroOf_118 : zeroOf Tryz.prog 118 = some [A.nilf] := by kernel_rfl
theorem arrT_118 : arrT Tryz.prog 118 = none := by kernel_rfl
theorem isStr_118 : isStr Tryz.prog 118 = false := by kernel_rfl
theorem isBool_118 : isBool Tryz.prog 118 = false := by kernel_rfl
theorem isPtr_118 : isPtr Tryz.prog 118 = false := by kernel_rfl
theorem isU8_118 : isU8 Tryz.prog 118 = false := by kernel_rfl
theorem isIfc_118 : isIfc Tryz.prog 118 = false := by kernel_rfl
theorem ifcT_118 : ifcT Tryz.prog 118 = false := by kernel_rfl
theorem seqT_118 : seqT Tryz.prog 118 = false := by kernel_rfl
theorem sliceable_118 : sliceable Tryz.prog 118 = false := by kernel_rfl
theorem szOf_119 : szOf Tryz.prog 119 = 1 := by kernel_rfl
theorem aggT_119 : aggT Tryz.prog 119 = some false := by kernel_rfl
theorem elemT_119 : elemT Tryz.prog 119 = none := by kernel_rfl
theorem bytesOf_119 : bytesOf Tryz.prog 119 = some 8 := by kernel_rfl
theorem zeroOf_119 : zeroOf Tryz.prog 119 = some [A.nilf] := by kernel_rfl
theorem arrT_119 : arrT Tryz.prog 119 = none := by kernel_rfl
theorem isStr_119 : isStr Tryz.prog 119 = false := by kernel_rfl
theorem isBool_119 : isBool Tryz.prog 119 = false := by kernel_rfl
theorem isPtr_119 : isPtr Tryz.prog 119 = false := by kernel_rfl
theorem isU8_119 : isU8 Tryz.prog 119 = false := by kernel_rfl
theorem isIfc_119 : isIfc Tryz.prog 119 = false := by kernel_rfl
theorem ifcT_119 : ifcT Tryz.prog 119 = false := by kernel_rfl
theorem seqT_119 : seqT Tryz.prog 119 = false := by kernel_rfl
theorem sliceable_119 : sliceable Tryz.prog 119 = false := by kernel_rfl
theorem szOf_120 : szOf Tryz.prog 120 = 1 := by kernel_rfl
theorem aggT_120 : aggT Tryz.prog 120 = some false := by kernel_rfl
theorem elemT_120 : elemT Tryz.prog 120 = none := by kernel_rfl
theorem bytesOf_120 : bytesOf Tryz.prog 120 = some 8 := by kernel_rfl
theorem zeroOf_120 : zeroOf Tryz.prog 120 = some [A.nilf] := by kernel_rfl
theorem arrT_120 : arrT Tryz.prog 120 = none := by kernel_rfl
theorem isStr_120 : isStr Tryz.prog 120 = false := by kernel_rfl
theorem isBool_120 : isBool Tryz.prog 120 = false := by kernel_rfl
theorem isPtr_120 : isPtr Tryz.prog 120 = false := by kernel_rfl
theorem isU8_120 : isU8 Tryz.prog 120 = false := by kernel_rfl
theorem isIfc_120 : isIfc Tryz.prog 120 = false := by kernel_rfl
theorem ifcT_120 : ifcT Tryz.prog 120 = false := by kernel_rfl
theorem seqT_120 : seqT Tryz.prog 120 = false := by kernel_rfl
theorem sliceable_120 : sliceable Tryz.prog 120 = false := by kernel_rfl
theorem szOf_121 : szOf Tryz.prog 121 = 1 := by kernel_rfl
theorem aggT_121 : aggT Tryz.prog 121 = some false := by kernel_rfl
theorem elemT_121 : elemT Tryz.prog 121 = none := by kernel_rfl
theorem bytesOf_121 : bytesOf Tryz.prog 121 = some 8 := by kernel_rfl
theorem zeroOf_121 : zeroOf Tryz.prog 121 = some [A.nilf] := by kernel_rfl
theorem arrT_121 : arrT Tryz.prog 121 = none := by kernel_rfl
theorem isStr_121 : isStr Tryz.prog 121 = false := by kernel_rfl
theorem isBool_121 : isBool Tryz.prog 121 = false := by kernel_rfl
theorem isPtr_121 : isPtr Tryz.prog 121 = false := by kernel_rfl
theorem isU8_121 : isU8 Tryz.prog 121 = false := by kernel_rfl
theorem isIfc_121 : isIfc Tryz.prog 121 = false := by kernel_rfl
theorem ifcT_121 : ifcT Tryz.prog 121 = false := by kernel_rfl
theorem seqT_121 : seqT Tryz.prog 121 = false := by kernel_rfl
theorem sliceable_121 : sliceable Tryz.prog 121 = false := by kernel_rfl
theorem szOf_122 : szOf Tryz.prog 122 = 1 := by kernel_rfl
theorem aggT_122 : aggT Tryz.prog 122 = some false := by kernel_rfl
theorem elemT_122 : elemT Tryz.prog 122 = none := by kernel_rfl
theorem bytesOf_122 : bytesOf Tryz.prog 122 = some 8 := by kernel_rfl
theorem zeroOf_122 : zeroOf Tryz.prog 122 = some [A.nilf] := by kernel_rfl
theorem arrT_122 : arrT Tryz.prog 122 = none := by kernel_rfl
theorem isStr_122 : isStr Tryz.prog 122 = false := by kernel_rfl
theorem isBool_122 : isBool Tryz.prog 122 = false := by kernel_rfl
theorem isPtr_122 : isPtr Tryz.prog 122 = false := by kernel_rfl
theorem isU8_122 : isU8 Tryz.prog 122 = false := by kernel_rfl
theorem isIfc_122 : isIfc Tryz.prog 122 = false := by kernel_rfl
theorem ifcT_122 : ifcT Tryz.prog 122 = false := by kernel_rfl
theorem seqT_122 : seqT Tryz.prog 122 = false := by kernel_rfl
theorem sliceable_122 : sliceable Tryz.prog 122 = false := by kernel_rfl
theorem szOf_123 : szOf Tryz.prog 123 = 1 := by kernel_rfl
theorem aggT_123 : aggT Tryz.prog 123 = some false := by kernel_rfl
theorem elemT_123 : elemT Tryz.prog 123 = none := by kernel_rfl
theorem bytesOf_123 : bytesOf Tryz.prog 123 = some 8 := by kernel_rfl
theorem zeroOf_123 : zeroOf Tryz.prog 123 = some [A.nilf] := by kernel_rfl
theorem arrT_123 : arrT Tryz.prog 123 = none := by kernel_rfl
theorem isStr_123 : isStr Tryz.prog 123 = false := by kernel_rfl
theorem isBool_123 : isBool Tryz.prog 123 = false := by kernel_rfl
theorem isPtr_123 : isPtr Tryz.prog 123 = false := by kernel_rfl
theorem isU8_123 : isU8 Tryz.prog 123 = false := by kernel_rfl
theorem isIfc_123 : isIfc Tryz.prog 123 = false := by kernel_rfl
theorem ifcT_123 : ifcT Tryz.prog 123 = false := by kernel_rfl
theorem seqT_123 : seqT Tryz.prog 123 = false := by kernel_rfl
theorem sliceable_123 : sliceable Tryz.prog 123 = false := by kernel_rfl
theorem szOf_124 : szOf Tryz.prog 124 = 1 := by kernel_rfl
theorem aggT_124 : aggT Tryz.prog 124 = some false := by kernel_rfl
theorem elemT_124 : elemT Tryz.prog 124 = none := by kernel_rfl
theorem bytesOf_124 : bytesOf Tryz.prog 124 = some 8 := by kernel_rfl
theorem zeroOf_124 : zeroOf Tryz.prog 124 = some [A.nilf] := by kernel_rfl
theorem arrT_124 : arrT Tryz.prog 124 = none := by kernel_rfl
theorem isStr_124 : isStr Tryz.prog 124 = false := by kernel_rfl
theorem isBool_124 : isBool Tryz.prog 124 = false := by kernel_rfl
theorem isPtr_124 : isPtr Tryz.prog 124 = false := by kernel_rfl
theorem isU8_124 : isU8 Tryz.prog 124 = false := by kernel_rfl
theorem isIfc_124 : isIfc Tryz.prog 124 = false := by kernel_rfl
theorem ifcT_124 : ifcT Tryz.prog 124 = false := by kernel_rfl
theorem seqT_124 : seqT Tryz.prog 124 = false := by kernel_rfl
theorem sliceable_124 : sliceable Tryz.prog 124 = false := by kernel_rfl
theorem szOf_125 : szOf Tryz.prog 125 = 1 := by kernel_rfl
theorem aggT_125 : aggT Tryz.prog 125 = some false := by kernel_rfl
theorem elemT_125 : elemT Tryz.prog 125 = none := by kernel_rfl
theorem bytesOf_125 : bytesOf Tryz.prog 125 = some 8 := by kernel_rfl
theorem zeroOf_125 : zeroOf Tryz.prog 125 = some [A.nilf] := by kernel_rfl
theorem arrT_125 : arrT Tryz.prog 125 = none := by kernel_rfl
theorem isStr_125 : isStr Tryz.prog 125 = false := by kernel_rfl
theorem isBool_125 : isBool Tryz.prog 125 = false := by kernel_rfl
theorem isPtr_125 : isPtr Tryz.prog 125 = false := by kernel_rfl
theorem isU8_125 : isU8 Tryz.prog 125 = false := by kernel_rfl
theorem isIfc_125 : isIfc Tryz.prog 125 = false := by kernel_rfl
theorem ifcT_125 : ifcT Tryz.prog 125 = false := by kernel_rfl
theorem seqT_125 : seqT Tryz.prog 125 = false := by kernel_rfl
theorem sliceable_125 : sliceable Tryz.prog 125 = false := by kernel_rfl
theorem szOf_126 : szOf Tryz.prog 126 = 1 := by kernel_rfl
theorem aggT_126 : aggT Tryz.prog 126 = some false := by kernel_rfl
theorem elemT_126 : elemT Tryz.prog 126 = none := by kernel_rfl
theorem bytesOf_126 : bytesOf Tryz.prog 126 = some 8 := by kernel_rfl
theorem zeroOf_126 : zeroOf Tryz.prog 126 = some [A.nilf] := by kernel_rfl
theorem arrT_126 : arrT Tryz.prog 126 = none := by kernel_rfl
theorem isStr_126 : isStr Tryz.prog 126 = false := by kernel_rfl
theorem isBool_126 : isBool Tryz.prog 126 = false := by kernel_rfl
theorem isPtr_126 : isPtr Tryz.prog 126 = false := by kernel_rfl
theorem isU8_126 : isU8 Tryz.prog 126 = false := by kernel_rfl
theorem isIfc_126 : isIfc Tryz.prog 126 = false := by kernel_rfl
theorem ifcT_126 : ifcT Tryz.prog 126 = false := by kernel_rfl
theorem seqT_126 : seqT Tryz.prog 126 = false := by kernel_rfl
theorem sliceable_126 : sliceable Tryz.prog 126 = false := by kernel_rfl
theorem szOf_127 : szOf Tryz.prog 127 = 1 := by kernel_rfl
theorem aggT_127 : aggT Tryz.prog 127 = some false := by kernel_rfl
theorem elemT_127 : elemT Tryz.prog 127 = none := by kernel_rfl
theorem bytesOf_127 : bytesOf Tryz.prog 127 = some 8 := by kernel_rfl
theorem zeroOf_127 : zeroOf Tryz.prog 127 = some [A.nilf] := by kernel_rfl
theorem arrT_127 : arrT Tryz.prog 127 = none := by kernel_rfl
theorem isStr_127 : isStr Tryz.prog 127 = false := by kernel_rfl
theorem isBool_127 : isBool Tryz.prog 127 = false := by kernel_rfl
theorem isPtr_127 : isPtr Tryz.prog 127 = false := by kernel_rfl
theorem isU8_127 : isU8 Tryz.prog 127 = false := by kernel_rfl
theorem isIfc_127 : isIfc Tryz.prog 127 = false := by kernel_rfl
theorem ifcT_127 : ifcT Tryz.prog 127 = false := by kernel_rfl
theorem seqT_127 : seqT Tryz.prog 127 = false := by kernel_rfl
theorem sliceable_127 : sliceable Tryz.prog 127 = false := by kernel_rfl
theorem szOf_128 : szOf Tryz.prog 128 = 1 := by kernel_rfl
theorem aggT_128 : aggT Tryz.prog 128 = some false := by kernel_rfl
theorem elemT_128 : elemT Tryz.prog 128 = none := by kernel_rfl
theorem bytesOf_128 : bytesOf Tryz.prog 128 = some 8 := by kernel_rfl
theorem zeroOf_128 : zeroOf Tryz.prog 128 = some [A.nilp] := by kernel_rfl
theorem arrT_128 : arrT Tryz.prog 128 = none := by kernel_rfl
theorem isStr_128 : isStr Tryz.prog 128 = false := by kernel_rfl
theorem isBool_128 : isBool Tryz.prog 128 = false := by kernel_rfl
theorem isPtr_128 : isPtr Tryz.prog 128 = true := by kernel_rfl
theorem isU8_128 : isU8 Tryz.prog 128 = false := by kernel_rfl
theorem isIfc_128 : isIfc Tryz.prog 128 = false := by kernel_rfl
theorem ifcT_128 : ifcT Tryz.prog 128 = false := by kernel_rfl
theorem seqT_128 : seqT Tryz.prog 128 = false := by kernel_rfl
theorem sliceable_128 : sliceable Tryz.prog 128 = false := by kernel_rfl
theorem szOf_129 : szOf Tryz.prog 129 = 1 := by kernel_rfl
theorem aggT_129 : aggT Tryz.prog 129 = some false := by kernel_rfl
theorem elemT_129 : elemT Tryz.prog 129 = none := by kernel_rfl
theorem bytesOf_129 : bytesOf Tryz.prog 129 = some 8 := by kernel_rfl
theorem zeroOf_129 : zeroOf Tryz.prog 129 = some [A.nilf] := by kernel_rfl
theorem arrT_129 : arrT Tryz.prog 129 = none := by kernel_rfl
theorem isStr_129 : isStr Tryz.prog 129 = false := by kernel_rfl
theorem isBool_129 : isBool Tryz.prog 129 = false := by kernel_rfl
theorem isPtr_129 : isPtr Tryz.prog 129 = false := by kernel_rfl
theorem isU8_129 : isU8 Tryz.prog 129 = false := by kernel_rfl
theorem isIfc_129 : isIfc Tryz.prog 129 = false := by kernel_rfl
theorem ifcT_129 : ifcT Tryz.prog 129 = false := by kernel_rfl
theorem seqT_129 : seqT Tryz.prog 129 = false := by kernel_rfl
theorem sliceable_129 : sliceable Tryz.prog 129 = false := by kernel_rfl
theorem szOf_130 : szOf Tryz.prog 130 = 1 := by kernel_rfl
theorem aggT_130 : aggT Tryz.prog 130 = some false := by kernel_rfl
theorem elemT_130 : elemT Tryz.prog 130 = none := by kernel_rfl
theorem bytesOf_130 : bytesOf Tryz.prog 130 = some 8 := by kernel_rfl
theorem zeroOf_130 : zeroOf Tryz.prog 130 = some [A.int .i64 0] := by kernel_rfl
theorem arrT_130 : arrT Tryz.prog 130 = none := by kernel_rfl
theorem isStr_130 : isStr Tryz.prog 130 = false := by kernel_rfl
theorem isBool_130 : isBool Tryz.prog 130 = false := by kernel_rfl
theorem isPtr_130 : isPtr Tryz.prog 130 = false := by kernel_rfl
theorem isU8_130 : isU8 Tryz.prog 130 = false := by kernel_rfl
theorem isIfc_130 : isIfc Tryz.prog 130 = false := by kernel_rfl
theorem ifcT_130 : ifcT Tryz.prog 130 = false := by kernel_rfl
theorem seqT_130 : seqT Tryz.prog 130 = false := by kernel_rfl
theorem sliceable_130 : sliceable Tryz.prog 130 = false := by kernel_rfl
theorem szOf_132 : szOf Tryz.prog 132 = 1 := by kernel_rfl
theorem aggT_132 : aggT Tryz.prog 132 = some false := by kernel_rfl
theorem elemT_132 : elemT Tryz.prog 132 = none := by kernel_rfl
theorem bytesOf_132 : bytesOf Tryz.prog 132 = some 8 := by kernel_rfl
theorem zeroOf_132 : zeroOf Tryz.prog 132 = some [A.nilf] := by kernel_rfl
theorem arrT_132 : arrT Tryz.prog 132 = none := by kernel_rfl
theorem isStr_132 : isStr Tryz.prog 132 = false := by kernel_rfl
theorem isBool_132 : isBool Tryz.prog 132 = false := by kernel_rfl
theorem isPtr_132 : isPtr Tryz.prog 132 = false := by kernel_rfl
theorem isU8_132 : isU8 Tryz.prog 132 = false := by kernel_rfl
theorem isIfc_132 : isIfc Tryz.prog 132 = false := by kernel_rfl
theorem ifcT_132 : ifcT Tryz.prog 132 = false := by kernel_rfl
theorem seqT_132 : seqT Tryz.prog 132 = false := by kernel_rfl
theorem sliceable_132 : sliceable Tryz.prog 132 = false := by kernel_rfl
theorem szOf_133 : szOf Tryz.prog 133 = 1 := by kernel_rfl
theorem aggT_133 : aggT Tryz.prog 133 = some false := by kernel_rfl
theorem elemT_133 : elemT Tryz.prog 133 = none := by kernel_rfl
theorem bytesOf_133 : bytesOf Tryz.prog 133 = some 8 := by kernel_rfl
theorem zeroOf_133 : zeroOf Tryz.prog 133 = some [A.nilf] := by kernel_rfl
theorem arrT_133 : arrT Tryz.prog 133 = none := by kernel_rfl
theorem isStr_133 : isStr Tryz.prog 133 = false := by kernel_rfl
theorem isBool_133 : isBool Tryz.prog 133 = false := by kernel_rfl
theorem isPtr_133 : isPtr Tryz.prog 133 = false := by kernel_rfl
theorem isU8_133 : isU8 Tryz.prog 133 = false := by kernel_rfl
theorem isIfc_133 : isIfc Tryz.prog 133 = false := by kernel_rfl
theorem ifcT_133 : ifcT Tryz.prog 133 = false := by kernel_rfl
theorem seqT_133 : seqT Tryz.prog 133 = false := by kernel_rfl
theorem sliceable_133 : sliceable Tryz.prog 133 = false := by kernel_rfl
theorem szOf_134 : szOf Tryz.prog 134 = 1 := by kernel_rfl
theorem aggT_134 : aggT Tryz.prog 134 = some false := by kernel_rfl
theorem elemT_134 : elemT Tryz.prog 134 = none := by kernel_rfl
theorem bytesOf_134 : bytesOf Tryz.prog 134 = some 8 := by kernel_rfl
theorem zeroOf_134 : zeroOf Tryz.prog 134 = some [A.nilf] := by kernel_rfl
theorem arrT_134 : arrT Tryz.prog 134 = none := by kernel_rfl
theorem isStr_134 : isStr Tryz.prog 134 = false := by kernel_rfl
theorem isBool_134 : isBool Tryz.prog 134 = false := by kernel_rfl
theorem isPtr_134 : isPtr Tryz.prog 134 = false := by kernel_rfl
theorem isU8_134 : isU8 Tryz.prog 134 = false := by kernel_rfl
theorem isIfc_134 : isIfc Tryz.prog 134 = false := by kernel_rfl
theorem ifcT_134 : ifcT Tryz.prog 134 = false := by kernel_rfl
theorem seqT_134 : seqT Tryz.prog 134 = false := by kernel_rfl
theorem sliceable_134 : sliceable Tryz.prog 134 = false := by kernel_rfl
theorem szOf_135 : szOf Tryz.prog 135 = 1 := by kernel_rfl
theorem aggT_135 : aggT Tryz.prog 135 = some false := by kernel_rfl
theorem elemT_135 : elemT Tryz.prog 135 = none := by kernel_rfl
theorem bytesOf_135 : bytesOf Tryz.prog 135 = some 8 := by kernel_rfl
theorem zeroOf_135 : zeroOf Tryz.prog 135 = some [A.nilf] := by kernel_rfl
theorem arrT_135 : arrT Tryz.prog 135 = none := by kernel_rfl
theorem isStr_135 : isStr Tryz.prog 135 = false := by kernel_rfl
theorem isBool_135 : isBool Tryz.prog 135 = false := by kernel_rfl
theorem isPtr_135 : isPtr Tryz.prog 135 = false := by kernel_rfl
theorem isU8_135 : isU8 Tryz.prog 135 = false := by kernel_rfl
theorem isIfc_135 : isIfc Tryz.prog 135 = false := by kernel_rfl
theorem ifcT_135 : ifcT Tryz.prog 135 = false := by kernel_rfl
theorem seqT_135 : seqT Tryz.prog 135 = false := by kernel_rfl
theorem sliceable_135 : sliceable Tryz.prog 135 = false := by kernel_rfl
theorem szOf_137 : szOf Tryz.prog 137 = 1 := by kernel_rfl
theorem aggT_137 : aggT Tryz.prog 137 = some false := by kernel_rfl
theorem elemT_137 : elemT Tryz.prog 137 = none := by kernel_rfl
theorem bytesOf_137 : bytesOf Tryz.prog 137 = some 8 := by kernel_rfl
theorem zeroOf_137 : zeroOf Tryz.prog 137 = some [A.nilf] := by kernel_rfl
theorem arrT_137 : arrT Tryz.prog 137 = none := by kernel_rfl
theorem isStr_137 : isStr Tryz.prog 137 = false := by kernel_rfl
theorem isBool_137 : isBool Tryz.prog 137 = false := by kernel_rfl
theorem isPtr_137 : isPtr Tryz.prog 137 = false := by kernel_rfl
theorem isU8_137 : isU8 Tryz.prog 137 = false := by kernel_rfl
theorem isIfc_137 : isIfc Tryz.prog 137 = false := by kernel_rfl
theorem ifcT_137 : ifcT Tryz.prog 137 = false := by kernel_rfl
theorem seqT_137 : seqT Tryz.prog 137 = false := by kernel_rfl
theorem sliceable_137 : sliceable Tryz.prog 137 = false := by kernel_rfl
theorem szOf_138 : szOf Tryz.prog 138 = 1 := by kernel_rfl
theorem aggT_138 : aggT Tryz.prog 138 = some false := by kernel_rfl
theorem elemT_138 : elemT Tryz.prog 138 = none := by kernel_rfl
theorem bytesOf_138 : bytesOf Tryz.prog 138 = some 8 := by kernel_rfl
theorem zeroOf_138 : zeroOf Tryz.prog 138 = some [A.nilf] := by kernel_rfl
theorem arrT_138 : arrT Tryz.prog 138 = none := by kernel_rfl
theorem isStr_138 : isStr Tryz.prog 138 = false := by kernel_rfl
theorem isBool_138 : isBool Tryz.prog 138 = false := by kernel_rfl
theorem isPtr_138 : isPtr Tryz.prog 138 = false := by kernel_rfl
theorem isU8_138 : isU8 Tryz.prog 138 = false := by kernel_rfl
theorem isIfc_138 : isIfc Tryz.prog 138 = false := by kernel_rfl
theorem ifcT_138 : ifcT Tryz.prog 138 = false := by kernel_rfl
theorem seqT_138 : seqT Tryz.prog 138 = false := by kernel_rfl
theorem sliceable_138 : sliceable Tryz.prog 138 = false := by kernel_rfl
theorem szOf_139 : szOf Tryz.prog 139 = 1 := by kernel_rfl
theorem aggT_139 : aggT Tryz.prog 139 = some false := by kernel_rfl
theorem elemT_139 : elemT Tryz.prog 139 = none := by kernel_rfl
theorem bytesOf_139 : bytesOf Tryz.prog 139 = some 4 := by kernel_rfl
theorem zeroOf_139 : zeroOf Tryz.prog 139 = some [A.int .u32 0] := by kernel_rfl
theorem arrT_139 : arrT Tryz.prog 139 = none := by kernel_rfl
theorem isStr_139 : isStr Tryz.prog 139 = false := by kernel_rfl
theorem isBool_139 : isBool Tryz.prog 139 = false := by kernel_rfl
theorem isPtr_139 : isPtr Tryz.prog 139 = false := by kernel_rfl
theorem isU8_139 : isU8 Tryz.prog 139 = false := by kernel_rfl
theorem isIfc_139 : isIfc Tryz.prog 139 = false := by kernel_rfl
theorem ifcT_139 : ifcT Tryz.prog 139 = false := by kernel_rfl
theorem seqT_139 : seqT Tryz.prog 139 = false := by kernel_rfl
theorem sliceable_139 : sliceable Tryz.prog 139 = false := by kernel_rfl
theorem szOf_140 : szOf Tryz.prog 140 = 1 := by kernel_rfl
theorem aggT_140 : aggT Tryz.prog 140 = some false := by kernel_rfl
theorem elemT_140 : elemT Tryz.prog 140 = none := by kernel_rfl
theorem bytesOf_140 : bytesOf Tryz.prog 140 = some 8 := by kernel_rfl
theorem zeroOf_140 : zeroOf Tryz.prog 140 = some [A.nilf] := by kernel_rfl
theorem arrT_140 : arrT Tryz.prog 140 = none := by kernel_rfl
theorem isStr_140 : isStr Tryz.prog 140 = false := by kernel_rfl
theorem isBool_140 : isBool Tryz.prog 140 = false := by kernel_rfl
theorem isPtr_140 : isPtr Tryz.prog 140 = false := by kernel_rfl
theorem isU8_140 : isU8 Tryz.prog 140 = false := by kernel_rfl
theorem isIfc_140 : isIfc Tryz.prog 140 = false := by kernel_rfl
theorem ifcT_140 : ifcT Tryz.prog 140 = false := by kernel_rfl
theorem seqT_140 : seqT Tryz.prog 140 = false := by kernel_rfl
theorem sliceable_140 : sliceable Tryz.prog 140 = false := by kernel_rfl
theorem szOf_141 : szOf Tryz.prog 141 = 1 := by kernel_rfl
theorem aggT_141 : aggT Tryz.prog 141 = some false := by kernel_rfl
theorem elemT_141 : elemT Tryz.prog 141 = none := by kernel_rfl
theorem bytesOf_141 : bytesOf Tryz.prog 141 = some 8 := by kernel_rfl
theorem zeroOf_141 : zeroOf Tryz.prog 141 = some [A.int .u64 0] := by kernel_rfl
theorem arrT_141 : arrT Tryz.prog 141 = none := by kernel_rfl
theorem isStr_141 : isStr Tryz.prog 141 = false := by kernel_rfl
theorem isBool_141 : isBool Tryz.prog 141 = false := by kernel_rfl
theorem isPtr_141 : isPtr Tryz.prog 141 = false := by kernel_rfl
theorem isU8_141 : isU8 Tryz.prog 141 = false := by kernel_rfl
theorem isIfc_141 : isIfc Tryz.prog 141 = false := by kernel_rfl
theorem ifcT_141 : ifcT Tryz.prog 141 = false := by kernel_rfl
theorem seqT_141 : seqT Tryz.prog 141 = false := by kernel_rfl
theorem sliceable_141 : sliceable Tryz.prog 141 = false := by kernel_rfl
theorem szOf_142 : szOf Tryz.prog 142 = 1 := by kernel_rfl
theorem aggT_142 : aggT Tryz.prog 142 = some false := by kernel_rfl
theorem elemT_142 : elemT Tryz.prog 142 = some 144 := by kernel_rfl
theorem bytesOf_142 : bytesOf Tryz.prog 142 = some 24 := by kernel_rfl
theorem zeroOf_142 : zeroOf Tryz.prog 142 = some [A.nils] := by kernel_rfl
theorem arrT_142 : arrT Tryz.prog 142 = none := by kernel_rfl
theorem isStr_142 : isStr Tryz.prog 142 = false := by kernel_rfl
theorem isBool_142 : isBool Tryz.prog 142 = false := by kernel_rfl
theorem isPtr_142 : isPtr Tryz.prog 142 = false := by kernel_rfl
theorem isU8_142 : isU8 Tryz.prog 142 = false := by kernel_rfl
theorem isIfc_142 : isIfc Tryz.prog 142 = false := by kernel_rfl
theorem ifcT_142 : ifcT Tryz.prog 142 = false := by kernel_rfl
theorem seqT_142 : seqT Tryz.prog 142 = true := by kernel_rfl
theorem sliceable_142 : sliceable Tryz.prog 142 = true := by kernel_rfl
theorem szOf_143 : szOf Tryz.prog 143 = 4 := by kernel_rfl
theorem aggT_143 : aggT Tryz.prog 143 = some true := by kernel_rfl
theorem elemT_143 : elemT Tryz.prog 143 = none := by kernel_rfl
theorem bytesOf_143 : bytesOf Tryz.prog 143 = some 64 := by kernel_rfl
theorem zeroOf_143 : zeroOf Tryz.prog 143 = some [A.int .i64 0, A.nils, A.nils, A.int .i64 0] := by kernel_rfl
theorem arrT_143 : arrT Tryz.prog 143 = none := by kernel_rfl
theorem fieldT_143_0 : fieldT Tryz.prog 143 0 = some (0, 28) := by kernel_rfl
theorem fieldT_143_1 : fieldT Tryz.prog 143 1 = some (3, 3) := by kernel_rfl
theorem isStr_143 : isStr Tryz.prog 143 = false := by kernel_rfl
theorem isBool_143 : isBool Tryz.prog 143 = false := by kernel_rfl
theorem isPtr_143 : isPtr Tryz.prog 143 = false := by kernel_rfl
theorem isU8_143 : isU8 Tryz.prog 143 = false := by kernel_rfl
theorem isIfc_143 : isIfc Tryz.prog 143 = false := by kernel_rfl
theorem ifcT_143 : ifcT Tryz.prog 143 = false := by kernel_rfl
theorem fieldsOk_143 : fieldsOk Tryz.prog 143 = true := by kernel_rfl
theorem seqT_143 : seqT Tryz.prog 143 = false := by kernel_rfl
theorem sliceable_143 : sliceable Tryz.prog 143 = false := by kernel_rfl
theorem szOf_144 : szOf Tryz.prog 144 = 4 := by kernel_rfl
theorem aggT_144 : aggT Tryz.prog 144 = some true := by kernel_rfl
theorem elemT_144 : elemT Tryz.prog 144 = none := by kernel_rfl
theorem bytesOf_144 : bytesOf Tryz.prog 144 = some 64 := by kernel_rfl
theorem zeroOf_144 : zeroOf Tryz.prog 144 = some [A.int .i64 0, A.nils, A.nils, A.int .i64 0] := by kernel_rfl
theorem arrT_144 : arrT Tryz.prog 144 = none := by kernel_rfl
theorem fieldT_144_0 : fieldT Tryz.prog 144 0 = some (0, 28) := by kernel_rfl
theorem fieldT_144_1 : fieldT Tryz.prog 144 1 = some (3, 3) := by kernel_rfl
theorem isStr_144 : isStr Tryz.prog 144 = false := by kernel_rfl
theorem isBool_144 : isBool Tryz.prog 144 = false := by kernel_rfl
theorem isPtr_144 : isPtr Tryz.prog 144 = false := by kernel_rfl
theorem isU8_144 : isU8 Tryz.prog 144 = false := by kernel_rfl
theorem isIfc_144 : isIfc Tryz.prog 144 = false := by kernel_rfl
theorem ifcT_144 : ifcT Tryz.prog 144 = false := by kernel_rfl
theorem fieldsOk_144 : fieldsOk Tryz.prog 144 = true := by kernel_rfl
theorem seqT_144 : seqT Tryz.prog 144 = false := by kernel_rfl
theorem sliceable_144 : sliceable Tryz.prog 144 = false := by kernel_rfl
theorem szOf_145 : szOf Tryz.prog 145 = 1 := by kernel_rfl
theorem aggT_145 : aggT Tryz.prog 145 = some false := by kernel_rfl
theorem elemT_145 : elemT Tryz.prog 145 = none := by kernel_rfl
theorem bytesOf_145 : bytesOf Tryz.prog 145 = some 8 := by kernel_rfl
theorem zeroOf_145 : zeroOf Tryz.prog 145 = some [A.nilf] := by kernel_rfl
theorem arrT_145 : arrT Tryz.prog 145 = none := by kernel_rfl
theorem isStr_145 : isStr Tryz.prog 145 = false := by kernel_rfl
theorem isBool_145 : isBool Tryz.prog 145 = false := by kernel_rfl
theorem isPtr_145 : isPtr Tryz.prog 145 = false := by kernel_rfl
theorem isU8_145 : isU8 Tryz.prog 145 = false := by kernel_rfl
theorem isIfc_145 : isIfc Tryz.prog 145 = false := by kernel_rfl
theorem ifcT_145 : ifcT Tryz.prog 145 = false := by kernel_rfl
theorem seqT_145 : seqT Tryz.prog 145 = false := by kernel_rfl
theorem sliceable_145 : sliceable Tryz.prog 145 = false := by kernel_rfl
theorem szOf_146 : szOf Tryz.prog 146 = 1 := by kernel_rfl
theorem aggT_146 : aggT Tryz.prog 146 = some false := by kernel_rfl
theorem elemT_146 : elemT Tryz.prog 146 = none := by kernel_rfl
theorem bytesOf_146 : bytesOf Tryz.prog 146 = some 8 := by kernel_rfl
theorem zeroOf_146 : zeroOf Tryz.prog 146 = some [A.nilf] := by kernel_rfl
theorem arrT_146 : arrT Tryz.prog 146 = none := by kernel_rfl
theorem isStr_146 : isStr Tryz.prog 146 = false := by kernel_rfl
theorem isBool_146 : isBool Tryz.prog 146 = false := by kernel_rfl
theorem isPtr_146 : isPtr Tryz.prog 146 = false := by kernel_rfl
theorem isU8_146 : isU8 Tryz.prog 146 = false := by kernel_rfl
theorem isIfc_146 : isIfc Tryz.prog 146 = false := by kernel_rfl
theorem ifcT_146 : ifcT Tryz.prog 146 = false := by kernel_rfl
theorem seqT_146 : seqT Tryz.prog 146 = false := by kernel_rfl
theorem sliceable_146 : sliceable Tryz.prog 146 = false := by kernel_rfl
theorem szOf_147 : szOf Tryz.prog 147 = 1 := by kernel_rfl
theorem aggT_147 : aggT Tryz.prog 147 = some false := by kernel_rfl
theorem elemT_147 : elemT Tryz.prog 147 = none := by kernel_rfl
theorem bytesOf_147 : bytesOf Tryz.prog 147 = some 8 := by kernel_rfl
theorem zeroOf_147 : zeroOf Tryz.prog 147 = some [A.nilf] := by kernel_rfl
theorem arrT_147 : arrT Tryz.prog 147 = none := by kernel_rfl
theorem isStr_147 : isStr Tryz.prog 147 = false := by kernel_rfl
theorem isBool_147 : isBool Tryz.prog 147 = false := by kernel_rfl
theorem isPtr_147 : isPtr Tryz.prog 147 = false := by kernel_rfl
theorem isU8_147 : isU8 Tryz.prog 147 = false := by kernel_rfl
theorem isIfc_147 : isIfc Tryz.prog 147 = false := by kernel_rfl
theorem ifcT_147 : ifcT Tryz.prog 147 = false := by kernel_rfl
theorem seqT_147 : seqT Tryz.prog 147 = false := by kernel_rfl
theorem sliceable_147 : sliceable Tryz.prog 147 = false := by kernel_rfl
theorem szOf_148 : szOf Tryz.prog 148 = 1 := by kernel_rfl
theorem aggT_148 : aggT Tryz.prog 148 = some false := by kernel_rfl
theorem elemT_148 : elemT Tryz.prog 148 = none := by kernel_rfl
theorem bytesOf_148 : bytesOf Tryz.prog 148 = some 8 := by kernel_rfl
theorem zeroOf_148 : zeroOf Tryz.prog 148 = some [A.nilf] := by kernel_rfl
theorem arrT_148 : arrT Tryz.prog 148 = none := by kernel_rfl
theorem isStr_148 : isStr Tryz.prog 148 = false := by kernel_rfl
theorem isBool_148 : isBool Tryz.prog 148 = false := by kernel_rfl
theorem isPtr_148 : isPtr Tryz.prog 148 = false := by kernel_rfl
theorem isU8_148 : isU8 Tryz.prog 148 = false := by kernel_rfl
theorem isIfc_148 : isIfc Tryz.prog 148 = false := by kernel_rfl
theorem ifcT_148 : ifcT Tryz.prog 148 = false := by kernel_rfl
theorem seqT_148 : seqT Tryz.prog 148 = false := by kernel_rfl
theorem sliceable_148 : sliceable Tryz.prog 148 = false := by kernel_rfl
theorem szOf_149 : szOf Tryz.prog 149 = 2 := by kernel_rfl
theorem aggT_149 : aggT Tryz.prog 149 = some true := by kernel_rfl
theorem elemT_149 : elemT Tryz.prog 149 = none := by kernel_rfl
theorem bytesOf_149 : bytesOf Tryz.prog 149 = some 16 := by kernel_rfl
theorem zeroOf_149 : zeroOf Tryz.prog 149 = some [A.int .i64 0, A.int .i64 0] := by kernel_rfl
theorem arrT_149 : arrT Tryz.prog 149 = none := by kernel_rfl
theorem fieldT_149_0 : fieldT Tryz.prog 149 0 = some (0, 3) := by kernel_rfl
theorem fieldT_149_1 : fieldT Tryz.prog 149 1 = some (1, 3) := by kernel_rfl
theorem isStr_149 : isStr Tryz.prog 149 = false := by kernel_rfl
theorem isBool_149 : isBool Tryz.prog 149 = false := by kernel_rfl
theorem isPtr_149 : isPtr Tryz.prog 149 = false := by kernel_rfl
theorem isU8_149 : isU8 Tryz.prog 149 = false := by kernel_rfl
theorem isIfc_149 : isIfc Tryz.prog 149 = false := by kernel_rfl
theorem ifcT_149 : ifcT Tryz.prog 149 = false := by kernel_rfl
theorem fieldsOk_149 : fieldsOk Tryz.prog 149 = true := by kernel_rfl
theorem seqT_149 : seqT Tryz.prog 149 = false := by kernel_rfl
theorem sliceable_149 : sliceable Tryz.prog 149 = false := by kernel_rfl
theorem szOf_150 : szOf Tryz.prog 150 = 2 := by kernel_rfl
theorem aggT_150 : aggT Tryz.prog 150 = some true := by kernel_rfl
theorem elemT_150 : elemT Tryz.prog 150 = none := by kernel_rfl
theorem bytesOf_150 : bytesOf Tryz.prog 150 = some 16 := by kernel_rfl
theorem zeroOf_150 : zeroOf Tryz.prog 150 = some [A.int .i64 0, A.int .i64 0] := by kernel_rfl
theorem arrT_150 : arrT Tryz.prog 150 = none := by kernel_rfl
theorem fieldT_150_0 : fieldT Tryz.prog 150 0 = some (0, 3) := by kernel_rfl
theorem fieldT_150_1 : fieldT Tryz.prog 150 1 = some (1, 3) := by kernel_rfl
theorem isStr_150 : isStr Tryz.prog 150 = false := by kernel_rfl
theorem isBool_150 : isBool Tryz.prog 150 = false := by kernel_rfl
theorem isPtr_150 : isPtr Tryz.prog 150 = false := by kernel_rfl
theorem isU8_150 : isU8 Tryz.prog 150 = false := by kernel_rfl
theorem isIfc_150 : isIfc Tryz.prog 150 = false := by kernel_rfl
theorem ifcT_150 : ifcT Tryz.prog 150 = false := by kernel_rfl
theorem fieldsOk_150 : fieldsOk Tryz.prog 150 = true := by kernel_rfl
theorem seqT_150 : seqT Tryz.prog 150 = false := by kernel_rfl
theorem sliceable_150 : sliceable Tryz.prog 150 = false := by kernel_rfl
theorem szOf_151 : szOf Tryz.prog 151 = 16 := by kernel_rfl
theorem aggT_151 : aggT Tryz.prog 151 = some true := by kernel_rfl
theorem elemT_151 : elemT Tryz.prog 151 = none := by kernel_rfl
theorem bytesOf_151 : bytesOf Tryz.prog 151 = some 128 := by kernel_rfl
theorem zeroOf_151 : zeroOf Tryz.prog 151 = some [A.int .i64 0, A.int .i64 0, A.int .i64 0, A.int .i64 0, A.int .i64 0, A.int .i64 0, A.int .i64 0, A.int .i64 0, A.int .i64 0, A.int .i64 0, A.int .i64 0, A.int .i64 0, A.int .i64 0, A.int .i64 0, A.int .i64 0, A.int .i64 0] := by kernel_rfl
theorem arrT_151 : arrT Tryz.prog 151 = some (8, 150) := by kernel_rfl
theorem isStr_151 : isStr Tryz.prog 151 = false := by kernel_rfl
theorem isBool_151 : isBool Tryz.prog 151 = false := by kernel_rfl
theorem isPtr_151 : isPtr Tryz.prog 151 = false := by kernel_rfl
theorem isU8_151 : isU8 Tryz.prog 151 = false := by kernel_rfl
theorem isIfc_151 : isIfc Tryz.prog 151 = false := by kernel_rfl
theorem ifcT_151 : ifcT Tryz.prog 151 = false := by kernel_rfl
theorem fieldsOk_151 : fieldsOk Tryz.prog 151 = true := by kernel_rfl
theorem seqT_151 : seqT Tryz.prog 151 = false := by kernel_rfl
theorem sliceable_151 : sliceable Tryz.prog 151 = false := by kernel_rfl
theorem szOf_152 : szOf Tryz.prog 152 = 1 := by kernel_rfl
theorem aggT_152 : aggT Tryz.prog 152 = some false := by kernel_rfl
theorem elemT_152 : elemT Tryz.prog 152 = none := by kernel_rfl
theorem bytesOf_152 : bytesOf Tryz.prog 152 = some 16 := by kernel_rfl
theorem zeroOf_152 : zeroOf Tryz.prog 152 = some [A.nili] := by kernel_rfl
theorem arrT_152 : arrT Tryz.prog 152 = none := by kernel_rfl
theorem isStr_152 : isStr Tryz.prog 152 = false := by kernel_rfl
theorem isBool_152 : isBool Tryz.prog 152 = false := by kernel_rfl
theorem isPtr_152 : isPtr Tryz.prog 152 = false := by kernel_rfl
theorem isU8_152 : isU8 Tryz.prog 152 = false := by kernel_rfl
theorem isIfc_152 : isIfc Tryz.prog 152 = true := by kernel_rfl
theorem ifcT_152 : ifcT Tryz.prog 152 = true := by kernel_rfl
theorem seqT_152 : seqT Tryz.prog 152 = false := by kernel_rfl
theorem sliceable_152 : sliceable Tryz.prog 152 = false := by kernel_rfl
theorem szOf_153 : szOf Tryz.prog 153 = 1 := by kernel_rfl
theorem aggT_153 : aggT Tryz.prog 153 = some false := by kernel_rfl
theorem elemT_153 : elemT Tryz.prog 153 = none := by kernel_rfl
theorem bytesOf_153 : bytesOf Tryz.prog 153 = some 16 := by kernel_rfl
theorem zeroOf_153 : zeroOf Tryz.prog 153 = some [A.nili] := by kernel_rfl
theorem arrT_153 : arrT Tryz.prog 153 = none := by kernel_rfl
theorem isStr_153 : isStr Tryz.prog 153 = false := by kernel_rfl
theorem isBool_153 : isBool Tryz.prog 153 = false := by kernel_rfl
theorem isPtr_153 : isPtr Tryz.prog 153 = false := by kernel_rfl
theorem isU8_153 : isU8 Tryz.prog 153 = false := by kernel_rfl
theorem isIfc_153 : isIfc Tryz.prog 153 = true := by kernel_rfl
theorem ifcT_153 : ifcT Tryz.prog 153 = true := by kernel_rfl
theorem seqT_153 : seqT Tryz.prog 153 = false := by kernel_rfl
theorem sliceable_153 : sliceable Tryz.prog 153 = false := by kernel_rfl
theorem szOf_155 : szOf Tryz.prog 155 = 1 := by kernel_rfl
theorem aggT_155 : aggT Tryz.prog 155 = some false := by kernel_rfl
theorem elemT_155 : elemT Tryz.prog 155 = none := by kernel_rfl
theorem bytesOf_155 : bytesOf Tryz.prog 155 = some 8 := by kernel_rfl
theorem zeroOf_155 : zeroOf Tryz.prog 155 = some [A.nilf] := by kernel_rfl
theorem arrT_155 : arrT Tryz.prog 155 = none := by kernel_rfl
theorem isStr_155 : isStr Tryz.prog 155 = false := by kernel_rfl
theorem isBool_155 : isBool Tryz.prog 155 = false := by kernel_rfl
theorem isPtr_155 : isPtr Tryz.prog 155 = false := by kernel_rfl
theorem isU8_155 : isU8 Tryz.prog 155 = false := by kernel_rfl
theorem isIfc_155 : isIfc Tryz.prog 155 = false := by kernel_rfl
theorem ifcT_155 : ifcT Tryz.prog 155 = false := by kernel_rfl
theorem seqT_155 : seqT Tryz.prog 155 = false := by kernel_rfl
theorem sliceable_155 : sliceable Tryz.prog 155 = false := by kernel_rfl
theorem szOf_156 : szOf Tryz.prog 156 = 1 := by kernel_rfl
theorem aggT_156 : aggT Tryz.prog 156 = some false := by kernel_rfl
theorem elemT_156 : elemT Tryz.prog 156 = none := by kernel_rfl
theorem bytesOf_156 : bytesOf Tryz.prog 156 = some 8 := by kernel_rfl
theorem zeroOf_156 : zeroOf Tryz.prog 156 = some [A.nilf] := by kernel_rfl
theorem arrT_156 : arrT Tryz.prog 156 = none := by kernel_rfl
theorem isStr_156 : isStr Tryz.prog 156 = false := by kernel_rfl
theorem isBool_156 : isBool Tryz.prog 156 = false := by kernel_rfl
theorem isPtr_156 : isPtr Tryz.prog 156 = false := by kernel_rfl
theorem isU8_156 : isU8 Tryz.prog 156 = false := by kernel_rfl
theorem isIfc_156 : isIfc Tryz.prog 156 = false := by kernel_rfl
theorem ifcT_156 : ifcT Tryz.prog 156 = false := by kernel_rfl
theorem seqT_156 : seqT Tryz.prog 156 = false := by kernel_rfl
theorem sliceable_156 : sliceable Tryz.prog 156 = false := by kernel_rfl
theorem szOf_157 : szOf Tryz.prog 157 = 256 := by kernel_rfl
theorem aggT_157 : aggT Tryz.prog 157 = some true := by kernel_rfl
theorem elemT_157 : elemT Tryz.prog 157 = none := by kernel_rfl
theorem bytesOf_157 : bytesOf Tryz.prog 157 = some 256 := by kernel_rfl
theorem arrT_157 : arrT Tryz.prog 157 = some (256, 4) := by kernel_rfl
theorem isStr_157 : isStr Tryz.prog 157 = false := by kernel_rfl
theorem isBool_157 : isBool Tryz.prog 157 = false := by kernel_rfl
theorem isPtr_157 : isPtr Tryz.prog 157 = false := by kernel_rfl
theorem isU8_157 : isU8 Tryz.prog 157 = false := by kernel_rfl
theorem isIfc_157 : isIfc Tryz.prog 157 = false := by kernel_rfl
theorem ifcT_157 : ifcT Tryz.prog 157 = false := by kernel_rfl
theorem fieldsOk_157 : fieldsOk Tryz.prog 157 = true := by kernel_rfl
theorem seqT_157 : seqT Tryz.prog 157 = false := by kernel_rfl
theorem sliceable_157 : sliceable Tryz.prog 157 = false := by kernel_rfl
theorem szOf_158 : szOf Tryz.prog 158 = 256 := by kernel_rfl
theorem aggT_158 : aggT Tryz.prog 158 = some true := by kernel_rfl
theorem elemT_158 : elemT Tryz.prog 158 = none := by kernel_rfl
theorem bytesOf_158 : bytesOf Tryz.prog 158 = some 256 := by kernel_rfl
theorem arrT_158 : arrT Tryz.prog 158 = some (256, 4) := by kernel_rfl
theorem isStr_158 : isStr Tryz.prog 158 = false := by kernel_rfl
theorem isBool_158 : isBool Tryz.prog 158 = false := by kernel_rfl
theorem isPtr_158 : isPtr Tryz.prog 158 = false := by kernel_rfl
theorem isU8_158 : isU8 Tryz.prog 158 = false := by kernel_rfl
theorem isIfc_158 : isIfc Tryz.prog 158 = false := by kernel_rfl
theorem ifcT_158 : ifcT Tryz.prog 158 = false := by kernel_rfl
theorem fieldsOk_158 : fieldsOk Tryz.prog 158 = true := by kernel_rfl
theorem seqT_158 : seqT Tryz.prog 158 = false := by kernel_rfl
theorem sliceable_158 : sliceable Tryz.prog 158 = false := by kernel_rfl
theorem szOf_160 : szOf Tryz.prog 160 = 1 := by kernel_rfl
theorem aggT_160 : aggT Tryz.prog 160 = some false := by kernel_rfl
theorem elemT_160 : elemT Tryz.prog 160 = none := by kernel_rfl
theorem bytesOf_160 : bytesOf Tryz.prog 160 = some 8 := by kernel_rfl
theorem zeroOf_160 : zeroOf Tryz.prog 160 = some [A.nilf] := by kernel_rfl
theorem arrT_160 : arrT Tryz.prog 160 = none := by kernel_rfl
theorem isStr_160 : isStr Tryz.prog 160 = false := by kernel_rfl
theorem isBool_160 : isBool Tryz.prog 160 = false := by kernel_rfl
theorem isPtr_160 : isPtr Tryz.prog 160 = false := by kernel_rfl
theorem isU8_160 : isU8 Tryz.prog 160 = false := by kernel_rfl
theorem isIfc_160 : isIfc Tryz.prog 160 = false := by kernel_rfl
theorem ifcT_160 : ifcT Tryz.prog 160 = false := by kernel_rfl
theorem seqT_160 : seqT Tryz.prog 160 = false := by kernel_rfl
theorem sliceable_160 : sliceable Tryz.prog 160 = false := by kernel_rfl
theorem szOf_161 : szOf Tryz.prog 161 = 1 := by kernel_rfl
theorem aggT_161 : aggT Tryz.prog 161 = some false := by kernel_rfl
theorem elemT_161 : elemT Tryz.prog 161 = none := by kernel_rfl
theorem bytesOf_161 : bytesOf Tryz.prog 161 = some 8 := by kernel_rfl
theorem zeroOf_161 : zeroOf Tryz.prog 161 = some [A.nilf] := by kernel_rfl
theorem arrT_161 : arrT Tryz.prog 161 = none := by kernel_rfl
theorem isStr_161 : isStr Tryz.prog 161 = false := by kernel_rfl
theorem isBool_161 : isBool Tryz.prog 161 = false := by kernel_rfl
theorem isPtr_161 : isPtr Tryz.prog 161 = false := by kernel_rfl
theorem isU8_161 : isU8 Tryz.prog 161 = false := by kernel_rfl
theorem isIfc_161 : isIfc Tryz.prog 161 = false := by kernel_rfl
theorem ifcT_161 : ifcT Tryz.prog 161 = false := by kernel_rfl
theorem seqT_161 : seqT Tryz.prog 161 = false := by kernel_rfl
theorem sliceable_161 : sliceable Tryz.prog 161 = false := by kernel_rfl
theorem szOf_162 : szOf Tryz.prog 162 = 1 := by kernel_rfl
theorem aggT_162 : aggT Tryz.prog 162 = some false := by kernel_rfl
theorem elemT_162 : elemT Tryz.prog 162 = none := by kernel_rfl
theorem bytesOf_162 : bytesOf Tryz.prog 162 = some 8 := by kernel_rfl
theorem zeroOf_162 : zeroOf Tryz.prog 162 = some [A.nilp] := by kernel_rfl
theorem arrT_162 : arrT Tryz.prog 162 = none := by kernel_rfl
theorem isStr_162 : isStr Tryz.prog 162 = false := by kernel_rfl
theorem isBool_162 : isBool Tryz.prog 162 = false := by kernel_rfl
theorem isPtr_162 : isPtr Tryz.prog 162 = true := by kernel_rfl
theorem isU8_162 : isU8 Tryz.prog 162 = false := by kernel_rfl
theorem isIfc_162 : isIfc Tryz.prog 162 = false := by kernel_rfl
theorem ifcT_162 : ifcT Tryz.prog 162 = false := by kernel_rfl
theorem seqT_162 : seqT Tryz.prog 162 = false := by kernel_rfl
theorem sliceable_162 : sliceable Tryz.prog 162 = false := by kernel_rfl
theorem szOf_163 : szOf Tryz.prog 163 = 1 := by kernel_rfl
theorem aggT_163 : aggT Tryz.prog 163 = some false := by kernel_rfl
theorem elemT_163 : elemT Tryz.prog 163 = none := by kernel_rfl
theorem bytesOf_163 : bytesOf Tryz.prog 163 = some 8 := by kernel_rfl
theorem zeroOf_163 : zeroOf Tryz.prog 163 = some [A.nilf] := by kernel_rfl
theorem arrT_163 : arrT Tryz.prog 163 = none := by kernel_rfl
theorem isStr_163 : isStr Tryz.prog 163 = false := by kernel_rfl
theorem isBool_163 : isBool Tryz.prog 163 = false := by kernel_rfl
theorem isPtr_163 : isPtr Tryz.prog 163 = false := by kernel_rfl
theorem isU8_163 : isU8 Tryz.prog 163 = false := by kernel_rfl
theorem isIfc_163 : isIfc Tryz.prog 163 = false := by kernel_rfl
theorem ifcT_163 : ifcT Tryz.prog 163 = false := by kernel_rfl
theorem seqT_163 : seqT Tryz.prog 163 = false := by kernel_rfl
theorem sliceable_163 : sliceable Tryz.prog 163 = false := by kernel_rfl
theorem szOf_164 : szOf Tryz.prog 164 = 1 := by kernel_rfl
theorem aggT_164 : aggT Tryz.prog 164 = some false := by kernel_rfl
theorem elemT_164 : elemT Tryz.prog 164 = none := by kernel_rfl
theorem bytesOf_164 : bytesOf Tryz.prog 164 = some 8 := by kernel_rfl
theorem zeroOf_164 : zeroOf Tryz.prog 164 = some [A.nilf] := by kernel_rfl
theorem arrT_164 : arrT Tryz.prog 164 = none := by kernel_rfl
theorem isStr_164 : isStr Tryz.prog 164 = false := by kernel_rfl
theorem isBool_164 : isBool Tryz.prog 164 = false := by kernel_rfl
theorem isPtr_164 : isPtr Tryz.prog 164 = false := by kernel_rfl
theorem isU8_164 : isU8 Tryz.prog 164 = false := by kernel_rfl
theorem isIfc_164 : isIfc Tryz.prog 164 = false := by kernel_rfl
theorem ifcT_164 : ifcT Tryz.prog 164 = false := by kernel_rfl
theorem seqT_164 : seqT Tryz.prog 164 = false := by kernel_rfl
theorem sliceable_164 : sliceable Tryz.prog 164 = false := by kernel_rfl
theorem szOf_165 : szOf Tryz.prog 165 = 1 := by kernel_rfl
theorem aggT_165 : aggT Tryz.prog 165 = some false := by kernel_rfl
theorem elemT_165 : elemT Tryz.prog 165 = none := by kernel_rfl
theorem bytesOf_165 : bytesOf Tryz.prog 165 = some 8 := by kernel_rfl
theorem zeroOf_165 : zeroOf Tryz.prog 165 = some [A.nilf] := by kernel_rfl
theorem arrT_165 : arrT Tryz.prog 165 = none := by kernel_rfl
theorem isStr_165 : isStr Tryz.prog 165 = false := by kernel_rfl
theorem isBool_165 : isBool Tryz.prog 165 = false := by kernel_rfl
theorem isPtr_165 : isPtr Tryz.prog 165 = false := by kernel_rfl
theorem isU8_165 : isU8 Tryz.prog 165 = false := by kernel_rfl
theorem isIfc_165 : isIfc Tryz.prog 165 = false := by kernel_rfl
theorem ifcT_165 : ifcT Tryz.prog 165 = false := by kernel_rfl
theorem seqT_165 : seqT Tryz.prog 165 = false := by kernel_rfl
theorem sliceable_165 : sliceable Tryz.prog 165 = false := by kernel_rfl
theorem szOf_166 : szOf Tryz.prog 166 = 1 := by kernel_rfl
theorem aggT_166 : aggT Tryz.prog 166 = some false := by kernel_rfl
theorem elemT_166 : elemT Tryz.prog 166 = none := by kernel_rfl
theorem bytesOf_166 : bytesOf Tryz.prog 166 = some 8 := by kernel_rfl
theorem zeroOf_166 : zeroOf Tryz.prog 166 = some [A.nilf] := by kernel_rfl
theorem arrT_166 : arrT Tryz.prog 166 = none := by kernel_rfl
theorem isStr_166 : isStr Tryz.prog 166 = false := by kernel_rfl
theorem isBool_166 : isBool Tryz.prog 166 = false := by kernel_rfl
theorem isPtr_166 : isPtr Tryz.prog 166 = false := by kernel_rfl
theorem isU8_166 : isU8 Tryz.prog 166 = false := by kernel_rfl
theorem isIfc_166 : isIfc Tryz.prog 166 = false := by kernel_rfl
theorem ifcT_166 : ifcT Tryz.prog 166 = false := by kernel_rfl
theorem seqT_166 : seqT Tryz.prog 166 = false := by kernel_rfl
theorem sliceable_166 : sliceable Tryz.prog 166 = false := by kernel_rfl
theorem szOf_167 : szOf Tryz.prog 167 = 1 := by kernel_rfl
theorem aggT_167 : aggT Tryz.prog 167 = some false := by kernel_rfl
theorem elemT_167 : elemT Tryz.prog 167 = none := by kernel_rfl
theorem bytesOf_167 : bytesOf Tryz.prog 167 = some 8 := by kernel_rfl
theorem zeroOf_167 : zeroOf Tryz.prog 167 = some [A.int .u64 0] := by kernel_rfl
theorem arrT_167 : arrT Tryz.prog 167 = none := by kernel_rfl
theorem isStr_167 : isStr Tryz.prog 167 = false := by kernel_rfl
theorem isBool_167 : isBool Tryz.prog 167 = false := by kernel_rfl
theorem isPtr_167 : isPtr Tryz.prog 167 = false := by kernel_rfl
theorem isU8_167 : isU8 Tryz.prog 167 = false := by kernel_rfl
theorem isIfc_167 : isIfc Tryz.prog 167 = false := by kernel_rfl
theorem ifcT_167 : ifcT Tryz.prog 167 = false := by kernel_rfl
theorem seqT_167 : seqT Tryz.prog 167 = false := by kernel_rfl
theorem sliceable_167 : sliceable Tryz.prog 167 = false := by kernel_rfl
theorem szOf_168 : szOf Tryz.prog 168 = 1 := by kernel_rfl
theorem aggT_168 : aggT Tryz.prog 168 = some false := by kernel_rfl
theorem elemT_168 : elemT Tryz.prog 168 = none := by kernel_rfl
theorem bytesOf_168 : bytesOf Tryz.prog 168 = some 8 := by kernel_rfl
theorem zeroOf_168 : zeroOf Tryz.prog 168 = some [A.nilf] := by kernel_rfl
theorem arrT_168 : arrT Tryz.prog 168 = none := by kernel_rfl
theorem isStr_168 : isStr Tryz.prog 168 = false := by kernel_rfl
theorem isBool_168 : isBool Tryz.prog 168 = false := by kernel_rfl
theorem isPtr_168 : isPtr Tryz.prog 168 = false := by kernel_rfl
theorem isU8_168 : isU8 Tryz.prog 168 = false := by kernel_rfl
theorem isIfc_168 : isIfc Tryz.prog 168 = false := by kernel_rfl
theorem ifcT_168 : ifcT Tryz.prog 168 = false := by kernel_rfl
theorem seqT_168 : seqT Tryz.prog 168 = false := by kernel_rfl
theorem sliceable_168 : sliceable Tryz.prog 168 = false := by kernel_rfl
theorem szOf_169 : szOf Tryz.prog 169 = 1 := by kernel_rfl
theorem aggT_169 : aggT Tryz.prog 169 = some false := by kernel_rfl
theorem elemT_169 : elemT Tryz.prog 169 = none := by kernel_rfl
theorem bytesOf_169 : bytesOf Tryz.prog 169 = some 8 := by kernel_rfl
theorem zeroOf_169 : zeroOf Tryz.prog 169 = some [A.nilf] := by kernel_rfl
theorem arrT_169 : arrT Tryz.prog 169 = none := by kernel_rfl
theorem isStr_169 : isStr Tryz.prog 169 = false := by kernel_rfl
theorem isBool_169 : isBool Tryz.prog 169 = false := by kernel_rfl
theorem isPtr_169 : isPtr Tryz.prog 169 = false := by kernel_rfl
theorem isU8_169 : isU8 Tryz.prog 169 = false := by kernel_rfl
theorem isIfc_169 : isIfc Tryz.prog 169 = false := by kernel_rfl
theorem ifcT_169 : ifcT Tryz.prog 169 = false := by kernel_rfl
theorem seqT_169 : seqT Tryz.prog 169 = false := by kernel_rfl
theorem sliceable_169 : sliceable Tryz.prog 169 = false := by kernel_rfl
theorem szOf_170 : szOf Tryz.prog 170 = 1 := by kernel_rfl
theorem aggT_170 : aggT Tryz.prog 170 = some false := by kernel_rfl
theorem elemT_170 : elemT Tryz.prog 170 = none := by kernel_rfl
theorem bytesOf_170 : bytesOf Tryz.prog 170 = some 8 := by kernel_rfl
theorem zeroOf_170 : zeroOf Tryz.prog 170 = some [A.nilf] := by kernel_rfl
theorem arrT_170 : arrT Tryz.prog 170 = none := by kernel_rfl
theorem isStr_170 : isStr Tryz.prog 170 = false := by kernel_rfl
theorem isBool_170 : isBool Tryz.prog 170 = false := by kernel_rfl
theorem isPtr_170 : isPtr Tryz.prog 170 = false := by kernel_rfl
theorem isU8_170 : isU8 Tryz.prog 170 = false := by kernel_rfl
theorem isIfc_170 : isIfc Tryz.prog 170 = false := by kernel_rfl
theorem ifcT_170 : ifcT Tryz.prog 170 = false := by kernel_rfl
theorem seqT_170 : seqT Tryz.prog 170 = false := by kernel_rfl
theorem sliceable_170 : sliceable Tryz.prog 170 = false := by kernel_rfl
theorem szOf_171 : szOf Tryz.prog 171 = 1 := by kernel_rfl
theorem aggT_171 : aggT Tryz.prog 171 = some false := by kernel_rfl
theorem elemT_171 : elemT Tryz.prog 171 = none := by kernel_rfl
theorem bytesOf_171 : bytesOf Tryz.prog 171 = some 8 := by kernel_rfl
theorem zeroOf_171 : zeroOf Tryz.prog 171 = some [A.nilf] := by kernel_rfl
theorem arrT_171 : arrT Tryz.prog 171 = none := by kernel_rfl
theorem isStr_171 : isStr Tryz.prog 171 = false := by kernel_rfl
theorem isBool_171 : isBool Tryz.prog 171 = false := by kernel_rfl
theorem isPtr_171 : isPtr Tryz.prog 171 = false := by kernel_rfl
theorem isU8_171 : isU8 Tryz.prog 171 = false := by kernel_rfl
theorem isIfc_171 : isIfc Tryz.prog 171 = false := by kernel_rfl
theorem ifcT_171 : ifcT Tryz.prog 171 = false := by kernel_rfl
theorem seqT_171 : seqT Tryz.prog 171 = false := by kernel_rfl
theorem sliceable_171 : sliceable Tryz.prog 171 = false := by kernel_rfl
theorem szOf_172 : szOf Tryz.prog 172 = 1 := by kernel_rfl
theorem aggT_172 : aggT Tryz.prog 172 = some false := by kernel_rfl
theorem elemT_172 : elemT Tryz.prog 172 = none := by kernel_rfl
theorem bytesOf_172 : bytesOf Tryz.prog 172 = some 8 := by kernel_rfl
theorem zeroOf_172 : zeroOf Tryz.prog 172 = some [A.nilf] := by kernel_rfl
theorem arrT_172 : arrT Tryz.prog 172 = none := by kernel_rfl
theorem isStr_172 : isStr Tryz.prog 172 = false := by kernel_rfl
theorem isBool_172 : isBool Tryz.prog 172 = false := by kernel_rfl
theorem isPtr_172 : isPtr Tryz.prog 172 = false := by kernel_rfl
theorem isU8_172 : isU8 Tryz.prog 172 = false := by kernel_rfl
theorem isIfc_172 : isIfc Tryz.prog 172 = false := by kernel_rfl
theorem ifcT_172 : ifcT Tryz.prog 172 = false := by kernel_rfl
theorem seqT_172 : seqT Tryz.prog 172 = false := by kernel_rfl
theorem sliceable_172 : sliceable Tryz.prog 172 = false := by kernel_rfl
theorem szOf_173 : szOf Tryz.prog 173 = 24 := by kernel_rfl
theorem aggT_173 : aggT Tryz.prog 173 = some true := by kernel_rfl
theorem elemT_173 : elemT Tryz.prog 173 = none := by kernel_rfl
theorem bytesOf_173 : bytesOf Tryz.prog 173 = some 24 := by kernel_rfl
theorem zeroOf_173 : zeroOf Tryz.prog 173 = some [A.int .u8 0, A.int .u8 0, A.int .u8 0, A.int .u8 0, A.int .u8 0, A.int .u8 0, A.int .u8 0, A.int .u8 0, A.int .u8 0, A.int .u8 0, A.int .u8 0, A.int .u8 0, A.int .u8 0, A.int .u8 0, A.int .u8 0, A.int .u8 0, A.int .u8 0, A.int .u8 0, A.int .u8 0, A.int .u8 0, A.int .u8 0, A.int .u8 0, A.int .u8 0, A.int .u8 0] := by kernel_rfl
theorem arrT_173 : arrT Tryz.prog 173 = some (24, 5) := by kernel_rfl
theorem isStr_173 : isStr Tryz.prog 173 = false := by kernel_rfl
theorem isBool_173 : isBool Tryz.prog 173 = false := by kernel_rfl
theorem isPtr_173 : isPtr Tryz.prog 173 = false := by kernel_rfl
theorem isU8_173 : isU8 Tryz.prog 173 = false := by kernel_rfl
theorem isIfc_173 : isIfc Tryz.prog 173 = false := by kernel_rfl
theorem ifcT_173 : ifcT Tryz.prog 173 = false := by kernel_rfl
theorem fieldsOk_173 : fieldsOk Tryz.prog 173 = true := by kernel_rfl
theorem seqT_173 : seqT Tryz.prog 173 = false := by kernel_rfl
theorem sliceable_173 : sliceable Tryz.prog 173 = false := by kernel_rfl
theorem szOf_174 : szOf Tryz.prog 174 = 1 := by kernel_rfl
theorem aggT_174 : aggT Tryz.prog 174 = some false := by kernel_rfl
theorem elemT_174 : elemT Tryz.prog 174 = none := by kernel_rfl
theorem bytesOf_174 : bytesOf Tryz.prog 174 = some 8 := by kernel_rfl
theorem zeroOf_174 : zeroOf Tryz.prog 174 = some [A.nilf] := by kernel_rfl
theorem arrT_174 : arrT Tryz.prog 174 = none := by kernel_rfl
theorem isStr_174 : isStr Tryz.prog 174 = false := by kernel_rfl
theorem isBool_174 : isBool Tryz.prog 174 = false := by kernel_rfl
theorem isPtr_174 : isPtr Tryz.prog 174 = false := by kernel_rfl
theorem isU8_174 : isU8 Tryz.prog 174 = false := by kernel_rfl
theorem isIfc_174 : isIfc Tryz.prog 174 = false := by kernel_rfl
theorem ifcT_174 : ifcT Tryz.prog 174 = false := by kernel_rfl
theorem seqT_174 : seqT Tryz.prog 174 = false := by kernel_rfl
theorem sliceable_174 : sliceable Tryz.prog 174 = false := by kernel_rfl
theorem szOf_176 : szOf Tryz.prog 176 = 1 := by kernel_rfl
theorem aggT_176 : aggT Tryz.prog 176 = some false := by kernel_rfl
theorem elemT_176 : elemT Tryz.prog 176 = none := by kernel_rfl
theorem bytesOf_176 : bytesOf Tryz.prog 176 = some 8 := by kernel_rfl
theorem zeroOf_176 : zeroOf Tryz.prog 176 = some [A.nilf] := by kernel_rfl
theorem arrT_176 : arrT Tryz.prog 176 = none := by kernel_rfl
theorem isStr_176 : isStr Tryz.prog 176 = false := by kernel_rfl
theorem isBool_176 : isBool Tryz.prog 176 = false := by kernel_rfl
theorem isPtr_176 : isPtr Tryz.prog 176 = false := by kernel_rfl
theorem isU8_176 : isU8 Tryz.prog 176 = false := by kernel_rfl
theorem isIfc_176 : isIfc Tryz.prog 176 = false := by kernel_rfl
theorem ifcT_176 : ifcT Tryz.prog 176 = false := by kernel_rfl
theorem seqT_176 : seqT Tryz.prog 176 = false := by kernel_rfl
theorem sliceable_176 : sliceable Tryz.prog 176 = false := by kernel_rfl
theorem szOf_177 : szOf Tryz.prog 177 = 1 := by kernel_rfl
theorem aggT_177 : aggT Tryz.prog 177 = some false := by kernel_rfl
theorem elemT_177 : elemT Tryz.prog 177 = none := by kernel_rfl
theorem bytesOf_177 : bytesOf Tryz.prog 177 = some 8 := by kernel_rfl
theorem zeroOf_177 : zeroOf Tryz.prog 177 = some [A.nilf] := by kernel_rfl
theorem arrT_177 : arrT Tryz.prog 177 = none := by kernel_rfl
theorem isStr_177 : isStr Tryz.prog 177 = false := by kernel_rfl
theorem isBool_177 : isBool Tryz.prog 177 = false := by kernel_rfl
theorem isPtr_177 : isPtr Tryz.prog 177 = false := by kernel_rfl
theorem isU8_177 : isU8 Tryz.prog 177 = false := by kernel_rfl
theorem isIfc_177 : isIfc Tryz.prog 177 = false := by kernel_rfl
theorem ifcT_177 : ifcT Tryz.prog 177 = false := by kernel_rfl
theorem seqT_177 : seqT Tryz.prog 177 = false := by kernel_rfl
theorem sliceable_177 : sliceable Tryz.prog 177 = false := by kernel_rfl
theorem szOf_179 : szOf Tryz.prog 179 = 1 := by kernel_rfl
theorem aggT_179 : aggT Tryz.prog 179 = some false := by kernel_rfl
theorem elemT_179 : elemT Tryz.prog 179 = none := by kernel_rfl
theorem bytesOf_179 : bytesOf Tryz.prog 179 = some 8 := by kernel_rfl
theorem zeroOf_179 : zeroOf Tryz.prog 179 = some [A.nilf] := by kernel_rfl
theorem arrT_179 : arrT Tryz.prog 179 = none := by kernel_rfl
theorem isStr_179 : isStr Tryz.prog 179 = false := by kernel_rfl
theorem isBool_179 : isBool Tryz.prog 179 = false := by kernel_rfl
theorem isPtr_179 : isPtr Tryz.prog 179 = false := by kernel_rfl
theorem isU8_179 : isU8 Tryz.prog 179 = false := by kernel_rfl
theorem isIfc_179 : isIfc Tryz.prog 179 = false := by kernel_rfl
theorem ifcT_179 : ifcT Tryz.prog 179 = false := by kernel_rfl
theorem seqT_179 : seqT Tryz.prog 179 = false := by kernel_rfl
theorem sliceable_179 : sliceable Tryz.prog 179 = false := by kernel_rfl
theorem szOf_180 : szOf Tryz.prog 180 = 1 := by kernel_rfl
theorem aggT_180 : aggT Tryz.prog 180 = some false := by kernel_rfl
theorem elemT_180 : elemT Tryz.prog 180 = none := by kernel_rfl
theorem bytesOf_180 : bytesOf Tryz.prog 180 = some 8 := by kernel_rfl
theorem zeroOf_180 : zeroOf Tryz.prog 180 = some [A.nilf] := by kernel_rfl
theorem arrT_180 : arrT Tryz.prog 180 = none := by kernel_rfl
theorem isStr_180 : isStr Tryz.prog 180 = false := by kernel_rfl
theorem isBool_180 : isBool Tryz.prog 180 = false := by kernel_rfl
theorem isPtr_180 : isPtr Tryz.prog 180 = false := by kernel_rfl
theorem isU8_180 : isU8 Tryz.prog 180 = false := by kernel_rfl
theorem isIfc_180 : isIfc Tryz.prog 180 = false := by kernel_rfl
theorem ifcT_180 : ifcT Tryz.prog 180 = false := by kernel_rfl
theorem seqT_180 : seqT Tryz.prog 180 = false := by kernel_rfl
theorem sliceable_180 : sliceable Tryz.prog 180 = false := by kernel_rfl
theorem szOf_181 : szOf Tryz.prog 181 = 1 := by kernel_rfl
theorem aggT_181 : aggT Tryz.prog 181 = some false := by kernel_rfl
theorem elemT_181 : elemT Tryz.prog 181 = none := by kernel_rfl
theorem bytesOf_181 : bytesOf Tryz.prog 181 = some 8 := by kernel_rfl
theorem zeroOf_181 : zeroOf Tryz.prog 181 = some [A.nilp] := by kernel_rfl
theorem arrT_181 : arrT Tryz.prog 181 = none := by kernel_rfl
theorem isStr_181 : isStr Tryz.prog 181 = false := by kernel_rfl
theorem isBool_181 : isBool Tryz.prog 181 = false := by kernel_rfl
theorem isPtr_181 : isPtr Tryz.prog 181 = true := by kernel_rfl
theorem isU8_181 : isU8 Tryz.prog 181 = false := by kernel_rfl
theorem isIfc_181 : isIfc Tryz.prog 181 = false := by kernel_rfl
theorem ifcT_181 : ifcT Tryz.prog 181 = false := by kernel_rfl
theorem seqT_181 : seqT Tryz.prog 181 = false := by kernel_rfl
theorem sliceable_181 : sliceable Tryz.prog 181 = false := by kernel_rfl
theorem szOf_182 : szOf Tryz.prog 182 = 1 := by kernel_rfl
theorem aggT_182 : aggT Tryz.prog 182 = some false := by kernel_rfl
theorem elemT_182 : elemT Tryz.prog 182 = none := by kernel_rfl
theorem bytesOf_182 : bytesOf Tryz.prog 182 = some 8 := by kernel_rfl
theorem zeroOf_182 : zeroOf Tryz.prog 182 = some [A.nilf] := by kernel_rfl
theorem arrT_182 : arrT Tryz.prog 182 = none := by kernel_rfl
theorem isStr_182 : isStr Tryz.prog 182 = false := by kernel_rfl
theorem isBool_182 : isBool Tryz.prog 182 = false := by kernel_rfl
theorem isPtr_182 : isPtr Tryz.prog 182 = false := by kernel_rfl
theorem isU8_182 : isU8 Tryz.prog 182 = false := by kernel_rfl
theorem isIfc_182 : isIfc Tryz.prog 182 = false := by kernel_rfl
theorem ifcT_182 : ifcT Tryz.prog 182 = false := by kernel_rfl
theorem seqT_182 : seqT Tryz.prog 182 = false := by kernel_rfl
theorem sliceable_182 : sliceable Tryz.prog 182 = false := by kernel_rfl
theorem szOf_183 : szOf Tryz.prog 183 = 1 := by kernel_rfl
theorem aggT_183 : aggT Tryz.prog 183 = some false := by kernel_rfl
theorem elemT_183 : elemT Tryz.prog 183 = none := by kernel_rfl
theorem bytesOf_183 : bytesOf Tryz.prog 183 = some 8 := by kernel_rfl
theorem zeroOf_183 : zeroOf Tryz.prog 183 = some [A.nilf] := by kernel_rfl
theorem arrT_183 : arrT Tryz.prog 183 = none := by kernel_rfl
theorem isStr_183 : isStr Tryz.prog 183 = false := by kernel_rfl
theorem isBool_183 : isBool Tryz.prog 183 = false := by kernel_rfl
theorem isPtr_183 : isPtr Tryz.prog 183 = false := by kernel_rfl
theorem isU8_183 : isU8 Tryz.prog 183 = false := by kernel_rfl
theorem isIfc_183 : isIfc Tryz.prog 183 = false := by kernel_rfl
theorem ifcT_183 : ifcT Tryz.prog 183 = false := by kernel_rfl
theorem seqT_183 : seqT Tryz.prog 183 = false := by kernel_rfl
theorem sliceable_183 : sliceable Tryz.prog 183 = false := by kernel_rfl
theorem szOf_184 : szOf Tryz.prog 184 = 1 := by kernel_rfl
theorem aggT_184 : aggT Tryz.prog 184 = some false := by kernel_rfl
theorem elemT_184 : elemT Tryz.prog 184 = none := by kernel_rfl
theorem bytesOf_184 : bytesOf Tryz.prog 184 = some 8 := by kernel_rfl
theorem zeroOf_184 : zeroOf Tryz.prog 184 = some [A.nilf] := by kernel_rfl
theorem arrT_184 : arrT Tryz.prog 184 = none := by kernel_rfl
theorem isStr_184 : isStr Tryz.prog 184 = false := by kernel_rfl
theorem isBool_184 : isBool Tryz.prog 184 = false := by kernel_rfl
theorem isPtr_184 : isPtr Tryz.prog 184 = false := by kernel_rfl
theorem isU8_184 : isU8 Tryz.prog 184 = false := by kernel_rfl
theorem isIfc_184 : isIfc Tryz.prog 184 = false := by kernel_rfl
theorem ifcT_184 : ifcT Tryz.prog 184 = false := by kernel_rfl
theorem seqT_184 : seqT Tryz.prog 184 = false := by kernel_rfl
theorem sliceable_184 : sliceable Tryz.prog 184 = false := by kernel_rfl
theorem szOf_185 : szOf Tryz.prog 185 = 1 := by kernel_rfl
theorem aggT_185 : aggT Tryz.prog 185 = some false := by kernel_rfl
theorem elemT_185 : elemT Tryz.prog 185 = none := by kernel_rfl
theorem bytesOf_185 : bytesOf Tryz.prog 185 = some 8 := by kernel_rfl
theorem zeroOf_185 : zeroOf Tryz.prog 185 = some [A.nilf] := by kernel_rfl
theorem arrT_185 : arrT Tryz.prog 185 = none := by kernel_rfl
theorem isStr_185 : isStr Tryz.prog 185 = false := by kernel_rfl
theorem isBool_185 : isBool Tryz.prog 185 = false := by kernel_rfl
theorem isPtr_185 : isPtr Tryz.prog 185 = false := by kernel_rfl
theorem isU8_185 : isU8 Tryz.prog 185 = false := by kernel_rfl
theorem isIfc_185 : isIfc Tryz.prog 185 = false := by kernel_rfl
theorem ifcT_185 : ifcT Tryz.prog 185 = false := by kernel_rfl
theorem seqT_185 : seqT Tryz.prog 185 = false := by kernel_rfl
theorem sliceable_185 : sliceable Tryz.prog 185 = false := by kernel_rfl
theorem szOf_186 : szOf Tryz.prog 186 = 1 := by kernel_rfl
theorem aggT_186 : aggT Tryz.prog 186 = some false := by kernel_rfl
theorem elemT_186 : elemT Tryz.prog 186 = none := by kernel_rfl
theorem bytesOf_186 : bytesOf Tryz.prog 186 = some 8 := by kernel_rfl
theorem zeroOf_186 : zeroOf Tryz.prog 186 = some [A.nilf] := by kernel_rfl
theorem arrT_186 : arrT Tryz.prog 186 = none := by kernel_rfl
theorem isStr_186 : isStr Tryz.prog 186 = false := by kernel_rfl
theorem isBool_186 : isBool Tryz.prog 186 = false := by kernel_rfl
theorem isPtr_186 : isPtr Tryz.prog 186 = false := by kernel_rfl
theorem isU8_186 : isU8 Tryz.prog 186 = false := by kernel_rfl
theorem isIfc_186 : isIfc Tryz.prog 186 = false := by kernel_rfl
theorem ifcT_186 : ifcT Tryz.prog 186 = false := by kernel_rfl
theorem seqT_186 : seqT Tryz.prog 186 = false := by kernel_rfl
theorem sliceable_186 : sliceable Tryz.prog 186 = false := by kernel_rfl
theorem szOf_187 : szOf Tryz.prog 187 = 1 := by kernel_rfl
theorem aggT_187 : aggT Tryz.prog 187 = some false := by kernel_rfl
theorem elemT_187 : elemT Tryz.prog 187 = none := by kernel_rfl
theorem bytesOf_187 : bytesOf Tryz.prog 187 = some 8 := by kernel_rfl
theorem zeroOf_187 : zeroOf Tryz.prog 187 = some [A.nilf] := by kernel_rfl
theorem arrT_187 : arrT Tryz.prog 187 = none := by kernel_rfl
theorem isStr_187 : isStr Tryz.prog 187 = false := by kernel_rfl
theorem isBool_187 : isBool Tryz.prog 187 = false := by kernel_rfl
theorem isPtr_187 : isPtr Tryz.prog 187 = false := by kernel_rfl
theorem isU8_187 : isU8 Tryz.prog 187 = false := by kernel_rfl
theorem isIfc_187 : isIfc Tryz.prog 187 = false := by kernel_rfl
theorem ifcT_187 : ifcT Tryz.prog 187 = false := by kernel_rfl
theorem seqT_187 : seqT Tryz.prog 187 = false := by kernel_rfl
theorem sliceable_187 : sliceable Tryz.prog 187 = false := by kernel_rfl
theorem szOf_188 : szOf Tryz.prog 188 = 1 := by kernel_rfl
theorem aggT_188 : aggT Tryz.prog 188 = some false := by kernel_rfl
theorem elemT_188 : elemT Tryz.prog 188 = none := by kernel_rfl
theorem bytesOf_188 : bytesOf Tryz.prog 188 = some 8 := by kernel_rfl
theorem zeroOf_188 : zeroOf Tryz.prog 188 = some [A.nilf] := by kernel_rfl
theorem arrT_188 : arrT Tryz.prog 188 = none := by kernel_rfl
theorem isStr_188 : isStr Tryz.prog 188 = false := by kernel_rfl
theorem isBool_188 : isBool Tryz.prog 188 = false := by kernel_rfl
theorem isPtr_188 : isPtr Tryz.prog 188 = false := by kernel_rfl
theorem isU8_188 : isU8 Tryz.prog 188 = false := by kernel_rfl
theorem isIfc_188 : isIfc Tryz.prog 188 = false := by kernel_rfl
theorem ifcT_188 : ifcT Tryz.prog 188 = false := by kernel_rfl
theorem seqT_188 : seqT Tryz.prog 188 = false := by kernel_rfl
theorem sliceable_188 : sliceable Tryz.prog 188 = false := by kernel_rfl
theorem szOf_189 : szOf Tryz.prog 189 = 20 := by kernel_rfl
theorem aggT_189 : aggT Tryz.prog 189 = some true := by kernel_rfl
theorem elemT_189 : elemT Tryz.prog 189 = none := by kernel_rfl
theorem bytesOf_189 : bytesOf Tryz.prog 189 = some 160 := by kernel_rfl
theorem zeroOf_189 : zeroOf Tryz.prog 189 = some [A.int .u64 0, A.int .u64 0, A.int .u64 0, A.int .u64 0, A.int .u64 0, A.int .u64 0, A.int .u64 0, A.int .u64 0, A.int .u64 0, A.int .u64 0, A.int .u64 0, A.int .u64 0, A.int .u64 0, A.int .u64 0, A.int .u64 0, A.int .u64 0, A.int .u64 0, A.int .u64 0, A.int .u64 0, A.int .u64 0] := by kernel_rfl
theorem arrT_189 : arrT Tryz.prog 189 = some (20, 141) := by kernel_rfl
theorem isStr_189 : isStr Tryz.prog 189 = false := by kernel_rfl
theorem isBool_189 : isBool Tryz.prog 189 = false := by kernel_rfl
theorem isPtr_189 : isPtr Tryz.prog 189 = false := by kernel_rfl
theorem isU8_189 : isU8 Tryz.prog 189 = false := by kernel_rfl
theorem isIfc_189 : isIfc Tryz.prog 189 = false := by kernel_rfl
theorem ifcT_189 : ifcT Tryz.prog 189 = false := by kernel_rfl
theorem fieldsOk_189 : fieldsOk Tryz.prog 189 = true := by kernel_rfl
theorem seqT_189 : seqT Tryz.prog 189 = false := by kernel_rfl
theorem sliceable_189 : sliceable Tryz.prog 189 = false := by kernel_rfl
theorem szOf_190 : szOf Tryz.prog 190 = 65 := by kernel_rfl
theorem aggT_190 : aggT Tryz.prog 190 = some true := by kernel_rfl
theorem elemT_190 : elemT Tryz.prog 190 = none := by kernel_rfl
theorem bytesOf_190 : bytesOf Tryz.prog 190 = some 65 := by kernel_rfl
theorem arrT_190 : arrT Tryz.prog 190 = some (65, 5) := by kernel_rfl
theorem isStr_190 : isStr Tryz.prog 190 = false := by kernel_rfl
theorem isBool_190 : isBool Tryz.prog 190 = false := by kernel_rfl
theorem isPtr_190 : isPtr Tryz.prog 190 = false := by kernel_rfl
theorem isU8_190 : isU8 Tryz.prog 190 = false := by kernel_rfl
theorem isIfc_190 : isIfc Tryz.prog 190 = false := by kernel_rfl
theorem ifcT_190 : ifcT Tryz.prog 190 = false := by kernel_rfl
theorem fieldsOk_190 : fieldsOk Tryz.prog 190 = true := by kernel_rfl
theorem seqT_190 : seqT Tryz.prog 190 = false := by kernel_rfl
theorem sliceable_190 : sliceable Tryz.prog 190 = false := by kernel_rfl
theorem szOf_191 : szOf Tryz.prog 191 = 1 := by kernel_rfl
theorem aggT_191 : aggT Tryz.prog 191 = some false := by kernel_rfl
theorem elemT_191 : elemT Tryz.prog 191 = none := by kernel_rfl
theorem bytesOf_191 : bytesOf Tryz.prog 191 = some 8 := by kernel_rfl
theorem zeroOf_191 : zeroOf Tryz.prog 191 = some [A.int .i64 0] := by kernel_rfl
theorem arrT_191 : arrT Tryz.prog 191 = none := by kernel_rfl
theorem isStr_191 : isStr Tryz.prog 191 = false := by kernel_rfl
theorem isBool_191 : isBool Tryz.prog 191 = false := by kernel_rfl
theorem isPtr_191 : isPtr Tryz.prog 191 = false := by kernel_rfl
theorem isU8_191 : isU8 Tryz.prog 191 = false := by kernel_rfl
theorem isIfc_191 : isIfc Tryz.prog 191 = false := by kernel_rfl
theorem ifcT_191 : ifcT Tryz.prog 191 = false := by kernel_rfl
theorem seqT_191 : seqT Tryz.prog 191 = false := by kernel_rfl
theorem sliceable_191 : sliceable Tryz.prog 191 = false := by kernel_rfl
theorem szOf_193 : szOf Tryz.prog 193 = 1 := by kernel_rfl
theorem aggT_193 : aggT Tryz.prog 193 = some false := by kernel_rfl
theorem elemT_193 : elemT Tryz.prog 193 = none := by kernel_rfl
theorem bytesOf_193 : bytesOf Tryz.prog 193 = some 8 := by kernel_rfl
theorem zeroOf_193 : zeroOf Tryz.prog 193 = some [A.nilf] := by kernel_rfl
theorem arrT_193 : arrT Tryz.prog 193 = none := by kernel_rfl
theorem isStr_193 : isStr Tryz.prog 193 = false := by kernel_rfl
theorem isBool_193 : isBool Tryz.prog 193 = false := by kernel_rfl
theorem isPtr_193 : isPtr Tryz.prog 193 = false := by kernel_rfl
theorem isU8_193 : isU8 Tryz.prog 193 = false := by kernel_rfl
theorem isIfc_193 : isIfc Tryz.prog 193 = false := by kernel_rfl
theorem ifcT_193 : ifcT Tryz.prog 193 = false := by kernel_rfl
theorem seqT_193 : seqT Tryz.prog 193 = false := by kernel_rfl
theorem sliceable_193 : sliceable Tryz.prog 193 = false := by kernel_rfl
theorem szOf_194 : szOf Tryz.prog 194 = 1 := by kernel_rfl
theorem aggT_194 : aggT Tryz.prog 194 = some false := by kernel_rfl
theorem elemT_194 : elemT Tryz.prog 194 = none := by kernel_rfl
theorem bytesOf_194 : bytesOf Tryz.prog 194 = some 8 := by kernel_rfl
theorem zeroOf_194 : zeroOf Tryz.prog 194 = some [A.nilp] := by kernel_rfl
theorem arrT_194 : arrT Tryz.prog 194 = none := by kernel_rfl
theorem isStr_194 : isStr Tryz.prog 194 = false := by kernel_rfl
theorem isBool_194 : isBool Tryz.prog 194 = false := by kernel_rfl
theorem isPtr_194 : isPtr Tryz.prog 194 = true := by kernel_rfl
theorem isU8_194 : isU8 Tryz.prog 194 = false := by kernel_rfl
theorem isIfc_194 : isIfc Tryz.prog 194 = false := by kernel_rfl
theorem ifcT_194 : ifcT Tryz.prog 194 = false := by kernel_rfl
theorem seqT_194 : seqT Tryz.prog 194 = false := by kernel_rfl
theorem sliceable_194 : sliceable Tryz.prog 194 = false := by kernel_rfl
theorem szOf_195 : szOf Tryz.prog 195 = 1 := by kernel_rfl
theorem aggT_195 : aggT Tryz.prog 195 = some false := by kernel_rfl
theorem elemT_195 : elemT Tryz.prog 195 = none := by kernel_rfl
theorem bytesOf_195 : bytesOf Tryz.prog 195 = some 8 := by kernel_rfl
theorem zeroOf_195 : zeroOf Tryz.prog 195 = some [A.nilf] := by kernel_rfl
theorem arrT_195 : arrT Tryz.prog 195 = none := by kernel_rfl
theorem isStr_195 : isStr Tryz.prog 195 = false := by kernel_rfl
theorem isBool_195 : isBool Tryz.prog 195 = false := by kernel_rfl
theorem isPtr_195 : isPtr Tryz.prog 195 = false := by kernel_rfl
theorem isU8_195 : isU8 Tryz.prog 195 = false := by kernel_rfl
theorem isIfc_195 : isIfc Tryz.prog 195 = false := by kernel_rfl
theorem ifcT_195 : ifcT Tryz.prog 195 = false := by kernel_rfl
theorem seqT_195 : seqT Tryz.prog 195 = false := by kernel_rfl
theorem sliceable_195 : sliceable Tryz.prog 195 = false := by kernel_rfl
theorem szOf_196 : szOf Tryz.prog 196 = 1 := by kernel_rfl
theorem aggT_196 : aggT Tryz.prog 196 = some false := by kernel_rfl
theorem elemT_196 : elemT Tryz.prog 196 = none := by kernel_rfl
theorem bytesOf_196 : bytesOf Tryz.prog 196 = some 8 := by kernel_rfl
theorem zeroOf_196 : zeroOf Tryz.prog 196 = some [A.nilf] := by kernel_rfl
theorem arrT_196 : arrT Tryz.prog 196 = none := by kernel_rfl
theorem isStr_196 : isStr Tryz.prog 196 = false := by kernel_rfl
theorem isBool_196 : isBool Tryz.prog 196 = false := by kernel_rfl
theorem isPtr_196 : isPtr Tryz.prog 196 = false := by kernel_rfl
theorem isU8_196 : isU8 Tryz.prog 196 = false := by kernel_rfl
theorem isIfc_196 : isIfc Tryz.prog 196 = false := by kernel_rfl
theorem ifcT_196 : ifcT Tryz.prog 196 = false := by kernel_rfl
theorem seqT_196 : seqT Tryz.prog 196 = false := by kernel_rfl
theorem sliceable_196 : sliceable Tryz.prog 196 = false := by kernel_rfl
theorem szOf_197 : szOf Tryz.prog 197 = 1 := by kernel_rfl
theorem aggT_197 : aggT Tryz.prog 197 = some false := by kernel_rfl
theorem elemT_197 : elemT Tryz.prog 197 = none := by kernel_rfl
theorem bytesOf_197 : bytesOf Tryz.prog 197 = some 8 := by kernel_rfl
theorem zeroOf_197 : zeroOf Tryz.prog 197 = some [A.nilf] := by kernel_rfl
theorem arrT_197 : arrT Tryz.prog 197 = none := by kernel_rfl
theorem isStr_197 : isStr Tryz.prog 197 = false := by kernel_rfl
theorem isBool_197 : isBool Tryz.prog 197 = false := by kernel_rfl
theorem isPtr_197 : isPtr Tryz.prog 197 = false := by kernel_rfl
theorem isU8_197 : isU8 Tryz.prog 197 = false := by kernel_rfl
theorem isIfc_197 : isIfc Tryz.prog 197 = false := by kernel_rfl
theorem ifcT_197 : ifcT Tryz.prog 197 = false := by kernel_rfl
theorem seqT_197 : seqT Tryz.prog 197 = false := by kernel_rfl
theorem sliceable_197 : sliceable Tryz.prog 197 = false := by kernel_rfl
theorem szOf_198 : szOf Tryz.prog 198 = 1 := by kernel_rfl
theorem aggT_198 : aggT Tryz.prog 198 = some false := by kernel_rfl
theorem elemT_198 : elemT Tryz.prog 198 = none := by kernel_rfl
theorem bytesOf_198 : bytesOf Tryz.prog 198 = some 8 := by kernel_rfl
theorem zeroOf_198 : zeroOf Tryz.prog 198 = some [A.nilf] := by kernel_rfl
theorem arrT_198 : arrT Tryz.prog 198 = none := by kernel_rfl
theorem isStr_198 : isStr Tryz.prog 198 = false := by kernel_rfl
theorem isBool_198 : isBool Tryz.prog 198 = false := by kernel_rfl
theorem isPtr_198 : isPtr Tryz.prog 198 = false := by kernel_rfl
theorem isU8_198 : isU8 Tryz.prog 198 = false := by kernel_rfl
theorem isIfc_198 : isIfc Tryz.prog 198 = false := by kernel_rfl
theorem ifcT_198 : ifcT Tryz.prog 198 = false := by kernel_rfl
theorem seqT_198 : seqT Tryz.prog 198 = false := by kernel_rfl
theorem sliceable_198 : sliceable Tryz.prog 198 = false := by kernel_rfl
theorem szOf_199 : szOf Tryz.prog 199 = 1 := by kernel_rfl
theorem aggT_199 : aggT Tryz.prog 199 = some false := by kernel_rfl
theorem elemT_199 : elemT Tryz.prog 199 = none := by kernel_rfl
theorem bytesOf_199 : bytesOf Tryz.prog 199 = some 8 := by kernel_rfl
theorem zeroOf_199 : zeroOf Tryz.prog 199 = some [A.nilf] := by kernel_rfl
theorem arrT_199 : arrT Tryz.prog 199 = none := by kernel_rfl
theorem isStr_199 : isStr Tryz.prog 199 = false := by kernel_rfl
theorem isBool_199 : isBool Tryz.prog 199 = false := by kernel_rfl
theorem isPtr_199 : isPtr Tryz.prog 199 = false := by kernel_rfl
theorem isU8_199 : isU8 Tryz.prog 199 = false := by kernel_rfl
theorem isIfc_199 : isIfc Tryz.prog 199 = false := by kernel_rfl
theorem ifcT_199 : ifcT Tryz.prog 199 = false := by kernel_rfl
theorem seqT_199 : seqT Tryz.prog 199 = false := by kernel_rfl
theorem sliceable_199 : sliceable Tryz.prog 199 = false := by kernel_rfl
theorem szOf_201 : szOf Tryz.prog 201 = 1 := by kernel_rfl
theorem aggT_201 : aggT Tryz.prog 201 = some false := by kernel_rfl
theorem elemT_201 : elemT Tryz.prog 201 = none := by kernel_rfl
theorem bytesOf_201 : bytesOf Tryz.prog 201 = some 8 := by kernel_rfl
theorem zeroOf_201 : zeroOf Tryz.prog 201 = some [A.nilf] := by kernel_rfl
theorem arrT_201 : arrT Tryz.prog 201 = none := by kernel_rfl
theorem isStr_201 : isStr Tryz.prog 201 = false := by kernel_rfl
theorem isBool_201 : isBool Tryz.prog 201 = false := by kernel_rfl
theorem isPtr_201 : isPtr Tryz.prog 201 = false := by kernel_rfl
theorem isU8_201 : isU8 Tryz.prog 201 = false := by kernel_rfl
theorem isIfc_201 : isIfc Tryz.prog 201 = false := by kernel_rfl
theorem ifcT_201 : ifcT Tryz.prog 201 = false := by kernel_rfl
theorem seqT_201 : seqT Tryz.prog 201 = false := by kernel_rfl
theorem sliceable_201 : sliceable Tryz.prog 201 = false := by kernel_rfl
theorem szOf_202 : szOf Tryz.prog 202 = 1 := by kernel_rfl
theorem aggT_202 : aggT Tryz.prog 202 = some false := by kernel_rfl
theorem elemT_202 : elemT Tryz.prog 202 = none := by kernel_rfl
theorem bytesOf_202 : bytesOf Tryz.prog 202 = some 8 := by kernel_rfl
theorem zeroOf_202 : zeroOf Tryz.prog 202 = some [A.nilf] := by kernel_rfl
theorem arrT_202 : arrT Tryz.prog 202 = none := by kernel_rfl
theorem isStr_202 : isStr Tryz.prog 202 = false := by kernel_rfl
theorem isBool_202 : isBool Tryz.prog 202 = false := by kernel_rfl
theorem isPtr_202 : isPtr Tryz.prog 202 = false := by kernel_rfl
theorem isU8_202 : isU8 Tryz.prog 202 = false := by kernel_rfl
theorem isIfc_202 : isIfc Tryz.prog 202 = false := by kernel_rfl
theorem ifcT_202 : ifcT Tryz.prog 202 = false := by kernel_rfl
theorem seqT_202 : seqT Tryz.prog 202 = false := by kernel_rfl
theorem sliceable_202 : sliceable Tryz.prog 202 = false := by kernel_rfl
theorem szOf_203 : szOf Tryz.prog 203 = 3 := by kernel_rfl
theorem aggT_203 : aggT Tryz.prog 203 = some true := by kernel_rfl
theorem elemT_203 : elemT Tryz.prog 203 = none := by kernel_rfl
theorem bytesOf_203 : bytesOf Tryz.prog 203 = some 48 := by kernel_rfl
theorem zeroOf_203 : zeroOf Tryz.prog 203 = some [A.str [], A.str [], A.nili] := by kernel_rfl
theorem arrT_203 : arrT Tryz.prog 203 = none := by kernel_rfl
theorem fieldT_203_0 : fieldT Tryz.prog 203 0 = some (0, 9) := by kernel_rfl
theorem fieldT_203_1 : fieldT Tryz.prog 203 1 = some (1, 9) := by kernel_rfl
theorem fieldT_203_2 : fieldT Tryz.prog 203 2 = some (2, 153) := by kernel_rfl
theorem isStr_203 : isStr Tryz.prog 203 = false := by kernel_rfl
theorem isBool_203 : isBool Tryz.prog 203 = false := by kernel_rfl
theorem isPtr_203 : isPtr Tryz.prog 203 = false := by kernel_rfl
theorem isU8_203 : isU8 Tryz.prog 203 = false := by kernel_rfl
theorem isIfc_203 : isIfc Tryz.prog 203 = false := by kernel_rfl
theorem ifcT_203 : ifcT Tryz.prog 203 = false := by kernel_rfl
theorem fieldsOk_203 : fieldsOk Tryz.prog 203 = true := by kernel_rfl
theorem seqT_203 : seqT Tryz.prog 203 = false := by kernel_rfl
theorem sliceable_203 : sliceable Tryz.prog 203 = false := by kernel_rfl
theorem szOf_204 : szOf Tryz.prog 204 = 3 := by kernel_rfl
theorem aggT_204 : aggT Tryz.prog 204 = some true := by kernel_rfl
theorem elemT_204 : elemT Tryz.prog 204 = none := by kernel_rfl
theorem bytesOf_204 : bytesOf Tryz.prog 204 = some 48 := by kernel_rfl
theorem zeroOf_204 : zeroOf Tryz.prog 204 = some [A.str [], A.str [], A.nili] := by kernel_rfl
theorem arrT_204 : arrT Tryz.prog 204 = none := by kernel_rfl
theorem fieldT_204_0 : fieldT Tryz.prog 204 0 = some (0, 9) := by kernel_rfl
theorem fieldT_204_1 : fieldT Tryz.prog 204 1 = some (1, 9) := by kernel_rfl
theorem fieldT_204_2 : fieldT Tryz.prog 204 2 = some (2, 153) := by kernel_rfl
theorem isStr_204 : isStr Tryz.prog 204 = false := by kernel_rfl
theorem isBool_204 : isBool Tryz.prog 204 = false := by kernel_rfl
theorem isPtr_204 : isPtr Tryz.prog 204 = false := by kernel_rfl
theorem isU8_204 : isU8 Tryz.prog 204 = false := by kernel_rfl
theorem isIfc_204 : isIfc Tryz.prog 204 = false := by kernel_rfl
theorem ifcT_204 : ifcT Tryz.prog 204 = false := by kernel_rfl
theorem fieldsOk_204 : fieldsOk Tryz.prog 204 = true := by kernel_rfl
theorem seqT_204 : seqT Tryz.prog 204 = false := by kernel_rfl
theorem sliceable_204 : sliceable Tryz.prog 204 = false := by kernel_rfl
theorem szOf_205 : szOf Tryz.prog 205 = 1 := by kernel_rfl
theorem aggT_205 : aggT Tryz.prog 205 = some false := by kernel_rfl
theorem elemT_205 : elemT Tryz.prog 205 = none := by kernel_rfl
theorem bytesOf_205 : bytesOf Tryz.prog 205 = some 8 := by kernel_rfl
theorem zeroOf_205 : zeroOf Tryz.prog 205 = some [A.nilf] := by kernel_rfl
theorem arrT_205 : arrT Tryz.prog 205 = none := by kernel_rfl
theorem isStr_205 : isStr Tryz.prog 205 = false := by kernel_rfl
theorem isBool_205 : isBool Tryz.prog 205 = false := by kernel_rfl
theorem isPtr_205 : isPtr Tryz.prog 205 = false := by kernel_rfl
theorem isU8_205 : isU8 Tryz.prog 205 = false := by kernel_rfl
theorem isIfc_205 : isIfc Tryz.prog 205 = false := by kernel_rfl
theorem ifcT_205 : ifcT Tryz.prog 205 = false := by kernel_rfl
theorem seqT_205 : seqT Tryz.prog 205 = false := by kernel_rfl
theorem sliceable_205 : sliceable Tryz.prog 205 = false := by kernel_rfl
theorem szOf_206 : szOf Tryz.prog 206 = 256 := by kernel_rfl
theorem aggT_206 : aggT Tryz.prog 206 = some true := by kernel_rfl
theorem elemT_206 : elemT Tryz.prog 206 = none := by kernel_rfl
theorem bytesOf_206 : bytesOf Tryz.prog 206 = some 256 := by kernel_rfl
theorem arrT_206 : arrT Tryz.prog 206 = some (256, 5) := by kernel_rfl
theorem isStr_206 : isStr Tryz.prog 206 = false := by kernel_rfl
theorem isBool_206 : isBool Tryz.prog 206 = false := by kernel_rfl
theorem isPtr_206 : isPtr Tryz.prog 206 = false := by kernel_rfl
theorem isU8_206 : isU8 Tryz.prog 206 = false := by kernel_rfl
theorem isIfc_206 : isIfc Tryz.prog 206 = false := by kernel_rfl
theorem ifcT_206 : ifcT Tryz.prog 206 = false := by kernel_rfl
theorem fieldsOk_206 : fieldsOk Tryz.prog 206 = true := by kernel_rfl
theorem seqT_206 : seqT Tryz.prog 206 = false := by kernel_rfl
theorem sliceable_206 : sliceable Tryz.prog 206 = false := by kernel_rfl
theorem szOf_207 : szOf Tryz.prog 207 = 2 := by kernel_rfl
theorem aggT_207 : aggT Tryz.prog 207 = some true := by kernel_rfl
theorem elemT_207 : elemT Tryz.prog 207 = none := by kernel_rfl
theorem bytesOf_207 : bytesOf Tryz.prog 207 = some 2 := by kernel_rfl
theorem zeroOf_207 : zeroOf Tryz.prog 207 = some [A.int .u8 0, A.int .u8 0] := by kernel_rfl
theorem arrT_207 : arrT Tryz.prog 207 = none := by kernel_rfl
theorem fieldT_207_0 : fieldT Tryz.prog 207 0 = some (0, 5) := by kernel_rfl
theorem fieldT_207_1 : fieldT Tryz.prog 207 1 = some (1, 5) := by kernel_rfl
theorem isStr_207 : isStr Tryz.prog 207 = false := by kernel_rfl
theorem isBool_207 : isBool Tryz.prog 207 = false := by kernel_rfl
theorem isPtr_207 : isPtr Tryz.prog 207 = false := by kernel_rfl
theorem isU8_207 : isU8 Tryz.prog 207 = false := by kernel_rfl
theorem isIfc_207 : isIfc Tryz.prog 207 = false := by kernel_rfl
theorem ifcT_207 : ifcT Tryz.prog 207 = false := by kernel_rfl
theorem fieldsOk_207 : fieldsOk Tryz.prog 207 = true := by kernel_rfl
theorem seqT_207 : seqT Tryz.prog 207 = false := by kernel_rfl
theorem sliceable_207 : sliceable Tryz.prog 207 = false := by kernel_rfl
theorem szOf_208 : szOf Tryz.prog 208 = 2 := by kernel_rfl
theorem aggT_208 : aggT Tryz.prog 208 = some true := by kernel_rfl
theorem elemT_208 : elemT Tryz.prog 208 = none := by kernel_rfl
theorem bytesOf_208 : bytesOf Tryz.prog 208 = some 2 := by kernel_rfl
theorem zeroOf_208 : zeroOf Tryz.prog 208 = some [A.int .u8 0, A.int .u8 0] := by kernel_rfl
theorem arrT_208 : arrT Tryz.prog 208 = none := by kernel_rfl
theorem fieldT_208_0 : fieldT Tryz.prog 208 0 = some (0, 5) := by kernel_rfl
theorem fieldT_208_1 : fieldT Tryz.prog 208 1 = some (1, 5) := by kernel_rfl
theorem isStr_208 : isStr Tryz.prog 208 = false := by kernel_rfl
theorem isBool_208 : isBool Tryz.prog 208 = false := by kernel_rfl
theorem isPtr_208 : isPtr Tryz.prog 208 = false := by kernel_rfl
theorem isU8_208 : isU8 Tryz.prog 208 = false := by kernel_rfl
theorem isIfc_208 : isIfc Tryz.prog 208 = false := by kernel_rfl
theorem ifcT_208 : ifcT Tryz.prog 208 = false := by kernel_rfl
theorem fieldsOk_208 : fieldsOk Tryz.prog 208 = true := by kernel_rfl
theorem seqT_208 : seqT Tryz.prog 208 = false := by kernel_rfl
theorem sliceable_208 : sliceable Tryz.prog 208 = false := by kernel_rfl
theorem szOf_209 : szOf Tryz.prog 209 = 32 := by kernel_rfl
theorem aggT_209 : aggT Tryz.prog 209 = some true := by kernel_rfl
theorem elemT_209 : elemT Tryz.prog 209 = none := by kernel_rfl
theorem bytesOf_209 : bytesOf Tryz.prog 209 = some 32 := by kernel_rfl
theorem zeroOf_209 : zeroOf Tryz.prog 209 = some [A.int .u8 0, A.int .u8 0, A.int .u8 0, A.int .u8 0, A.int .u8 0, A.int .u8 0, A.int .u8 0, A.int .u8 0, A.int .u8 0, A.int .u8 0, A.int .u8 0, A.int .u8 0, A.int .u8 0, A.int .u8 0, A.int .u8 0, A.int .u8 0, A.int .u8 0, A.int .u8 0, A.int .u8 0, A.int .u8 0, A.int .u8 0, A.int .u8 0, A.int .u8 0, A.int .u8 0, A.int .u8 0, A.int .u8 0, A.int .u8 0, A.int .u8 0, A.int .u8 0, A.int .u8 0, A.int .u8 0, A.int .u8 0] := by kernel_rfl
theorem arrT_209 : arrT Tryz.prog 209 = some (16, 208) := by kernel_rfl
theorem isStr_209 : isStr Tryz.prog 209 = false := by kernel_rfl
theorem isBool_209 : isBool Tryz.prog 209 = false := by kernel_rfl
theorem isPtr_209 : isPtr Tryz.prog 209 = false := by kernel_rfl
theorem isU8_209 : isU8 Tryz.prog 209 = false := by kernel_rfl
theorem isIfc_209 : isIfc Tryz.prog 209 = false := by kernel_rfl
theorem ifcT_209 : ifcT Tryz.prog 209 = false := by kernel_rfl
theorem fieldsOk_209 : fieldsOk Tryz.prog 209 = true := by kernel_rfl
theorem seqT_209 : seqT Tryz.prog 209 = false := by kernel_rfl
theorem sliceable_209 : sliceable Tryz.prog 209 = false := by kernel_rfl
theorem szOf_210 : szOf Tryz.prog 210 = 1 := by kernel_rfl
theorem aggT_210 : aggT Tryz.prog 210 = some false := by kernel_rfl
theorem elemT_210 : elemT Tryz.prog 210 = none := by kernel_rfl
theorem bytesOf_210 : bytesOf Tryz.prog 210 = some 8 := by kernel_rfl
theorem zeroOf_210 : zeroOf Tryz.prog 210 = some [A.nilf] := by kernel_rfl
theorem arrT_210 : arrT Tryz.prog 210 = none := by kernel_rfl
theorem isStr_210 : isStr Tryz.prog 210 = false := by kernel_rfl
theorem isBool_210 : isBool Tryz.prog 210 = false := by kernel_rfl
theorem isPtr_210 : isPtr Tryz.prog 210 = false := by kernel_rfl
theorem isU8_210 : isU8 Tryz.prog 210 = false := by kernel_rfl
theorem isIfc_210 : isIfc Tryz.prog 210 = false := by kernel_rfl
theorem ifcT_210 : ifcT Tryz.prog 210 = false := by kernel_rfl
theorem seqT_210 : seqT Tryz.prog 210 = false := by kernel_rfl
theorem sliceable_210 : sliceable Tryz.prog 210 = false := by kernel_rfl
theorem szOf_211 : szOf Tryz.prog 211 = 1 := by kernel_rfl
theorem aggT_211 : aggT Tryz.prog 211 = some false := by kernel_rfl
theorem elemT_211 : elemT Tryz.prog 211 = none := by kernel_rfl
theorem bytesOf_211 : bytesOf Tryz.prog 211 = some 8 := by kernel_rfl
theorem zeroOf_211 : zeroOf Tryz.prog 211 = some [A.nilf] := by kernel_rfl
theorem arrT_211 : arrT Tryz.prog 211 = none := by kernel_rfl
theorem isStr_211 : isStr Tryz.prog 211 = false := by kernel_rfl
theorem isBool_211 : isBool Tryz.prog 211 = false := by kernel_rfl
theorem isPtr_211 : isPtr Tryz.prog 211 = false := by kernel_rfl
theorem isU8_211 : isU8 Tryz.prog 211 = false := by kernel_rfl
theorem isIfc_211 : isIfc Tryz.prog 211 = false := by kernel_rfl
theorem ifcT_211 : ifcT Tryz.prog 211 = false := by kernel_rfl
theorem seqT_211 : seqT Tryz.prog 211 = false := by kernel_rfl
theorem sliceable_211 : sliceable Tryz.prog 211 = false := by kernel_rfl
theorem szOf_212 : szOf Tryz.prog 212 = 1 := by kernel_rfl
theorem aggT_212 : aggT Tryz.prog 212 = some false := by kernel_rfl
theorem elemT_212 : elemT Tryz.prog 212 = none := by kernel_rfl
theorem bytesOf_212 : bytesOf Tryz.prog 212 = some 8 := by kernel_rfl
theorem zeroOf_212 : zeroOf Tryz.prog 212 = some [A.nilf] := by kernel_rfl
theorem arrT_212 : arrT Tryz.prog 212 = none := by kernel_rfl
theorem isStr_212 : isStr Tryz.prog 212 = false := by kernel_rfl
theorem isBool_212 : isBool Tryz.prog 212 = false := by kernel_rfl
theorem isPtr_212 : isPtr Tryz.prog 212 = false := by kernel_rfl
theorem isU8_212 : isU8 Tryz.prog 212 = false := by kernel_rfl
theorem isIfc_212 : isIfc Tryz.prog 212 = false := by kernel_rfl
theorem ifcT_212 : ifcT Tryz.prog 212 = false := by kernel_rfl
theorem seqT_212 : seqT Tryz.prog 212 = false := by kernel_rfl
theorem sliceable_212 : sliceable Tryz.prog 212 = false := by kernel_rfl
theorem szOf_213 : szOf Tryz.prog 213 = 1 := by kernel_rfl
theorem aggT_213 : aggT Tryz.prog 213 = some false := by kernel_rfl
theorem elemT_213 : elemT Tryz.prog 213 = none := by kernel_rfl
theorem bytesOf_213 : bytesOf Tryz.prog 213 = some 8 := by kernel_rfl
theorem zeroOf_213 : zeroOf Tryz.prog 213 = some [A.nilf] := by kernel_rfl
theorem arrT_213 : arrT Tryz.prog 213 = none := by kernel_rfl
theorem isStr_213 : isStr Tryz.prog 213 = false := by kernel_rfl
theorem isBool_213 : isBool Tryz.prog 213 = false := by kernel_rfl
theorem isPtr_213 : isPtr Tryz.prog 213 = false := by kernel_rfl
theorem isU8_213 : isU8 Tryz.prog 213 = false := by kernel_rfl
theorem isIfc_213 : isIfc Tryz.prog 213 = false := by kernel_rfl
theorem ifcT_213 : ifcT Tryz.prog 213 = false := by kernel_rfl
theorem seqT_213 : seqT Tryz.prog 213 = false := by kernel_rfl
theorem sliceable_213 : sliceable Tryz.prog 213 = false := by kernel_rfl
theorem szOf_214 : szOf Tryz.prog 214 = 32 := by kernel_rfl
theorem aggT_214 : aggT Tryz.prog 214 = some true := by kernel_rfl
theorem elemT_214 : elemT Tryz.prog 214 = none := by kernel_rfl
theorem bytesOf_214 : bytesOf Tryz.prog 214 = some 32 := by kernel_rfl
theorem zeroOf_214 : zeroOf Tryz.prog 214 = some [A.int .u8 0, A.int .u8 0, A.int .u8 0, A.int .u8 0, A.int .u8 0, A.int .u8 0, A.int .u8 0, A.int .u8 0, A.int .u8 0, A.int .u8 0, A.int .u8 0, A.int .u8 0, A.int .u8 0, A.int .u8 0, A.int .u8 0, A.int .u8 0, A.int .u8 0, A.int .u8 0, A.int .u8 0, A.int .u8 0, A.int .u8 0, A.int .u8 0, A.int .u8 0, A.int .u8 0, A.int .u8 0, A.int .u8 0, A.int .u8 0, A.int .u8 0, A.int .u8 0, A.int .u8 0, A.int .u8 0, A.int .u8 0] := by kernel_rfl
theorem arrT_214 : arrT Tryz.prog 214 = some (32, 5) := by kernel_rfl
theorem isStr_214 : isStr Tryz.prog 214 = false := by kernel_rfl
theorem isBool_214 : isBool Tryz.prog 214 = false := by kernel_rfl
theorem isPtr_214 : isPtr Tryz.prog 214 = false := by kernel_rfl
theorem isU8_214 : isU8 Tryz.prog 214 = false := by kernel_rfl
theorem isIfc_214 : isIfc Tryz.prog 214 = false := by kernel_rfl
theorem ifcT_214 : ifcT Tryz.prog 214 = false := by kernel_rfl
theorem fieldsOk_214 : fieldsOk Tryz.prog 214 = true := by kernel_rfl
theorem seqT_214 : seqT Tryz.prog 214 = false := by kernel_rfl
theorem sliceable_214 : sliceable Tryz.prog 214 = false := by kernel_rfl
theorem szOf_215 : szOf Tryz.prog 215 = 64 := by kernel_rfl
theorem aggT_215 : aggT Tryz.prog 215 = some true := by kernel_rfl
theorem elemT_215 : elemT Tryz.prog 215 = none := by kernel_rfl
theorem bytesOf_215 : bytesOf Tryz.prog 215 = some 64 := by kernel_rfl
theorem zeroOf_215 : zeroOf Tryz.prog 215 = some [A.int .u8 0, A.int .u8 0, A.int .u8 0, A.int .u8 0, A.int .u8 0, A.int .u8 0, A.int .u8 0, A.int .u8 0, A.int .u8 0, A.int .u8 0, A.int .u8 0, A.int .u8 0, A.int .u8 0, A.int .u8 0, A.int .u8 0, A.int .u8 0, A.int .u8 0, A.int .u8 0, A.int .u8 0, A.int .u8 0, A.int .u8 0, A.int .u8 0, A.int .u8 0, A.int .u8 0, A.int .u8 0, A.int .u8 0, A.int .u8 0, A.int .u8 0, A.int .u8 0, A.int .u8 0, A.int .u8 0, A.int .u8 0, A.int .u8 0, A.int .u8 0, A.int .u8 0, A.int .u8 0, A.int .u8 0, A.int .u8 0, A.int .u8 0, A.int .u8 0, A.int .u8 0, A.int .u8 0, A.int .u8 0, A.int .u8 0, A.int .u8 0, A.int .u8 0, A.int .u8 0, A.int .u8 0, A.int .u8 0, A.int .u8 0, A.int .u8 0, A.int .u8 0, A.int .u8 0, A.int .u8 0, A.int .u8 0, A.int .u8 0, A.int .u8 0, A.int .u8 0, A.int .u8 0, A.int .u8 0, A.int .u8 0, A.int .u8 0, A.int .u8 0, A.int .u8 0] := by kernel_rfl
theorem arrT_215 : arrT Tryz.prog 215 = some (64, 5) := by kernel_rfl
theorem isStr_215 : isStr Tryz.prog 215 = false := by kernel_rfl
theorem isBool_215 : isBool Tryz.prog 215 = false := by kernel_rfl
theorem isPtr_215 : isPtr Tryz.prog 215 = false := by kernel_rfl
theorem isU8_215 : isU8 Tryz.prog 215 = false := by kernel_rfl
theorem isIfc_215 : isIfc Tryz.prog 215 = false := by kernel_rfl
theorem ifcT_215 : ifcT Tryz.prog 215 = false := by kernel_rfl
theorem fieldsOk_215 : fieldsOk Tryz.prog 215 = true := by kernel_rfl
theorem seqT_215 : seqT Tryz.prog 215 = false := by kernel_rfl
theorem sliceable_215 : sliceable Tryz.prog 215 = false := by kernel_rfl
theorem szOf_216 : szOf Tryz.prog 216 = 1 := by kernel_rfl
theorem aggT_216 : aggT Tryz.prog 216 = some false := by kernel_rfl
theorem elemT_216 : elemT Tryz.prog 216 = none := by kernel_rfl
theorem bytesOf_216 : bytesOf Tryz.prog 216 = some 8 := by kernel_rfl
theorem zeroOf_216 : zeroOf Tryz.prog 216 = some [A.nilf] := by kernel_rfl
theorem arrT_216 : arrT Tryz.prog 216 = none := by kernel_rfl
theorem isStr_216 : isStr Tryz.prog 216 = false := by kernel_rfl
theorem isBool_216 : isBool Tryz.prog 216 = false := by kernel_rfl
theorem isPtr_216 : isPtr Tryz.prog 216 = false := by kernel_rfl
theorem isU8_216 : isU8 Tryz.prog 216 = false := by kernel_rfl
theorem isIfc_216 : isIfc Tryz.prog 216 = false := by kernel_rfl
theorem ifcT_216 : ifcT Tryz.prog 216 = false := by kernel_rfl
theorem seqT_216 : seqT Tryz.prog 216 = false := by kernel_rfl
theorem sliceable_216 : sliceable Tryz.prog 216 = false := by kernel_rfl
theorem szOf_217 : szOf Tryz.prog 217 = 1 := by kernel_rfl
theorem aggT_217 : aggT Tryz.prog 217 = some false := by kernel_rfl
theorem elemT_217 : elemT Tryz.prog 217 = none := by kernel_rfl
theorem bytesOf_217 : bytesOf Tryz.prog 217 = some 8 := by kernel_rfl
theorem zeroOf_217 : zeroOf Tryz.prog 217 = some [A.nilp] := by kernel_rfl
theorem arrT_217 : arrT Tryz.prog 217 = none := by kernel_rfl
theorem isStr_217 : isStr Tryz.prog 217 = false := by kernel_rfl
theorem isBool_217 : isBool Tryz.prog 217 = false := by kernel_rfl
theorem isPtr_217 : isPtr Tryz.prog 217 = true := by kernel_rfl
theorem isU8_217 : isU8 Tryz.prog 217 = false := by kernel_rfl
theorem isIfc_217 : isIfc Tryz.prog 217 = false := by kernel_rfl
theorem ifcT_217 : ifcT Tryz.prog 217 = false := by kernel_rfl
theorem seqT_217 : seqT Tryz.prog 217 = false := by kernel_rfl
theorem sliceable_217 : sliceable Tryz.prog 217 = false := by kernel_rfl
theorem szOf_218 : szOf Tryz.prog 218 = 1 := by kernel_rfl
theorem aggT_218 : aggT Tryz.prog 218 = some false := by kernel_rfl
theorem elemT_218 : elemT Tryz.prog 218 = none := by kernel_rfl
theorem bytesOf_218 : bytesOf Tryz.prog 218 = some 8 := by kernel_rfl
theorem zeroOf_218 : zeroOf Tryz.prog 218 = some [A.nilp] := by kernel_rfl
theorem arrT_218 : arrT Tryz.prog 218 = none := by kernel_rfl
theorem isStr_218 : isStr Tryz.prog 218 = false := by kernel_rfl
theorem isBool_218 : isBool Tryz.prog 218 = false := by kernel_rfl
theorem isPtr_218 : isPtr Tryz.prog 218 = true := by kernel_rfl
theorem isU8_218 : isU8 Tryz.prog 218 = false := by kernel_rfl
theorem isIfc_218 : isIfc Tryz.prog 218 = false := by kernel_rfl
theorem ifcT_218 : ifcT Tryz.prog 218 = false := by kernel_rfl
theorem seqT_218 : seqT Tryz.prog 218 = false := by kernel_rfl
theorem sliceable_218 : sliceable Tryz.prog 218 = false := by kernel_rfl
theorem szOf_219 : szOf Tryz.prog 219 = 1 := by kernel_rfl
theorem aggT_219 : aggT Tryz.prog 219 = some true := by kernel_rfl
theorem elemT_219 : elemT Tryz.prog 219 = none := by kernel_rfl
theorem bytesOf_219 : bytesOf Tryz.prog 219 = some 16 := by kernel_rfl
theorem zeroOf_219 : zeroOf Tryz.prog 219 = some [A.str []] := by kernel_rfl
theorem arrT_219 : arrT Tryz.prog 219 = none := by kernel_rfl
theorem fieldT_219_0 : fieldT Tryz.prog 219 0 = some (0, 9) := by kernel_rfl
theorem isStr_219 : isStr Tryz.prog 219 = false := by kernel_rfl
theorem isBool_219 : isBool Tryz.prog 219 = false := by kernel_rfl
theorem isPtr_219 : isPtr Tryz.prog 219 = false := by kernel_rfl
theorem isU8_219 : isU8 Tryz.prog 219 = false := by kernel_rfl
theorem isIfc_219 : isIfc Tryz.prog 219 = false := by kernel_rfl
theorem ifcT_219 : ifcT Tryz.prog 219 = false := by kernel_rfl
theorem fieldsOk_219 : fieldsOk Tryz.prog 219 = true := by kernel_rfl
theorem seqT_219 : seqT Tryz.prog 219 = false := by kernel_rfl
theorem sliceable_219 : sliceable Tryz.prog 219 = false := by kernel_rfl
theorem szOf_220 : szOf Tryz.prog 220 = 1 := by kernel_rfl
theorem aggT_220 : aggT Tryz.prog 220 = some true := by kernel_rfl
theorem elemT_220 : elemT Tryz.prog 220 = none := by kernel_rfl
theorem bytesOf_220 : bytesOf Tryz.prog 220 = some 16 := by kernel_rfl
theorem zeroOf_220 : zeroOf Tryz.prog 220 = some [A.str []] := by kernel_rfl
theorem arrT_220 : arrT Tryz.prog 220 = none := by kernel_rfl
theorem fieldT_220_0 : fieldT Tryz.prog 220 0 = some (0, 9) := by kernel_rfl
theorem isStr_220 : isStr Tryz.prog 220 = false := by kernel_rfl
theorem isBool_220 : isBool Tryz.prog 220 = false := by kernel_rfl
theorem isPtr_220 : isPtr Tryz.prog 220 = false := by kernel_rfl
theorem isU8_220 : isU8 Tryz.prog 220 = false := by kernel_rfl
theorem isIfc_220 : isIfc Tryz.prog 220 = false := by kernel_rfl
theorem ifcT_220 : ifcT Tryz.prog 220 = false := by kernel_rfl
theorem fieldsOk_220 : fieldsOk Tryz.prog 220 = true := by kernel_rfl
theorem seqT_220 : seqT Tryz.prog 220 = false := by kernel_rfl
theorem sliceable_220 : sliceable Tryz.prog 220 = false := by kernel_rfl
theorem szOf_221 : szOf Tryz.prog 221 = 4 := by kernel_rfl
theorem aggT_221 : aggT Tryz.prog 221 = some true := by kernel_rfl
theorem elemT_221 : elemT Tryz.prog 221 = none := by kernel_rfl
theorem bytesOf_221 : bytesOf Tryz.prog 221 = some 40 := by kernel_rfl
theorem zeroOf_221 : zeroOf Tryz.prog 221 = some [A.nilp, A.nilp, A.nilp, A.str []] := by kernel_rfl
theorem arrT_221 : arrT Tryz.prog 221 = none := by kernel_rfl
theorem fieldT_221_0 : fieldT Tryz.prog 221 0 = some (0, 17) := by kernel_rfl
theorem fieldT_221_1 : fieldT Tryz.prog 221 1 = some (1, 17) := by kernel_rfl
theorem fieldT_221_2 : fieldT Tryz.prog 221 2 = some (2, 17) := by kernel_rfl
theorem fieldT_221_3 : fieldT Tryz.prog 221 3 = some (3, 9) := by kernel_rfl
theorem isStr_221 : isStr Tryz.prog 221 = false := by kernel_rfl
theorem isBool_221 : isBool Tryz.prog 221 = false := by kernel_rfl
theorem isPtr_221 : isPtr Tryz.prog 221 = false := by kernel_rfl
theorem isU8_221 : isU8 Tryz.prog 221 = false := by kernel_rfl
theorem isIfc_221 : isIfc Tryz.prog 221 = false := by kernel_rfl
theorem ifcT_221 : ifcT Tryz.prog 221 = false := by kernel_rfl
theorem fieldsOk_221 : fieldsOk Tryz.prog 221 = true := by kernel_rfl
theorem seqT_221 : seqT Tryz.prog 221 = false := by kernel_rfl
theorem sliceable_221 : sliceable Tryz.prog 221 = false := by kernel_rfl
theorem szOf_222 : szOf Tryz.prog 222 = 4 := by kernel_rfl
theorem aggT_222 : aggT Tryz.prog 222 = some true := by kernel_rfl
theorem elemT_222 : elemT Tryz.prog 222 = none := by kernel_rfl
theorem bytesOf_222 : bytesOf Tryz.prog 222 = some 40 := by kernel_rfl
theorem zeroOf_222 : zeroOf Tryz.prog 222 = some [A.nilp, A.nilp, A.nilp, A.str []] := by kernel_rfl
theorem arrT_222 : arrT Tryz.prog 222 = none := by kernel_rfl
theorem fieldT_222_0 : fieldT Tryz.prog 222 0 = some (0, 17) := by kernel_rfl
theorem fieldT_222_1 : fieldT Tryz.prog 222 1 = some (1, 17) := by kernel_rfl
theorem fieldT_222_2 : fieldT Tryz.prog 222 2 = some (2, 17) := by kernel_rfl
theorem fieldT_222_3 : fieldT Tryz.prog 222 3 = some (3, 9) := by kernel_rfl
theorem isStr_222 : isStr Tryz.prog 222 = false := by kernel_rfl
theorem isBool_222 : isBool Tryz.prog 222 = false := by kernel_rfl
theorem isPtr_222 : isPtr Tryz.prog 222 = false := by kernel_rfl
theorem isU8_222 : isU8 Tryz.prog 222 = false := by kernel_rfl
theorem isIfc_222 : isIfc Tryz.prog 222 = false := by kernel_rfl
theorem ifcT_222 : ifcT Tryz.prog 222 = false := by kernel_rfl
theorem fieldsOk_222 : fieldsOk Tryz.prog 222 = true := by kernel_rfl
theorem seqT_222 : seqT Tryz.prog 222 = false := by kernel_rfl
theorem sliceable_222 : sliceable Tryz.prog 222 = false := by kernel_rfl
theorem szOf_223 : szOf Tryz.prog 223 = 0 := by kernel_rfl
theorem aggT_223 : aggT Tryz.prog 223 = some true := by kernel_rfl
theorem elemT_223 : elemT Tryz.prog 223 = none := by kernel_rfl
theorem bytesOf_223 : bytesOf Tryz.prog 223 = some 0 := by kernel_rfl
theorem zeroOf_223 : zeroOf Tryz.prog 223 = some [] := by kernel_rfl
theorem arrT_223 : arrT Tryz.prog 223 = some (0, 16) := by kernel_rfl
theorem isStr_223 : isStr Tryz.prog 223 = false := by kernel_rfl
theorem isBool_223 : isBool Tryz.prog 223 = false := by kernel_rfl
theorem isPtr_223 : isPtr Tryz.prog 223 = false := by kernel_rfl
theorem isU8_223 : isU8 Tryz.prog 223 = false := by kernel_rfl
theorem isIfc_223 : isIfc Tryz.prog 223 = false := by kernel_rfl
theorem ifcT_223 : ifcT Tryz.prog 223 = false := by kernel_rfl
theorem fieldsOk_223 : fieldsOk Tryz.prog 223 = true := by kernel_rfl
theorem seqT_223 : seqT Tryz.prog 223 = false := by kernel_rfl
theorem sliceable_223 : sliceable Tryz.prog 223 = false := by kernel_rfl
theorem szOf_224 : szOf Tryz.prog 224 = 0 := by kernel_rfl
theorem aggT_224 : aggT Tryz.prog 224 = some true := by kernel_rfl
theorem elemT_224 : elemT Tryz.prog 224 = none := by kernel_rfl
theorem bytesOf_224 : bytesOf Tryz.prog 224 = some 0 := by kernel_rfl
theorem zeroOf_224 : zeroOf Tryz.prog 224 = some [] := by kernel_rfl
theorem arrT_224 : arrT Tryz.prog 224 = none := by kernel_rfl
theorem fieldT_224_0 : fieldT Tryz.prog 224 0 = some (0, 223) := by kernel_rfl
theorem isStr_224 : isStr Tryz.prog 224 = false := by kernel_rfl
theorem isBool_224 : isBool Tryz.prog 224 = false := by kernel_rfl
theorem isPtr_224 : isPtr Tryz.prog 224 = false := by kernel_rfl
theorem isU8_224 : isU8 Tryz.prog 224 = false := by kernel_rfl
theorem isIfc_224 : isIfc Tryz.prog 224 = false := by kernel_rfl
theorem ifcT_224 : ifcT Tryz.prog 224 = false := by kernel_rfl
theorem fieldsOk_224 : fieldsOk Tryz.prog 224 = true := by kernel_rfl
theorem seqT_224 : seqT Tryz.prog 224 = false := by kernel_rfl
theorem sliceable_224 : sliceable Tryz.prog 224 = false := by kernel_rfl
theorem szOf_225 : szOf Tryz.prog 225 = 0 := by kernel_rfl
theorem aggT_225 : aggT Tryz.prog 225 = some true := by kernel_rfl
theorem elemT_225 : elemT Tryz.prog 225 = none := by kernel_rfl
theorem bytesOf_225 : bytesOf Tryz.prog 225 = some 0 := by kernel_rfl
theorem zeroOf_225 : zeroOf Tryz.prog 225 = some [] := by kernel_rfl
theorem arrT_225 : arrT Tryz.prog 225 = none := by kernel_rfl
theorem fieldT_225_0 : fieldT Tryz.prog 225 0 = some (0, 223) := by kernel_rfl
theorem isStr_225 : isStr Tryz.prog 225 = false := by kernel_rfl
theorem isBool_225 : isBool Tryz.prog 225 = false := by kernel_rfl
theorem isPtr_225 : isPtr Tryz.prog 225 = false := by kernel_rfl
theorem isU8_225 : isU8 Tryz.prog 225 = false := by kernel_rfl
theorem isIfc_225 : isIfc Tryz.prog 225 = false := by kernel_rfl
theorem ifcT_225 : ifcT Tryz.prog 225 = false := by kernel_rfl
theorem fieldsOk_225 : fieldsOk Tryz.prog 225 = true := by kernel_rfl
theorem seqT_225 : seqT Tryz.prog 225 = false := by kernel_rfl
theorem sliceable_225 : sliceable Tryz.prog 225 = false := by kernel_rfl
theorem szOf_226 : szOf Tryz.prog 226 = 1 := by kernel_rfl
theorem aggT_226 : aggT Tryz.prog 226 = some false := by kernel_rfl
theorem elemT_226 : elemT Tryz.prog 226 = none := by kernel_rfl
theorem bytesOf_226 : bytesOf Tryz.prog 226 = some 1 := by kernel_rfl
theorem zeroOf_226 : zeroOf Tryz.prog 226 = some [A.int .u8 0] := by kernel_rfl
theorem arrT_226 : arrT Tryz.prog 226 = none := by kernel_rfl
theorem isStr_226 : isStr Tryz.prog 226 = false := by kernel_rfl
theorem isBool_226 : isBool Tryz.prog 226 = false := by kernel_rfl
theorem isPtr_226 : isPtr Tryz.prog 226 = false := by kernel_rfl
theorem isU8_226 : isU8 Tryz.prog 226 = true := by kernel_rfl
theorem isIfc_226 : isIfc Tryz.prog 226 = false := by kernel_rfl
theorem ifcT_226 : ifcT Tryz.prog 226 = false := by kernel_rfl
theorem seqT_226 : seqT Tryz.prog 226 = false := by kernel_rfl
theorem sliceable_226 : sliceable Tryz.prog 226 = false := by kernel_rfl
theorem szOf_227 : szOf Tryz.prog 227 = 1 := by kernel_rfl
theorem aggT_227 : aggT Tryz.prog 227 = some false := by kernel_rfl
theorem elemT_227 : elemT Tryz.prog 227 = none := by kernel_rfl
theorem bytesOf_227 : bytesOf Tryz.prog 227 = some 1 := by kernel_rfl
theorem zeroOf_227 : zeroOf Tryz.prog 227 = some [A.int .u8 0] := by kernel_rfl
theorem arrT_227 : arrT Tryz.prog 227 = none := by kernel_rfl
theorem isStr_227 : isStr Tryz.prog 227 = false := by kernel_rfl
theorem isBool_227 : isBool Tryz.prog 227 = false := by kernel_rfl
theorem isPtr_227 : isPtr Tryz.prog 227 = false := by kernel_rfl
theorem isU8_227 : isU8 Tryz.prog 227 = true := by kernel_rfl
theorem isIfc_227 : isIfc Tryz.prog 227 = false := by kernel_rfl
theorem ifcT_227 : ifcT Tryz.prog 227 = false := by kernel_rfl
theorem seqT_227 : seqT Tryz.prog 227 = false := by kernel_rfl
theorem sliceable_227 : sliceable Tryz.prog 227 = false := by kernel_rfl
theorem szOf_228 : szOf Tryz.prog 228 = 1 := by kernel_rfl
theorem aggT_228 : aggT Tryz.prog 228 = some false := by kernel_rfl
theorem elemT_228 : elemT Tryz.prog 228 = none := by kernel_rfl
theorem bytesOf_228 : bytesOf Tryz.prog 228 = some 8 := by kernel_rfl
theorem zeroOf_228 : zeroOf Tryz.prog 228 = some [A.nilf] := by kernel_rfl
theorem arrT_228 : arrT Tryz.prog 228 = none := by kernel_rfl
theorem isStr_228 : isStr Tryz.prog 228 = false := by kernel_rfl
theorem isBool_228 : isBool Tryz.prog 228 = false := by kernel_rfl
theorem isPtr_228 : isPtr Tryz.prog 228 = false := by kernel_rfl
theorem isU8_228 : isU8 Tryz.prog 228 = false := by kernel_rfl
theorem isIfc_228 : isIfc Tryz.prog 228 = false := by kernel_rfl
theorem ifcT_228 : ifcT Tryz.prog 228 = false := by kernel_rfl
theorem seqT_228 : seqT Tryz.prog 228 = false := by kernel_rfl
theorem sliceable_228 : sliceable Tryz.prog 228 = false := by kernel_rfl
theorem szOf_229 : szOf Tryz.prog 229 = 1 := by kernel_rfl
theorem aggT_229 : aggT Tryz.prog 229 = some false := by kernel_rfl
theorem elemT_229 : elemT Tryz.prog 229 = none := by kernel_rfl
theorem bytesOf_229 : bytesOf Tryz.prog 229 = some 4 := by kernel_rfl
theorem zeroOf_229 : zeroOf Tryz.prog 229 = some [A.int .i32 0] := by kernel_rfl
theorem arrT_229 : arrT Tryz.prog 229 = none := by kernel_rfl
theorem isStr_229 : isStr Tryz.prog 229 = false := by kernel_rfl
theorem isBool_229 : isBool Tryz.prog 229 = false := by kernel_rfl
theorem isPtr_229 : isPtr Tryz.prog 229 = false := by kernel_rfl
theorem isU8_229 : isU8 Tryz.prog 229 = false := by kernel_rfl
theorem isIfc_229 : isIfc Tryz.prog 229 = false := by kernel_rfl
theorem ifcT_229 : ifcT Tryz.prog 229 = false := by kernel_rfl
theorem seqT_229 : seqT Tryz.prog 229 = false := by kernel_rfl
theorem sliceable_229 : sliceable Tryz.prog 229 = false := by kernel_rfl
theorem szOf_230 : szOf Tryz.prog 230 = 1 := by kernel_rfl
theorem aggT_230 : aggT Tryz.prog 230 = some false := by kernel_rfl
theorem elemT_230 : elemT Tryz.prog 230 = none := by kernel_rfl
theorem bytesOf_230 : bytesOf Tryz.prog 230 = some 4 := by kernel_rfl
theorem zeroOf_230 : zeroOf Tryz.prog 230 = some [A.int .i32 0] := by kernel_rfl
theorem arrT_230 : arrT Tryz.prog 230 = none := by kernel_rfl
theorem isStr_230 : isStr Tryz.prog 230 = false := by kernel_rfl
theorem isBool_230 : isBool Tryz.prog 230 = false := by kernel_rfl
theorem isPtr_230 : isPtr Tryz.prog 230 = false := by kernel_rfl
theorem isU8_230 : isU8 Tryz.prog 230 = false := by kernel_rfl
theorem isIfc_230 : isIfc Tryz.prog 230 = false := by kernel_rfl
theorem ifcT_230 : ifcT Tryz.prog 230 = false := by kernel_rfl
theorem seqT_230 : seqT Tryz.prog 230 = false := by kernel_rfl
theorem sliceable_230 : sliceable Tryz.prog 230 = false := by kernel_rfl
theorem szOf_231 : szOf Tryz.prog 231 = 11 := by kernel_rfl
theorem aggT_231 : aggT Tryz.prog 231 = some true := by kernel_rfl
theorem elemT_231 : elemT Tryz.prog 231 = none := by kernel_rfl
theorem bytesOf_231 : bytesOf Tryz.prog 231 = some 48 := by kernel_rfl
theorem zeroOf_231 : zeroOf Tryz.prog 231 = some [A.int .u64 0, A.int .u64 0, A.int .u32 0, A.int .u8 0, A.int .u8 0, A.int .u8 0, A.int .u8 0, A.nilf, A.nilp, A.int .i32 0, A.int .i32 0] := by kernel_rfl
theorem arrT_231 : arrT Tryz.prog 231 = none := by kernel_rfl
theorem fieldT_231_0 : fieldT Tryz.prog 231 0 = some (0, 12) := by kernel_rfl
theorem fieldT_231_1 : fieldT Tryz.prog 231 1 = some (1, 12) := by kernel_rfl
theorem fieldT_231_2 : fieldT Tryz.prog 231 2 = some (2, 139) := by kernel_rfl
theorem fieldT_231_3 : fieldT Tryz.prog 231 3 = some (3, 226) := by kernel_rfl
theorem fieldT_231_4 : fieldT Tryz.prog 231 4 = some (4, 5) := by kernel_rfl
theorem fieldT_231_5 : fieldT Tryz.prog 231 5 = some (5, 5) := by kernel_rfl
theorem fieldT_231_6 : fieldT Tryz.prog 231 6 = some (6, 227) := by kernel_rfl
theorem fieldT_231_7 : fieldT Tryz.prog 231 7 = some (7, 228) := by kernel_rfl
theorem fieldT_231_8 : fieldT Tryz.prog 231 8 = some (8, 217) := by kernel_rfl
theorem fieldT_231_9 : fieldT Tryz.prog 231 9 = some (9, 229) := by kernel_rfl
theorem fieldT_231_10 : fieldT Tryz.prog 231 10 = some (10, 230) := by kernel_rfl
theorem isStr_231 : isStr Tryz.prog 231 = false := by kernel_rfl
theorem isBool_231 : isBool Tryz.prog 231 = false := by kernel_rfl
theorem isPtr_231 : isPtr Tryz.prog 231 = false := by kernel_rfl
theorem isU8_231 : isU8 Tryz.prog 231 = false := by kernel_rfl
theorem isIfc_231 : isIfc Tryz.prog 231 = false := by kernel_rfl
theorem ifcT_231 : ifcT Tryz.prog 231 = false := by kernel_rfl
theorem fieldsOk_231 : fieldsOk Tryz.prog 231 = true := by kernel_rfl
theorem seqT_231 : seqT Tryz.prog 231 = false := by kernel_rfl
theorem sliceable_231 : sliceable Tryz.prog 231 = false := by kernel_rfl
theorem szOf_232 : szOf Tryz.prog 232 = 11 := by kernel_rfl
theorem aggT_232 : aggT Tryz.prog 232 = some true := by kernel_rfl
theorem elemT_232 : elemT Tryz.prog 232 = none := by kernel_rfl
theorem bytesOf_232 : bytesOf Tryz.prog 232 = some 48 := by kernel_rfl
theorem zeroOf_232 : zeroOf Tryz.prog 232 = some [A.int .u64 0, A.int .u64 0, A.int .u32 0, A.int .u8 0, A.int .u8 0, A.int .u8 0, A.int .u8 0, A.nilf, A.nilp, A.int .i32 0, A.int .i32 0] := by kernel_rfl
theorem arrT_232 : arrT Tryz.prog 232 = none := by kernel_rfl
theorem fieldT_232_0 : fieldT Tryz.prog 232 0 = some (0, 12) := by kernel_rfl
theorem fieldT_232_1 : fieldT Tryz.prog 232 1 = some (1, 12) := by kernel_rfl
theorem fieldT_232_2 : fieldT Tryz.prog 232 2 = some (2, 139) := by kernel_rfl
theorem fieldT_232_3 : fieldT Tryz.prog 232 3 = some (3, 226) := by kernel_rfl
theorem fieldT_232_4 : fieldT Tryz.prog 232 4 = some (4, 5) := by kernel_rfl
theorem fieldT_232_5 : fieldT Tryz.prog 232 5 = some (5, 5) := by kernel_rfl
theorem fieldT_232_6 : fieldT Tryz.prog 232 6 = some (6, 227) := by kernel_rfl
theorem fieldT_232_7 : fieldT Tryz.prog 232 7 = some (7, 228) := by kernel_rfl
theorem fieldT_232_8 : fieldT Tryz.prog 232 8 = some (8, 217) := by kernel_rfl
theorem fieldT_232_9 : fieldT Tryz.prog 232 9 = some (9, 229) := by kernel_rfl
theorem fieldT_232_10 : fieldT Tryz.prog 232 10 = some (10, 230) := by kernel_rfl
theorem isStr_232 : isStr Tryz.prog 232 = false := by kernel_rfl
theorem isBool_232 : isBool Tryz.prog 232 = false := by kernel_rfl
theorem isPtr_232 : isPtr Tryz.prog 232 = false := by kernel_rfl
theorem isU8_232 : isU8 Tryz.prog 232 = false := by kernel_rfl
theorem isIfc_232 : isIfc Tryz.prog 232 = false := by kernel_rfl
theorem ifcT_232 : ifcT Tryz.prog 232 = false := by kernel_rfl
theorem fieldsOk_232 : fieldsOk Tryz.prog 232 = true := by kernel_rfl
theorem seqT_232 : seqT Tryz.prog 232 = false := by kernel_rfl
theorem sliceable_232 : sliceable Tryz.prog 232 = false := by kernel_rfl
theorem szOf_233 : szOf Tryz.prog 233 = 1 := by kernel_rfl
theorem aggT_233 : aggT Tryz.prog 233 = some false := by kernel_rfl
theorem elemT_233 : elemT Tryz.prog 233 = none := by kernel_rfl
theorem bytesOf_233 : bytesOf Tryz.prog 233 = some 8 := by kernel_rfl
theorem zeroOf_233 : zeroOf Tryz.prog 233 = some [A.nilp] := by kernel_rfl
theorem arrT_233 : arrT Tryz.prog 233 = none := by kernel_rfl
theorem isStr_233 : isStr Tryz.prog 233 = false := by kernel_rfl
theorem isBool_233 : isBool Tryz.prog 233 = false := by kernel_rfl
theorem isPtr_233 : isPtr Tryz.prog 233 = false := by kernel_rfl
theorem isU8_233 : isU8 Tryz.prog 233 = false := by kernel_rfl
theorem isIfc_233 : isIfc Tryz.prog 233 = false := by kernel_rfl
theorem ifcT_233 : ifcT Tryz.prog 233 = false := by kernel_rfl
theorem seqT_233 : seqT Tryz.prog 233 = false := by kernel_rfl
theorem sliceable_233 : sliceable Tryz.prog 233 = false := by kernel_rfl
attribute [simp] szOf_1 aggT_1 elemT_1 bytesOf_1 zeroOf_1 arrT_1 isStr_1 isBool_1 isPtr_1 isU8_1 isIfc_1 ifcT_1 seqT_1 sliceable_1 szOf_2 aggT_2 elemT_2 bytesOf_2 zeroOf_2 arrT_2 isStr_2 isBool_2 isPtr_2 isU8_2 isIfc_2 ifcT_2 seqT_2 sliceable_2 szOf_3 aggT_3 elemT_3 bytesOf_3 zeroOf_3 arrT_3 isStr_3 isBool_3 isPtr_3 isU8_3 isIfc_3 ifcT_3 seqT_3 sliceable_3 szOf_4 aggT_4 elemT_4 bytesOf_4 zeroOf_4 arrT_4 isStr_4 isBool_4 isPtr_4 isU8_4 isIfc_4 ifcT_4 seqT_4 sliceable_4 szOf_5 aggT_5 elemT_5 bytesOf_5 zeroOf_5 arrT_5 isStr_5 isBool_5 isPtr_5 isU8_5 isIfc_5 ifcT_5 seqT_5 sliceable_5 szOf_6 aggT_6 elemT_6 bytesOf_6 zeroOf_6 arrT_6 isStr_6 isBool_6 isPtr_6 isU8_6 isIfc_6 ifcT_6 seqT_6 sliceable_6 szOf_7 aggT_7 elemT_7 bytesOf_7 zeroOf_7 arrT_7 fieldT_7_0 fieldT_7_1 fieldT_7_2 fieldT_7_3 isStr_7 isBool_7 isPtr_7 isU8_7 isIfc_7 ifcT_7 fieldsOk_7 seqT_7 sliceable_7 szOf_8 aggT_8 elemT_8 bytesOf_8 zeroOf_8 arrT_8 fieldT_8_0 fieldT_8_1 fieldT_8_2 fieldT_8_3 isStr_8 isBool_8 isPtr_8 isU8_8 isIfc_8 ifcT_8 fieldsOk_8 seqT_8 sliceable_8 szOf_9 aggT_9 elemT_9 bytesOf_9 zeroOf_9 arrT_9 isStr_9 isBool_9 isPtr_9 isU8_9 isIfc_9 ifcT_9 seqT_9 sliceable_9 szOf_10 aggT_10 elemT_10 bytesOf_10 zeroOf_10 arrT_10 isStr_10 isBool_10 isPtr_10 isU8_10 isIfc_10 ifcT_10 seqT_10 sliceable_10 szOf_11 aggT_11 elemT_11 bytesOf_11 zeroOf_11 arrT_11 isStr_11 isBool_11 isPtr_11 isU8_11 isIfc_11 ifcT_11 seqT_11 sliceable_11 szOf_12 aggT_12 elemT_12 bytesOf_12 zeroOf_12 arrT_12 isStr_12 isBool_12 isPtr_12 isU8_12 isIfc_12 ifcT_12 seqT_12 sliceable_12 szOf_13 aggT_13 elemT_13 bytesOf_13 zeroOf_13 arrT_13 fieldT_13_0 fieldT_13_1 isStr_13 isBool_13 isPtr_13 isU8_13 isIfc_13 ifcT_13 fieldsOk_13 seqT_13 sliceable_13 szOf_14 aggT_14 elemT_14 bytesOf_14 zeroOf_14 arrT_14 fieldT_14_0 fieldT_14_1 isStr_14 isBool_14 isPtr_14 isU8_14 isIfc_14 ifcT_14 fieldsOk_14 seqT_14 sliceable_14 szOf_15 aggT_15 elemT_15 bytesOf_15 zeroOf_15 arrT_15 isStr_15 isBool_15 isPtr_15 isU8_15 isIfc_15 ifcT_15 seqT_15 sliceable_15 szOf_16 aggT_16 elemT_16 bytesOf_16 zeroOf_16 arrT_16 isStr_16 isBool_16 isPtr_16 isU8_16 isIfc_16 ifcT_16 seqT_16 sliceable_16 szOf_17 aggT_17 elemT_17 bytesOf_17 zeroOf_17 arrT_17 isStr_17 isBool_17 isPtr_17 isU8_17 isIfc_17 ifcT_17 seqT_17 sliceable_17 szOf_18 aggT_18 elemT_18 bytesOf_18 zeroOf_18 arrT_18 fieldT_18_0 isStr_18 isBool_18 isPtr_18 isU8_18 isIfc_18 ifcT_18 fieldsOk_18 seqT_18 sliceable_18 szOf_19 aggT_19 elemT_19 bytesOf_19 zeroOf_19 arrT_19 fieldT_19_0 isStr_19 isBool_19 isPtr_19 isU8_19 isIfc_19 ifcT_19 fieldsOk_19 seqT_19 sliceable_19 szOf_20 aggT_20 elemT_20 bytesOf_20 zeroOf_20 arrT_20 isStr_20 isBool_20 isPtr_20 isU8_20 isIfc_20 ifcT_20 seqT_20 sliceable_20 szOf_21 aggT_21 elemT_21 bytesOf_21 zeroOf_21 arrT_21 isStr_21 isBool_21 isPtr_21 isU8_21 isIfc_21 ifcT_21 seqT_21 sliceable_21 szOf_22 aggT_22 elemT_22 bytesOf_22 zeroOf_22 arrT_22 isStr_22 isBool_22 isPtr_22 isU8_22 isIfc_22 ifcT_22 seqT_22 sliceable_22 szOf_23 aggT_23 elemT_23 bytesOf_23 zeroOf_23 arrT_23 fieldT_23_0 fieldT_23_1 fieldT_23_2 isStr_23 isBool_23 isPtr_23 isU8_23 isIfc_23 ifcT_23 fieldsOk_23 seqT_23 sliceable_23 szOf_24 aggT_24 elemT_24 bytesOf_24 zeroOf_24 arrT_24 fieldT_24_0 fieldT_24_1 fieldT_24_2 isStr_24 isBool_24 isPtr_24 isU8_24 isIfc_24 ifcT_24 fieldsOk_24 seqT_24 sliceable_24 szOf_25 aggT_25 elemT_25 bytesOf_25 zeroOf_25 arrT_25 isStr_25 isBool_25 isPtr_25 isU8_25 isIfc_25 ifcT_25 seqT_25 sliceable_25 szOf_26 aggT_26 elemT_26 bytesOf_26 zeroOf_26 arrT_26 isStr_26 isBool_26 isPtr_26 isU8_26 isIfc_26 ifcT_26 seqT_26 sliceable_26 szOf_27 aggT_27 elemT_27 bytesOf_27 zeroOf_27 arrT_27 fieldT_27_0 fieldT_27_1 fieldT_27_2 isStr_27 isBool_27 isPtr_27 isU8_27 isIfc_27 ifcT_27 fieldsOk_27 seqT_27 sliceable_27 szOf_28 aggT_28 elemT_28 bytesOf_28 zeroOf_28 arrT_28 fieldT_28_0 fieldT_28_1 fieldT_28_2 isStr_28 isBool_28 isPtr_28 isU8_28 isIfc_28 ifcT_28 fieldsOk_28 seqT_28 sliceable_28 szOf_29 aggT_29 elemT_29 bytesOf_29 zeroOf_29 arrT_29 isStr_29 isBool_29 isPtr_29 isU8_29 isIfc_29 ifcT_29 seqT_29 sliceable_29 szOf_30 aggT_30 elemT_30 bytesOf_30 zeroOf_30 arrT_30 isStr_30 isBool_30 isPtr_30 isU8_30 isIfc_30 ifcT_30 seqT_30 sliceable_30 szOf_31 aggT_31 elemT_31 bytesOf_31 zeroOf_31 arrT_31 isStr_31 isBool_31 isPtr_31 isU8_31 isIfc_31 ifcT_31 seqT_31 sliceable_31 szOf_33 aggT_33 elemT_33 bytesOf_33 zeroOf_33 arrT_33 isStr_33 isBool_33 isPtr_33 isU8_33 isIfc_33 ifcT_33 seqT_33 sliceable_33 szOf_34 aggT_34 elemT_34 bytesOf_34 zeroOf_34 arrT_34 isStr_34 isBool_34 isPtr_34 isU8_34 isIfc_34 ifcT_34 seqT_34 sliceable_34 szOf_35 aggT_35 elemT_35 bytesOf_35 zeroOf_35 arrT_35 isStr_35 isBool_35 isPtr_35 isU8_35 isIfc_35 ifcT_35 seqT_35 sliceable_35 szOf_36 aggT_36 elemT_36 bytesOf_36 zeroOf_36 arrT_36 isStr_36 isBool_36 isPtr_36 isU8_36 isIfc_36 ifcT_36 seqT_36 sliceable_36 szOf_37 aggT_37 elemT_37 bytesOf_37 zeroOf_37 arrT_37 isStr_37 isBool_37 isPtr_37 isU8_37 isIfc_37 ifcT_37 seqT_37 sliceable_37 szOf_38 aggT_38 elemT_38 bytesOf_38 zeroOf_38 arrT_38 isStr_38 isBool_38 isPtr_38 isU8_38 isIfc_38 ifcT_38 seqT_38 sliceable_38 szOf_39 aggT_39 elemT_39 bytesOf_39 zeroOf_39 arrT_39 isStr_39 isBool_39 isPtr_39 isU8_39 isIfc_39 ifcT_39 seqT_39 sliceable_39 szOf_41 aggT_41 elemT_41 bytesOf_41 zeroOf_41 arrT_41 isStr_41 isBool_41 isPtr_41 isU8_41 isIfc_41 ifcT_41 seqT_41 sliceable_41 szOf_42 aggT_42 elemT_42 bytesOf_42 zeroOf_42 arrT_42 isStr_42 isBool_42 isPtr_42 isU8_42 isIfc_42 ifcT_42 seqT_42 sliceable_42 szOf_43 aggT_43 elemT_43 bytesOf_43 zeroOf_43 arrT_43 isStr_43 isBool_43 isPtr_43 isU8_43 isIfc_43 ifcT_43 seqT_43 sliceable_43 szOf_44 aggT_44 elemT_44 bytesOf_44 zeroOf_44 arrT_44 isStr_44 isBool_44 isPtr_44 isU8_44 isIfc_44 ifcT_44 seqT_44 sliceable_44 szOf_46 aggT_46 elemT_46 bytesOf_46 zeroOf_46 arrT_46 isStr_46 isBool_46 isPtr_46 isU8_46 isIfc_46 ifcT_46 seqT_46 sliceable_46 szOf_47 aggT_47 elemT_47 bytesOf_47 zeroOf_47 arrT_47 isStr_47 isBool_47 isPtr_47 isU8_47 isIfc_47 ifcT_47 seqT_47 sliceable_47 szOf_48 aggT_48 elemT_48 bytesOf_48 zeroOf_48 arrT_48 isStr_48 isBool_48 isPtr_48 isU8_48 isIfc_48 ifcT_48 seqT_48 sliceable_48 szOf_49 aggT_49 elemT_49 bytesOf_49 zeroOf_49 arrT_49 isStr_49 isBool_49 isPtr_49 isU8_49 isIfc_49 ifcT_49 seqT_49 sliceable_49 szOf_50 aggT_50 elemT_50 bytesOf_50 zeroOf_50 arrT_50 isStr_50 isBool_50 isPtr_50 isU8_50 isIfc_50 ifcT_50 seqT_50 sliceable_50 szOf_51 aggT_51 elemT_51 bytesOf_51 zeroOf_51 arrT_51 isStr_51 isBool_51 isPtr_51 isU8_51 isIfc_51 ifcT_51 seqT_51 sliceable_51 szOf_52 aggT_52 elemT_52 bytesOf_52 zeroOf_52 arrT_52 isStr_52 isBool_52 isPtr_52 isU8_52 isIfc_52 ifcT_52 seqT_52 sliceable_52 szOf_53 aggT_53 elemT_53 bytesOf_53 zeroOf_53 arrT_53 isStr_53 isBool_53 isPtr_53 isU8_53 isIfc_53 ifcT_53 seqT_53 sliceable_53 szOf_54 aggT_54 elemT_54 bytesOf_54 zeroOf_54 arrT_54 isStr_54 isBool_54 isPtr_54 isU8_54 isIfc_54 ifcT_54 seqT_54 sliceable_54 szOf_55 aggT_55 elemT_55 bytesOf_55 zeroOf_55 arrT_55 isStr_55 isBool_55 isPtr_55 isU8_55 isIfc_55 ifcT_55 seqT_55 sliceable_55 szOf_56 aggT_56 elemT_56 bytesOf_56 zeroOf_56 arrT_56 isStr_56 isBool_56 isPtr_56 isU8_56 isIfc_56 ifcT_56 seqT_56 sliceable_56 szOf_57 aggT_57 elemT_57 bytesOf_57 zeroOf_57 arrT_57 isStr_57 isBool_57 isPtr_57 isU8_57 isIfc_57 ifcT_57 seqT_57 sliceable_57 szOf_58 aggT_58 elemT_58 bytesOf_58 zeroOf_58 arrT_58 isStr_58 isBool_58 isPtr_58 isU8_58 isIfc_58 ifcT_58 seqT_58 sliceable_58 szOf_59 aggT_59 elemT_59 bytesOf_59 zeroOf_59 arrT_59 isStr_59 isBool_59 isPtr_59 isU8_59 isIfc_59 ifcT_59 seqT_59 sliceable_59 szOf_60 aggT_60 elemT_60 bytesOf_60 zeroOf_60 arrT_60 isStr_60 isBool_60 isPtr_60 isU8_60 isIfc_60 ifcT_60 seqT_60 sliceable_60 szOf_61 aggT_61 elemT_61 bytesOf_61 zeroOf_61 arrT_61 isStr_61 isBool_61 isPtr_61 isU8_61 isIfc_61 ifcT_61 seqT_61 sliceable_61 szOf_63 aggT_63 elemT_63 bytesOf_63 zeroOf_63 arrT_63 isStr_63 isBool_63 isPtr_63 isU8_63 isIfc_63 ifcT_63 seqT_63 sliceable_63 szOf_64 aggT_64 elemT_64 bytesOf_64 zeroOf_64 arrT_64 isStr_64 isBool_64 isPtr_64 isU8_64 isIfc_64 ifcT_64 seqT_64 sliceable_64 szOf_65 aggT_65 elemT_65 bytesOf_65 zeroOf_65 arrT_65 isStr_65 isBool_65 isPtr_65 isU8_65 isIfc_65 ifcT_65 seqT_65 sliceable_65 szOf_66 aggT_66 elemT_66 bytesOf_66 zeroOf_66 arrT_66 isStr_66 isBool_66 isPtr_66 isU8_66 isIfc_66 ifcT_66 seqT_66 sliceable_66 szOf_67 aggT_67 elemT_67 bytesOf_67 zeroOf_67 arrT_67 isStr_67 isBool_67 isPtr_67 isU8_67 isIfc_67 ifcT_67 seqT_67 sliceable_67 szOf_68 aggT_68 elemT_68 bytesOf_68 zeroOf_68 arrT_68 isStr_68 isBool_68 isPtr_68 isU8_68 isIfc_68 ifcT_68 seqT_68 sliceable_68 szOf_70 aggT_70 elemT_70 bytesOf_70 zeroOf_70 arrT_70 isStr_70 isBool_70 isPtr_70 isU8_70 isIfc_70 ifcT_70 seqT_70 sliceable_70 szOf_71 aggT_71 elemT_71 bytesOf_71 zeroOf_71 arrT_71 isStr_71 isBool_71 isPtr_71 isU8_71 isIfc_71 ifcT_71 seqT_71 sliceable_71 szOf_72 aggT_72 elemT_72 bytesOf_72 zeroOf_72 arrT_72 isStr_72 isBool_72 isPtr_72 isU8_72 isIfc_72 ifcT_72 seqT_72 sliceable_72 szOf_73 aggT_73 elemT_73 bytesOf_73 zeroOf_73 arrT_73 isStr_73 isBool_73 isPtr_73 isU8_73 isIfc_73 ifcT_73 seqT_73 sliceable_73 szOf_74 aggT_74 elemT_74 bytesOf_74 zeroOf_74 arrT_74 isStr_74 isBool_74 isPtr_74 isU8_74 isIfc_74 ifcT_74 seqT_74 sliceable_74 szOf_75 aggT_75 elemT_75 bytesOf_75 zeroOf_75 arrT_75 isStr_75 isBool_75 isPtr_75 isU8_75 isIfc_75 ifcT_75 seqT_75 sliceable_75 szOf_76 aggT_76 elemT_76 bytesOf_76 zeroOf_76 arrT_76 isStr_76 isBool_76 isPtr_76 isU8_76 isIfc_76 ifcT_76 seqT_76 sliceable_76 szOf_77 aggT_77 elemT_77 bytesOf_77 zeroOf_77 arrT_77 isStr_77 isBool_77 isPtr_77 isU8_77 isIfc_77 ifcT_77 seqT_77 sliceable_77 szOf_78 aggT_78 elemT_78 bytesOf_78 zeroOf_78 arrT_78 isStr_78 isBool_78 isPtr_78 isU8_78 isIfc_78 ifcT_78 seqT_78 sliceable_78 szOf_79 aggT_79 elemT_79 bytesOf_79 zeroOf_79 arrT_79 isStr_79 isBool_79 isPtr_79 isU8_79 isIfc_79 ifcT_79 seqT_79 sliceable_79 szOf_80 aggT_80 elemT_80 bytesOf_80 zeroOf_80 arrT_80 isStr_80 isBool_80 isPtr_80 isU8_80 isIfc_80 ifcT_80 seqT_80 sliceable_80 szOf_81 aggT_81 elemT_81 bytesOf_81 zeroOf_81 arrT_81 isStr_81 isBool_81 isPtr_81 isU8_81 isIfc_81 ifcT_81 seqT_81 sliceable_81 szOf_82 aggT_82 elemT_82 bytesOf_82 zeroOf_82 arrT_82 isStr_82 isBool_82 isPtr_82 isU8_82 isIfc_82 ifcT_82 seqT_82 sliceable_82 szOf_83 aggT_83 elemT_83 bytesOf_83 zeroOf_83 arrT_83 isStr_83 isBool_83 isPtr_83 isU8_83 isIfc_83 ifcT_83 seqT_83 sliceable_83 szOf_84 aggT_84 elemT_84 bytesOf_84 zeroOf_84 arrT_84 isStr_84 isBool_84 isPtr_84 isU8_84 isIfc_84 ifcT_84 seqT_84 sliceable_84 szOf_85 aggT_85 elemT_85 bytesOf_85 zeroOf_85 arrT_85 isStr_85 isBool_85 isPtr_85 isU8_85 isIfc_85 ifcT_85 seqT_85 sliceable_85 szOf_86 aggT_86 elemT_86 bytesOf_86 zeroOf_86 arrT_86 isStr_86 isBool_86 isPtr_86 isU8_86 isIfc_86 ifcT_86 seqT_86 sliceable_86 szOf_88 aggT_88 elemT_88 bytesOf_88 zeroOf_88 arrT_88 isStr_88 isBool_88 isPtr_88 isU8_88 isIfc_88 ifcT_88 seqT_88 sliceable_88 szOf_89 aggT_89 elemT_89 bytesOf_89 zeroOf_89 arrT_89 isStr_89 isBool_89 isPtr_89 isU8_89 isIfc_89 ifcT_89 seqT_89 sliceable_89 szOf_90 aggT_90 elemT_90 bytesOf_90 zeroOf_90 arrT_90 isStr_90 isBool_90 isPtr_90 isU8_90 isIfc_90 ifcT_90 fieldsOk_90 seqT_90 sliceable_90 szOf_91 aggT_91 elemT_91 bytesOf_91 zeroOf_91 arrT_91 isStr_91 isBool_91 isPtr_91 isU8_91 isIfc_91 ifcT_91 fieldsOk_91 seqT_91 sliceable_91 szOf_93 aggT_93 elemT_93 bytesOf_93 zeroOf_93 arrT_93 isStr_93 isBool_93 isPtr_93 isU8_93 isIfc_93 ifcT_93 seqT_93 sliceable_93 szOf_94 aggT_94 elemT_94 bytesOf_94 zeroOf_94 arrT_94 fieldT_94_0 isStr_94 isBool_94 isPtr_94 isU8_94 isIfc_94 ifcT_94 fieldsOk_94 seqT_94 sliceable_94 szOf_95 aggT_95 elemT_95 bytesOf_95 zeroOf_95 arrT_95 fieldT_95_0 isStr_95 isBool_95 isPtr_95 isU8_95 isIfc_95 ifcT_95 fieldsOk_95 seqT_95 sliceable_95 szOf_96 aggT_96 elemT_96 bytesOf_96 zeroOf_96 arrT_96 isStr_96 isBool_96 isPtr_96 isU8_96 isIfc_96 ifcT_96 seqT_96 sliceable_96 szOf_97 aggT_97 elemT_97 bytesOf_97 zeroOf_97 arrT_97 isStr_97 isBool_97 isPtr_97 isU8_97 isIfc_97 ifcT_97 seqT_97 sliceable_97 szOf_98 aggT_98 elemT_98 bytesOf_98 zeroOf_98 arrT_98 isStr_98 isBool_98 isPtr_98 isU8_98 isIfc_98 ifcT_98 seqT_98 sliceable_98 szOf_99 aggT_99 elemT_99 bytesOf_99 zeroOf_99 arrT_99 fieldT_99_0 fieldT_99_1 fieldT_99_2 isStr_99 isBool_99 isPtr_99 isU8_99 isIfc_99 ifcT_99 fieldsOk_99 seqT_99 sliceable_99 szOf_100 aggT_100 elemT_100 bytesOf_100 zeroOf_100 arrT_100 fieldT_100_0 fieldT_100_1 fieldT_100_2 isStr_100 isBool_100 isPtr_100 isU8_100 isIfc_100 ifcT_100 fieldsOk_100 seqT_100 sliceable_100 szOf_102 aggT_102 elemT_102 bytesOf_102 zeroOf_102 arrT_102 isStr_102 isBool_102 isPtr_102 isU8_102 isIfc_102 ifcT_102 seqT_102 sliceable_102 szOf_103 aggT_103 elemT_103 bytesOf_103 zeroOf_103 arrT_103 isStr_103 isBool_103 isPtr_103 isU8_103 isIfc_103 ifcT_103 seqT_103 sliceable_103 szOf_104 aggT_104 elemT_104 bytesOf_104 zeroOf_104 arrT_104 fieldT_104_0 fieldT_104_1 isStr_104 isBool_104 isPtr_104 isU8_104 isIfc_104 ifcT_104 fieldsOk_104 seqT_104 sliceable_104 szOf_105 aggT_105 elemT_105 bytesOf_105 zeroOf_105 arrT_105 fieldT_105_0 fieldT_105_1 isStr_105 isBool_105 isPtr_105 isU8_105 isIfc_105 ifcT_105 fieldsOk_105 seqT_105 sliceable_105 szOf_106 aggT_106 elemT_106 bytesOf_106 zeroOf_106 arrT_106 isStr_106 isBool_106 isPtr_106 isU8_106 isIfc_106 ifcT_106 seqT_106 sliceable_106 szOf_107 aggT_107 elemT_107 bytesOf_107 zeroOf_107 arrT_107 isStr_107 isBool_107 isPtr_107 isU8_107 isIfc_107 ifcT_107 seqT_107 sliceable_107 szOf_108 aggT_108 elemT_108 bytesOf_108 zeroOf_108 arrT_108 isStr_108 isBool_108 isPtr_108 isU8_108 isIfc_108 ifcT_108 seqT_108 sliceable_108 szOf_109 aggT_109 elemT_109 bytesOf_109 zeroOf_109 arrT_109 isStr_109 isBool_109 isPtr_109 isU8_109 isIfc_109 ifcT_109 seqT_109 sliceable_109 szOf_110 aggT_110 elemT_110 bytesOf_110 zeroOf_110 arrT_110 isStr_110 isBool_110 isPtr_110 isU8_110 isIfc_110 ifcT_110 seqT_110 sliceable_110 szOf_111 aggT_111 elemT_111 bytesOf_111 zeroOf_111 arrT_111 isStr_111 isBool_111 isPtr_111 isU8_111 isIfc_111 ifcT_111 seqT_111 sliceable_111 szOf_112 aggT_112 elemT_112 bytesOf_112 zeroOf_112 arrT_112 isStr_112 isBool_112 isPtr_112 isU8_112 isIfc_112 ifcT_112 seqT_112 sliceable_112 szOf_113 aggT_113 elemT_113 bytesOf_113 zeroOf_113 arrT_113 isStr_113 isBool_113 isPtr_113 isU8_113 isIfc_113 ifcT_113 seqT_113 sliceable_113 szOf_114 aggT_114 elemT_114 bytesOf_114 zeroOf_114 arrT_114 isStr_114 isBool_114 isPtr_114 isU8_114 isIfc_114 ifcT_114 seqT_114 sliceable_114 szOf_115 aggT_115 elemT_115 bytesOf_115 zeroOf_115 arrT_115 isStr_115 isBool_115 isPtr_115 isU8_115 isIfc_115 ifcT_115 seqT_115 sliceable_115 szOf_116 aggT_116 elemT_116 bytesOf_116 zeroOf_116 arrT_116 isStr_116 isBool_116 isPtr_116 isU8_116 isIfc_116 ifcT_116 seqT_116 sliceable_116 szOf_117 aggT_117 elemT_117 bytesOf_117 zeroOf_117 arrT_117 isStr_117 isBool_117 isPtr_117 isU8_117 isIfc_117 ifcT_117 seqT_117 sliceable_117 szOf_118 aggT_118 elemT_118 bytesOf_118 zeroOf_118 arrT_118 isStr_118 isBool_118 isPtr_118 isU8_118 isIfc_118 ifcT_118 seqT_118 sliceable_118 szOf_119 aggT_119 elemT_119 bytesOf_119 zeroOf_119 arrT_119 isStr_119 isBool_119 isPtr_119 isU8_119 isIfc_119 ifcT_119 seqT_119 sliceable_119 szOf_120 aggT_120 elemT_120 bytesOf_120 zeroOf_120 arrT_120 isStr_120 isBool_120 isPtr_120 isU8_120 isIfc_120 ifcT_120 seqT_120 sliceable_120 szOf_121 aggT_121 elemT_121 bytesOf_121 zeroOf_121 arrT_121 isStr_121 isBool_121 isPtr_121 isU8_121 isIfc_121 ifcT_121 seqT_121 sliceable_121 szOf_122 aggT_122 elemT_122 bytesOf_122 zeroOf_122 arrT_122 isStr_122 isBool_122 isPtr_122 isU8_122 isIfc_122 ifcT_122 seqT_122 sliceable_122 szOf_123 aggT_123 elemT_123 bytesOf_123 zeroOf_123 arrT_123 isStr_123 isBool_123 isPtr_123 isU8_123 isIfc_123 ifcT_123 seqT_123 sliceable_123 szOf_124 aggT_124 elemT_124 bytesOf_124 zeroOf_124 arrT_124 isStr_124 isBool_124 isPtr_124 isU8_124 isIfc_124 ifcT_124 seqT_124 sliceable_124 szOf_125 aggT_125 elemT_125 bytesOf_125 zeroOf_125 arrT_125 isStr_125 isBool_125 isPtr_125 isU8_125 isIfc_125 ifcT_125 seqT_125 sliceable_125 szOf_126 aggT_126 elemT_126 bytesOf_126 zeroOf_126 arrT_126 isStr_126 isBool_126 isPtr_126 isU8_126 isIfc_126 ifcT_126 seqT_126 sliceable_126 szOf_127 aggT_127 elemT_127 bytesOf_127 zeroOf_127 arrT_127 isStr_127 isBool_127 isPtr_127 isU8_127 isIfc_127 ifcT_127 seqT_127 sliceable_127 szOf_128 aggT_128 elemT_128 bytesOf_128 zeroOf_128 arrT_128 isStr_128 isBool_128 isPtr_128 isU8_128 isIfc_128 ifcT_128 seqT_128 sliceable_128 szOf_129 aggT_129 elemT_129 bytesOf_129 zeroOf_129 arrT_129 isStr_129 isBool_129 isPtr_129 isU8_129 isIfc_129 ifcT_129 seqT_129 sliceable_129 szOf_130 aggT_130 elemT_130 bytesOf_130 zeroOf_130 arrT_130 isStr_130 isBool_130 isPtr_130 isU8_130 isIfc_130 ifcT_130 seqT_130 sliceable_130 szOf_132 aggT_132 elemT_132 bytesOf_132 zeroOf_132 arrT_132 isStr_132 isBool_132 isPtr_132 isU8_132 isIfc_132 ifcT_132 seqT_132 sliceable_132 szOf_133 aggT_133 elemT_133 bytesOf_133 zeroOf_133 arrT_133 isStr_133 isBool_133 isPtr_133 isU8_133 isIfc_133 ifcT_133 seqT_133 sliceable_133 szOf_134 aggT_134 elemT_134 bytesOf_134 zeroOf_134 arrT_134 isStr_134 isBool_134 isPtr_134 isU8_134 isIfc_134 ifcT_134 seqT_134 sliceable_134 szOf_135 aggT_135 elemT_135 bytesOf_135 zeroOf_135 arrT_135 isStr_135 isBool_135 isPtr_135 isU8_135 isIfc_135 ifcT_135 seqT_135 sliceable_135 szOf_137 aggT_137 elemT_137 bytesOf_137 zeroOf_137 arrT_137 isStr_137 isBool_137 isPtr_137 isU8_137 isIfc_137 ifcT_137 seqT_137 sliceable_137 szOf_138 aggT_138 elemT_138 bytesOf_138 zeroOf_138 arrT_138 isStr_138 isBool_138 isPtr_138 isU8_138 isIfc_138 ifcT_138 seqT_138 sliceable_138 szOf_139 aggT_139 elemT_139 bytesOf_139 zeroOf_139 arrT_139 isStr_139 isBool_139 isPtr_139 isU8_139 isIfc_139 ifcT_139 seqT_139 sliceable_139 szOf_140 aggT_140 elemT_140 bytesOf_140 zeroOf_140 arrT_140 isStr_140 isBool_140 isPtr_140 isU8_140 isIfc_140 ifcT_140 seqT_140 sliceable_140 szOf_141 aggT_141 elemT_141 bytesOf_141 zeroOf_141 arrT_141 isStr_141 isBool_141 isPtr_141 isU8_141 isIfc_141 ifcT_141 seqT_141 sliceable_141 szOf_142 aggT_142 elemT_142 bytesOf_142 zeroOf_142 arrT_142 isStr_142 isBool_142 isPtr_142 isU8_142 isIfc_142 ifcT_142 seqT_142 sliceable_142 szOf_143 aggT_143 elemT_143 bytesOf_143 zeroOf_143 arrT_143 fieldT_143_0 fieldT_143_1 isStr_143 isBool_143 isPtr_143 isU8_143 isIfc_143 ifcT_143 fieldsOk_143 seqT_143 sliceable_143 szOf_144 aggT_144 elemT_144 bytesOf_144 zeroOf_144 arrT_144 fieldT_144_0 fieldT_144_1 isStr_144 isBool_144 isPtr_144 isU8_144 isIfc_144 ifcT_144 fieldsOk_144 seqT_144 sliceable_144 szOf_145 aggT_145 elemT_145 bytesOf_145 zeroOf_145 arrT_145 isStr_145 isBool_145 isPtr_145 isU8_145 isIfc_145 ifcT_145 seqT_145 sliceable_145 szOf_146 aggT_146 elemT_146 bytesOf_146 zeroOf_146 arrT_146 isStr_146 isBool_146 isPtr_146 isU8_146 isIfc_146 ifcT_146 seqT_146 sliceable_146 szOf_147 aggT_147 elemT_147 bytesOf_147 zeroOf_147 arrT_147 isStr_147 isBool_147 isPtr_147 isU8_147 isIfc_147 ifcT_147 seqT_147 sliceable_147 szOf_148 aggT_148 elemT_148 bytesOf_148 zeroOf_148 arrT_148 isStr_148 isBool_148 isPtr_148 isU8_148 isIfc_148 ifcT_148 seqT_148 sliceable_148 szOf_149 aggT_149 elemT_149 bytesOf_149 zeroOf_149 arrT_149 fieldT_149_0 fieldT_149_1 isStr_149 isBool_149 isPtr_149 isU8_149 isIfc_149 ifcT_149 fieldsOk_149 seqT_149 sliceable_149 szOf_150 aggT_150 elemT_150 bytesOf_150 zeroOf_150 arrT_150 fieldT_150_0 fieldT_150_1 isStr_150 isBool_150 isPtr_150 isU8_150 isIfc_150 ifcT_150 fieldsOk_150 seqT_150 sliceable_150 szOf_151 aggT_151 elemT_151 bytesOf_151 zeroOf_151 arrT_151 isStr_151 isBool_151 isPtr_151 isU8_151 isIfc_151 ifcT_151 fieldsOk_151 seqT_151 sliceable_151 szOf_152 aggT_152 elemT_152 bytesOf_152 zeroOf_152 arrT_152 isStr_152 isBool_152 isPtr_152 isU8_152 isIfc_152 ifcT_152 seqT_152 sliceable_152 szOf_153 aggT_153 elemT_153 bytesOf_153 zeroOf_153 arrT_153 isStr_153 isBool_153 isPtr_153 isU8_153 isIfc_153 ifcT_153 seqT_153 sliceable_153 szOf_155 aggT_155 elemT_155 bytesOf_155 zeroOf_155 arrT_155 isStr_155 isBool_155 isPtr_155 isU8_155 isIfc_155 ifcT_155 seqT_155 sliceable_155 szOf_156 aggT_156 elemT_156 bytesOf_156 zeroOf_156 arrT_156 isStr_156 isBool_156 isPtr_156 isU8_156 isIfc_156 ifcT_156 seqT_156 sliceable_156 szOf_157 aggT_157 elemT_157 bytesOf_157 arrT_157 isStr_157 isBool_157 isPtr_157 isU8_157 isIfc_157 ifcT_157 fieldsOk_157 seqT_157 sliceable_157 szOf_158 aggT_158 elemT_158 bytesOf_158 arrT_158 isStr_158 isBool_158 isPtr_158 isU8_158 isIfc_158 ifcT_158 fieldsOk_158 seqT_158 sliceable_158 szOf_160 aggT_160 elemT_160 bytesOf_160 zeroOf_160 arrT_160 isStr_160 isBool_160 isPtr_160 isU8_160 isIfc_160 ifcT_160 seqT_160 sliceable_160 szOf_161 aggT_161 elemT_161 bytesOf_161 zeroOf_161 arrT_161 isStr_161 isBool_161 isPtr_161 isU8_161 isIfc_161 ifcT_161 seqT_161 sliceable_161 szOf_162 aggT_162 elemT_162 bytesOf_162 zeroOf_162 arrT_162 isStr_162 isBool_162 isPtr_162 isU8_162 isIfc_162 ifcT_162 seqT_162 sliceable_162 szOf_163 aggT_163 elemT_163 bytesOf_163 zeroOf_163 arrT_163 isStr_163 isBool_163 isPtr_163 isU8_163 isIfc_163 ifcT_163 seqT_163 sliceable_163 szOf_164 aggT_164 elemT_164 bytesOf_164 zeroOf_164 arrT_164 isStr_164 isBool_164 isPtr_164 isU8_164 isIfc_164 ifcT_164 seqT_164 sliceable_164 szOf_165 aggT_165 elemT_165 bytesOf_165 zeroOf_165 arrT_165 isStr_165 isBool_165 isPtr_165 isU8_165 isIfc_165 ifcT_165 seqT_165 sliceable_165 szOf_166 aggT_166 elemT_166 bytesOf_166 zeroOf_166 arrT_166 isStr_166 isBool_166 isPtr_166 isU8_166 isIfc_166 ifcT_166 seqT_166 sliceable_166 szOf_167 aggT_167 elemT_167 bytesOf_167 zeroOf_167 arrT_167 isStr_167 isBool_167 isPtr_167 isU8_167 isIfc_167 ifcT_167 seqT_167 sliceable_167 szOf_168 aggT_168 elemT_168 bytesOf_168 zeroOf_168 arrT_168 isStr_168 isBool_168 isPtr_168 isU8_168 isIfc_168 ifcT_168 seqT_168 sliceable_168 szOf_169 aggT_169 elemT_169 bytesOf_169 zeroOf_169 arrT_169 isStr_169 isBool_169 isPtr_169 isU8_169 isIfc_169 ifcT_169 seqT_169 sliceable_169 szOf_170 aggT_170 elemT_170 bytesOf_170 zeroOf_170 arrT_170 isStr_170 isBool_170 isPtr_170 isU8_170 isIfc_170 ifcT_170 seqT_170 sliceable_170 szOf_171 aggT_171 elemT_171 bytesOf_171 zeroOf_171 arrT_171 isStr_171 isBool_171 isPtr_171 isU8_171 isIfc_171 ifcT_171 seqT_171 sliceable_171 szOf_172 aggT_172 elemT_172 bytesOf_172 zeroOf_172 arrT_172 isStr_172 isBool_172 isPtr_172 isU8_172 isIfc_172 ifcT_172 seqT_172 sliceable_172 szOf_173 aggT_173 elemT_173 bytesOf_173 zeroOf_173 arrT_173 isStr_173 isBool_173 isPtr_173 isU8_173 isIfc_173 ifcT_173 fieldsOk_173 seqT_173 sliceable_173 szOf_174 aggT_174 elemT_174 bytesOf_174 zeroOf_174 arrT_174 isStr_174 isBool_174 isPtr_174 isU8_174 isIfc_174 ifcT_174 seqT_174 sliceable_174 szOf_176 aggT_176 elemT_176 bytesOf_176 zeroOf_176 arrT_176 isStr_176 isBool_176 isPtr_176 isU8_176 isIfc_176 ifcT_176 seqT_176 sliceable_176 szOf_177 aggT_177 elemT_177 bytesOf_177 zeroOf_177 arrT_177 isStr_177 isBool_177 isPtr_177 isU8_177 isIfc_177 ifcT_177 seqT_177 sliceable_177 szOf_179 aggT_179 elemT_179 bytesOf_179 zeroOf_179 arrT_179 isStr_179 isBool_179 isPtr_179 isU8_179 isIfc_179 ifcT_179 seqT_179 sliceable_179 szOf_180 aggT_180 elemT_180 bytesOf_180 zeroOf_180 arrT_180 isStr_180 isBool_180 isPtr_180 isU8_180 isIfc_180 ifcT_180 seqT_180 sliceable_180 szOf_181 aggT_181 elemT_181 bytesOf_181 zeroOf_181 arrT_181 isStr_181 isBool_181 isPtr_181 isU8_181 isIfc_181 ifcT_181 seqT_181 sliceable_181 szOf_182 aggT_182 elemT_182 bytesOf_182 zeroOf_182 arrT_182 isStr_182 isBool_182 isPtr_182 isU8_182 isIfc_182 ifcT_182 seqT_182 sliceable_182 szOf_183 aggT_183 elemT_183 bytesOf_183 zeroOf_183 arrT_183 isStr_183 isBool_183 isPtr_183 isU8_183 isIfc_183 ifcT_183 seqT_183 sliceable_183 szOf_184 aggT_184 elemT_184 bytesOf_184 zeroOf_184 arrT_184 isStr_184 isBool_184 isPtr_184 isU8_184 isIfc_184 ifcT_184 seqT_184 sliceable_184 szOf_185 aggT_185 elemT_185 bytesOf_185 zeroOf_185 arrT_185 isStr_185 isBool_185 isPtr_185 isU8_185 isIfc_185 ifcT_185 seqT_185 sliceable_185 szOf_186 aggT_186 elemT_186 bytesOf_186 zeroOf_186 arrT_186 isStr_186 isBool_186 isPtr_186 isU8_186 isIfc_186 ifcT_186 seqT_186 sliceable_186 szOf_187 aggT_187 elemT_187 bytesOf_187 zeroOf_187 arrT_187 isStr_187 isBool_187 isPtr_187 isU8_187 isIfc_187 ifcT_187 seqT_187 sliceable_187 szOf_188 aggT_188 elemT_188 bytesOf_188 zeroOf_188 arrT_188 isStr_188 isBool_188 isPtr_188 isU8_188 isIfc_188 ifcT_188 seqT_188 sliceable_188 szOf_189 aggT_189 elemT_189 bytesOf_189 zeroOf_189 arrT_189 isStr_189 isBool_189 isPtr_189 isU8_189 isIfc_189 ifcT_189 fieldsOk_189 seqT_189 sliceable_189 szOf_190 aggT_190 elemT_190 bytesOf_190 arrT_190 isStr_190 isBool_190 isPtr_190 isU8_190 isIfc_190 ifcT_190 fieldsOk_190 seqT_190 sliceable_190 szOf_191 aggT_191 elemT_191 bytesOf_191 zeroOf_191 arrT_191 isStr_191 isBool_191 isPtr_191 isU8_191 isIfc_191 ifcT_191 seqT_191 sliceable_191 szOf_193 aggT_193 elemT_193 bytesOf_193 zeroOf_193 arrT_193 isStr_193 isBool_193 isPtr_193 isU8_193 isIfc_193 ifcT_193 seqT_193 sliceable_193 szOf_194 aggT_194 elemT_194 bytesOf_194 zeroOf_194 arrT_194 isStr_194 isBool_194 isPtr_194 isU8_194 isIfc_194 ifcT_194 seqT_194 sliceable_194 szOf_195 aggT_195 elemT_195 bytesOf_195 zeroOf_195 arrT_195 isStr_195 isBool_195 isPtr_195 isU8_195 isIfc_195 ifcT_195 seqT_195 sliceable_195 szOf_196 aggT_196 elemT_196 bytesOf_196 zeroOf_196 arrT_196 isStr_196 isBool_196 isPtr_196 isU8_196 isIfc_196 ifcT_196 seqT_196 sliceable_196 szOf_197 aggT_197 elemT_197 bytesOf_197 zeroOf_197 arrT_197 isStr_197 isBool_197 isPtr_197 isU8_197 isIfc_197 ifcT_197 seqT_197 sliceable_197 szOf_198 aggT_198 elemT_198 bytesOf_198 zeroOf_198 arrT_198 isStr_198 isBool_198 isPtr_198 isU8_198 isIfc_198 ifcT_198 seqT_198 sliceable_198 szOf_199 aggT_199 elemT_199 bytesOf_199 zeroOf_199 arrT_199 isStr_199 isBool_199 isPtr_199 isU8_199 isIfc_199 ifcT_199 seqT_199 sliceable_199 szOf_201 aggT_201 elemT_201 bytesOf_201 zeroOf_201 arrT_201 isStr_201 isBool_201 isPtr_201 isU8_201 isIfc_201 ifcT_201 seqT_201 sliceable_201 szOf_202 aggT_202 elemT_202 bytesOf_202 zeroOf_202 arrT_202 isStr_202 isBool_202 isPtr_202 isU8_202 isIfc_202 ifcT_202 seqT_202 sliceable_202 szOf_203 aggT_203 elemT_203 bytesOf_203 zeroOf_203 arrT_203 fieldT_203_0 fieldT_203_1 fieldT_203_2 isStr_203 isBool_203 isPtr_203 isU8_203 isIfc_203 ifcT_203 fieldsOk_203 seqT_203 sliceable_203 szOf_204 aggT_204 elemT_204 bytesOf_204 zeroOf_204 arrT_204 fieldT_204_0 fieldT_204_1 fieldT_204_2 isStr_204 isBool_204 isPtr_204 isU8_204 isIfc_204 ifcT_204 fieldsOk_204 seqT_204 sliceable_204 szOf_205 aggT_205 elemT_205 bytesOf_205 zeroOf_205 arrT_205 isStr_205 isBool_205 isPtr_205 isU8_205 isIfc_205 ifcT_205 seqT_205 sliceable_205 szOf_206 aggT_206 elemT_206 bytesOf_206 arrT_206 isStr_206 isBool_206 isPtr_206 isU8_206 isIfc_206 ifcT_206 fieldsOk_206 seqT_206 sliceable_206 szOf_207 aggT_207 elemT_207 bytesOf_207 zeroOf_207 arrT_207 fieldT_207_0 fieldT_207_1 isStr_207 isBool_207 isPtr_207 isU8_207 isIfc_207 ifcT_207 fieldsOk_207 seqT_207 sliceable_207 szOf_208 aggT_208 elemT_208 bytesOf_208 zeroOf_208 arrT_208 fieldT_208_0 fieldT_208_1 isStr_208 isBool_208 isPtr_208 isU8_208 isIfc_208 ifcT_208 fieldsOk_208 seqT_208 sliceable_208 szOf_209 aggT_209 elemT_209 bytesOf_209 zeroOf_209 arrT_209 isStr_209 isBool_209 isPtr_209 isU8_209 isIfc_209 ifcT_209 fieldsOk_209 seqT_209 sliceable_209 szOf_210 aggT_210 elemT_210 bytesOf_210 zeroOf_210 arrT_210 isStr_210 isBool_210 isPtr_210 isU8_210 isIfc_210 ifcT_210 seqT_210 sliceable_210 szOf_211 aggT_211 elemT_211 bytesOf_211 zeroOf_211 arrT_211 isStr_211 isBool_211 isPtr_211 isU8_211 isIfc_211 ifcT_211 seqT_211 sliceable_211 szOf_212 aggT_212 elemT_212 bytesOf_212 zeroOf_212 arrT_212 isStr_212 isBool_212 isPtr_212 isU8_212 isIfc_212 ifcT_212 seqT_212 sliceable_212 szOf_213 aggT_213 elemT_213 bytesOf_213 zeroOf_213 arrT_213 isStr_213 isBool_213 isPtr_213 isU8_213 isIfc_213 ifcT_213 seqT_213 sliceable_213 szOf_214 aggT_214 elemT_214 bytesOf_214 zeroOf_214 arrT_214 isStr_214 isBool_214 isPtr_214 isU8_214 isIfc_214 ifcT_214 fieldsOk_214 seqT_214 sliceable_214 szOf_215 aggT_215 elemT_215 bytesOf_215 zeroOf_215 arrT_215 isStr_215 isBool_215 isPtr_215 isU8_215 isIfc_215 ifcT_215 fieldsOk_215 seqT_215 sliceable_215 szOf_216 aggT_216 elemT_216 bytesOf_216 zeroOf_216 arrT_216 isStr_216 isBool_216 isPtr_216 isU8_216 isIfc_216 ifcT_216 seqT_216 sliceable_216 szOf_217 aggT_217 elemT_217 bytesOf_217 zeroOf_217 arrT_217 isStr_217 isBool_217 isPtr_217 isU8_217 isIfc_217 ifcT_217 seqT_217 sliceable_217 szOf_218 aggT_218 elemT_218 bytesOf_218 zeroOf_218 arrT_218 isStr_218 isBool_218 isPtr_218 isU8_218 isIfc_218 ifcT_218 seqT_218 sliceable_218 szOf_219 aggT_219 elemT_219 bytesOf_219 zeroOf_219 arrT_219 fieldT_219_0 isStr_219 isBool_219 isPtr_219 isU8_219 isIfc_219 ifcT_219 fieldsOk_219 seqT_219 sliceable_219 szOf_220 aggT_220 elemT_220 bytesOf_220 zeroOf_220 arrT_220 fieldT_220_0 isStr_220 isBool_220 isPtr_220 isU8_220 isIfc_220 ifcT_220 fieldsOk_220 seqT_220 sliceable_220 szOf_221 aggT_221 elemT_221 bytesOf_221 zeroOf_221 arrT_221 fieldT_221_0 fieldT_221_1 fieldT_221_2 fieldT_221_3 isStr_221 isBool_221 isPtr_221 isU8_221 isIfc_221 ifcT_221 fieldsOk_221 seqT_221 sliceable_221 szOf_222 aggT_222 elemT_222 bytesOf_222 zeroOf_222 arrT_222 fieldT_222_0 fieldT_222_1 fieldT_222_2 fieldT_222_3 isStr_222 isBool_222 isPtr_222 isU8_222 isIfc_222 ifcT_222 fieldsOk_222 seqT_222 sliceable_222 szOf_223 aggT_223 elemT_223 bytesOf_223 zeroOf_223 arrT_223 isStr_223 isBool_223 isPtr_223 isU8_223 isIfc_223 ifcT_223 fieldsOk_223 seqT_223 sliceable_223 szOf_224 aggT_224 elemT_224 bytesOf_224 zeroOf_224 arrT_224 fieldT_224_0 isStr_224 isBool_224 isPtr_224 isU8_224 isIfc_224 ifcT_224 fieldsOk_224 seqT_224 sliceable_224 szOf_225 aggT_225 elemT_225 bytesOf_225 zeroOf_225 arrT_225 fieldT_225_0 isStr_225 isBool_225 isPtr_225 isU8_225 isIfc_225 ifcT_225 fieldsOk_225 seqT_225 sliceable_225 szOf_226 aggT_226 elemT_226 bytesOf_226 zeroOf_226 arrT_226 isStr_226 isBool_226 isPtr_226 isU8_226 isIfc_226 ifcT_226 seqT_226 sliceable_226 szOf_227 aggT_227 elemT_227 bytesOf_227 zeroOf_227 arrT_227 isStr_227 isBool_227 isPtr_227 isU8_227 isIfc_227 ifcT_227 seqT_227 sliceable_227 szOf_228 aggT_228 elemT_228 bytesOf_228 zeroOf_228 arrT_228 isStr_228 isBool_228 isPtr_228 isU8_228 isIfc_228 ifcT_228 seqT_228 sliceable_228 szOf_229 aggT_229 elemT_229 bytesOf_229 zeroOf_229 arrT_229 isStr_229 isBool_229 isPtr_229 isU8_229 isIfc_229 ifcT_229 seqT_229 sliceable_229 szOf_230 aggT_230 elemT_230 bytesOf_230 zeroOf_230 arrT_230 isStr_230 isBool_230 isPtr_230 isU8_230 isIfc_230 ifcT_230 seqT_230 sliceable_230 szOf_231 aggT_231 elemT_231 bytesOf_231 zeroOf_231 arrT_231 fieldT_231_0 fieldT_231_1 fieldT_231_2 fieldT_231_3 fieldT_231_4 fieldT_231_5 fieldT_231_6 fieldT_231_7 fieldT_231_8 fieldT_231_9 fieldT_231_10 isStr_231 isBool_231 isPtr_231 isU8_231 isIfc_231 ifcT_231 fieldsOk_231 seqT_231 sliceable_231 szOf_232 aggT_232 elemT_232 bytesOf_232 zeroOf_232 arrT_232 fieldT_232_0 fieldT_232_1 fieldT_232_2 fieldT_232_3 fieldT_232_4 fieldT_232_5 fieldT_232_6 fieldT_232_7 fieldT_232_8 fieldT_232_9 fieldT_232_10 isStr_232 isBool_232 isPtr_232 isU8_232 isIfc_232 ifcT_232 fieldsOk_232 seqT_232 sliceable_232 szOf_233 aggT_233 elemT_233 bytesOf_233 zeroOf_233 arrT_233 isStr_233 isBool_233 isPtr_233 isU8_233 isIfc_233 ifcT_233 seqT_233 sliceable_233
attribute [simp] Tryz.underlying2 Tryz.underlying3 Tryz.underlying4 Tryz.underlying5 Tryz.underlying6 Tryz.underlying7 Tryz.underlying8 Tryz.underlying9 Tryz.underlying10 Tryz.underlying11 Tryz.underlying12 Tryz.underlying13 Tryz.underlying14 Tryz.underlying15 Tryz.underlying16 Tryz.underlying17 Tryz.underlying18 Tryz.underlying19 Tryz.underlying20 Tryz.underlying21 Tryz.underlying22 Tryz.underlying23 Tryz.underlying24 Tryz.underlying25 Tryz.underlying26 Tryz.underlying27 Tryz.underlying28 Tryz.underlying31 Tryz.underlying39 Tryz.underlying66 Tryz.underlying90 Tryz.underlying91 Tryz.underlying93 Tryz.underlying94 Tryz.underlying95 Tryz.underlying98 Tryz.underlying99 Tryz.underlying100 Tryz.underlying103 Tryz.underlying104 Tryz.underlying105 Tryz.underlying110 Tryz.underlying115 Tryz.underlying128 Tryz.underlying130 Tryz.underlying139 Tryz.underlying141 Tryz.underlying142 Tryz.underlying143 Tryz.underlying144 Tryz.underlying149 Tryz.underlying150 Tryz.underlying151 Tryz.underlying152 Tryz.underlying153 Tryz.underlying157 Tryz.underlying158 Tryz.underlying162 Tryz.underlying167 Tryz.underlying173 Tryz.underlying181 Tryz.underlying189 Tryz.underlying190 Tryz.underlying191 Tryz.underlying194 Tryz.underlying203 Tryz.underlying204 Tryz.underlying206 Tryz.underlying207 Tryz.underlying208 Tryz.underlying209 Tryz.underlying214 Tryz.underlying215 Tryz.underlying217 Tryz.underlying218 Tryz.underlying219 Tryz.underlying220 Tryz.underlying221 Tryz.underlying222 Tryz.underlying223 Tryz.underlying224 Tryz.underlying225 Tryz.underlying226 Tryz.underlying227 Tryz.underlying229 Tryz.underlying230 Tryz.underlying231 Tryz.underlying232 Tryz.underlying233
end AE
end Go.Proofs.YthoomlenmgdebaaGreatDoor
