/- Printed by wip/types.py: what the evaluator asks of each type. -/
import Derived.Test.YtbgppidldpepaaaDoorAE1
namespace Go.Proofs.YtbgppidldpepaaaDoor
namespace AE
open Go
theorem szOf_1 : szOf Tryd.prog 1 = 1 := by kernel_rfl
theorem aggT_1 : aggT Tryd.prog 1 = some false := by kernel_rfl
theorem elemT_1 : elemT Tryd.prog 1 = none := by kernel_rfl
theorem bytesOf_1 : bytesOf Tryd.prog 1 = some 8 := by kernel_rfl
theorem zeroOf_1 : zeroOf Tryd.prog 1 = some [A.nilf] := by kernel_rfl
theorem arrT_1 : arrT Tryd.prog 1 = none := by kernel_rfl
theorem isStr_1 : isStr Tryd.prog 1 = false := by kernel_rfl
theorem isBool_1 : isBool Tryd.prog 1 = false := by kernel_rfl
theorem isPtr_1 : isPtr Tryd.prog 1 = false := by kernel_rfl
theorem isU8_1 : isU8 Tryd.prog 1 = false := by kernel_rfl
theorem isIfc_1 : isIfc Tryd.prog 1 = false := by kernel_rfl
theorem ifcT_1 : ifcT Tryd.prog 1 = false := by kernel_rfl
theorem seqT_1 : seqT Tryd.prog 1 = false := by kernel_rfl
theorem sliceable_1 : sliceable Tryd.prog 1 = false := by kernel_rfl
theorem szOf_2 : szOf Tryd.prog 2 = 1 := by kernel_rfl
theorem aggT_2 : aggT Tryd.prog 2 = some false := by kernel_rfl
theorem elemT_2 : elemT Tryd.prog 2 = none := by kernel_rfl
theorem bytesOf_2 : bytesOf Tryd.prog 2 = some 8 := by kernel_rfl
theorem zeroOf_2 : zeroOf Tryd.prog 2 = some [A.int .i64 0] := by kernel_rfl
theorem arrT_2 : arrT Tryd.prog 2 = none := by kernel_rfl
theorem isStr_2 : isStr Tryd.prog 2 = false := by kernel_rfl
theorem isBool_2 : isBool Tryd.prog 2 = false := by kernel_rfl
theorem isPtr_2 : isPtr Tryd.prog 2 = false := by kernel_rfl
theorem isU8_2 : isU8 Tryd.prog 2 = false := by kernel_rfl
theorem isIfc_2 : isIfc Tryd.prog 2 = false := by kernel_rfl
theorem ifcT_2 : ifcT Tryd.prog 2 = false := by kernel_rfl
theorem seqT_2 : seqT Tryd.prog 2 = false := by kernel_rfl
theorem sliceable_2 : sliceable Tryd.prog 2 = false := by kernel_rfl
theorem szOf_3 : szOf Tryd.prog 3 = 1 := by kernel_rfl
theorem aggT_3 : aggT Tryd.prog 3 = some false := by kernel_rfl
theorem elemT_3 : elemT Tryd.prog 3 = none := by kernel_rfl
theorem bytesOf_3 : bytesOf Tryd.prog 3 = some 8 := by kernel_rfl
theorem zeroOf_3 : zeroOf Tryd.prog 3 = some [A.int .i64 0] := by kernel_rfl
theorem arrT_3 : arrT Tryd.prog 3 = none := by kernel_rfl
theorem isStr_3 : isStr Tryd.prog 3 = false := by kernel_rfl
theorem isBool_3 : isBool Tryd.prog 3 = false := by kernel_rfl
theorem isPtr_3 : isPtr Tryd.prog 3 = false := by kernel_rfl
theorem isU8_3 : isU8 Tryd.prog 3 = false := by kernel_rfl
theorem isIfc_3 : isIfc Tryd.prog 3 = false := by kernel_rfl
theorem ifcT_3 : ifcT Tryd.prog 3 = false := by kernel_rfl
theorem seqT_3 : seqT Tryd.prog 3 = false := by kernel_rfl
theorem sliceable_3 : sliceable Tryd.prog 3 = false := by kernel_rfl
theorem szOf_4 : szOf Tryd.prog 4 = 1 := by kernel_rfl
theorem aggT_4 : aggT Tryd.prog 4 = some false := by kernel_rfl
theorem elemT_4 : elemT Tryd.prog 4 = none := by kernel_rfl
theorem bytesOf_4 : bytesOf Tryd.prog 4 = some 1 := by kernel_rfl
theorem zeroOf_4 : zeroOf Tryd.prog 4 = some [A.bool false] := by kernel_rfl
theorem arrT_4 : arrT Tryd.prog 4 = none := by kernel_rfl
theorem isStr_4 : isStr Tryd.prog 4 = false := by kernel_rfl
theorem isBool_4 : isBool Tryd.prog 4 = true := by kernel_rfl
theorem isPtr_4 : isPtr Tryd.prog 4 = false := by kernel_rfl
theorem isU8_4 : isU8 Tryd.prog 4 = false := by kernel_rfl
theorem isIfc_4 : isIfc Tryd.prog 4 = false := by kernel_rfl
theorem ifcT_4 : ifcT Tryd.prog 4 = false := by kernel_rfl
theorem seqT_4 : seqT Tryd.prog 4 = false := by kernel_rfl
theorem sliceable_4 : sliceable Tryd.prog 4 = false := by kernel_rfl
theorem szOf_5 : szOf Tryd.prog 5 = 1 := by kernel_rfl
theorem aggT_5 : aggT Tryd.prog 5 = some false := by kernel_rfl
theorem elemT_5 : elemT Tryd.prog 5 = none := by kernel_rfl
theorem bytesOf_5 : bytesOf Tryd.prog 5 = some 1 := by kernel_rfl
theorem zeroOf_5 : zeroOf Tryd.prog 5 = some [A.int .u8 0] := by kernel_rfl
theorem arrT_5 : arrT Tryd.prog 5 = none := by kernel_rfl
theorem isStr_5 : isStr Tryd.prog 5 = false := by kernel_rfl
theorem isBool_5 : isBool Tryd.prog 5 = false := by kernel_rfl
theorem isPtr_5 : isPtr Tryd.prog 5 = false := by kernel_rfl
theorem isU8_5 : isU8 Tryd.prog 5 = true := by kernel_rfl
theorem isIfc_5 : isIfc Tryd.prog 5 = false := by kernel_rfl
theorem ifcT_5 : ifcT Tryd.prog 5 = false := by kernel_rfl
theorem seqT_5 : seqT Tryd.prog 5 = false := by kernel_rfl
theorem sliceable_5 : sliceable Tryd.prog 5 = false := by kernel_rfl
theorem szOf_6 : szOf Tryd.prog 6 = 1 := by kernel_rfl
theorem aggT_6 : aggT Tryd.prog 6 = some false := by kernel_rfl
theorem elemT_6 : elemT Tryd.prog 6 = none := by kernel_rfl
theorem bytesOf_6 : bytesOf Tryd.prog 6 = some 1 := by kernel_rfl
theorem zeroOf_6 : zeroOf Tryd.prog 6 = some [A.int .u8 0] := by kernel_rfl
theorem arrT_6 : arrT Tryd.prog 6 = none := by kernel_rfl
theorem isStr_6 : isStr Tryd.prog 6 = false := by kernel_rfl
theorem isBool_6 : isBool Tryd.prog 6 = false := by kernel_rfl
theorem isPtr_6 : isPtr Tryd.prog 6 = false := by kernel_rfl
theorem isU8_6 : isU8 Tryd.prog 6 = true := by kernel_rfl
theorem isIfc_6 : isIfc Tryd.prog 6 = false := by kernel_rfl
theorem ifcT_6 : ifcT Tryd.prog 6 = false := by kernel_rfl
theorem seqT_6 : seqT Tryd.prog 6 = false := by kernel_rfl
theorem sliceable_6 : sliceable Tryd.prog 6 = false := by kernel_rfl
theorem szOf_7 : szOf Tryd.prog 7 = 4 := by kernel_rfl
theorem aggT_7 : aggT Tryd.prog 7 = some true := by kernel_rfl
theorem elemT_7 : elemT Tryd.prog 7 = none := by kernel_rfl
theorem bytesOf_7 : bytesOf Tryd.prog 7 = some 24 := by kernel_rfl
theorem zeroOf_7 : zeroOf Tryd.prog 7 = some [A.int .i64 0, A.int .i64 0, A.bool false, A.int .u8 0] := by kernel_rfl
theorem arrT_7 : arrT Tryd.prog 7 = none := by kernel_rfl
theorem fieldT_7_0 : fieldT Tryd.prog 7 0 = some (0, 2) := by kernel_rfl
theorem fieldT_7_1 : fieldT Tryd.prog 7 1 = some (1, 3) := by kernel_rfl
theorem fieldT_7_2 : fieldT Tryd.prog 7 2 = some (2, 4) := by kernel_rfl
theorem fieldT_7_3 : fieldT Tryd.prog 7 3 = some (3, 6) := by kernel_rfl
theorem isStr_7 : isStr Tryd.prog 7 = false := by kernel_rfl
theorem isBool_7 : isBool Tryd.prog 7 = false := by kernel_rfl
theorem isPtr_7 : isPtr Tryd.prog 7 = false := by kernel_rfl
theorem isU8_7 : isU8 Tryd.prog 7 = false := by kernel_rfl
theorem isIfc_7 : isIfc Tryd.prog 7 = false := by kernel_rfl
theorem ifcT_7 : ifcT Tryd.prog 7 = false := by kernel_rfl
theorem fieldsOk_7 : fieldsOk Tryd.prog 7 = true := by kernel_rfl
theorem seqT_7 : seqT Tryd.prog 7 = false := by kernel_rfl
theorem sliceable_7 : sliceable Tryd.prog 7 = false := by kernel_rfl
theorem szOf_8 : szOf Tryd.prog 8 = 4 := by kernel_rfl
theorem aggT_8 : aggT Tryd.prog 8 = some true := by kernel_rfl
theorem elemT_8 : elemT Tryd.prog 8 = none := by kernel_rfl
theorem bytesOf_8 : bytesOf Tryd.prog 8 = some 24 := by kernel_rfl
theorem zeroOf_8 : zeroOf Tryd.prog 8 = some [A.int .i64 0, A.int .i64 0, A.bool false, A.int .u8 0] := by kernel_rfl
theorem arrT_8 : arrT Tryd.prog 8 = none := by kernel_rfl
theorem fieldT_8_0 : fieldT Tryd.prog 8 0 = some (0, 2) := by kernel_rfl
theorem fieldT_8_1 : fieldT Tryd.prog 8 1 = some (1, 3) := by kernel_rfl
theorem fieldT_8_2 : fieldT Tryd.prog 8 2 = some (2, 4) := by kernel_rfl
theorem fieldT_8_3 : fieldT Tryd.prog 8 3 = some (3, 6) := by kernel_rfl
theorem isStr_8 : isStr Tryd.prog 8 = false := by kernel_rfl
theorem isBool_8 : isBool Tryd.prog 8 = false := by kernel_rfl
theorem isPtr_8 : isPtr Tryd.prog 8 = false := by kernel_rfl
theorem isU8_8 : isU8 Tryd.prog 8 = false := by kernel_rfl
theorem isIfc_8 : isIfc Tryd.prog 8 = false := by kernel_rfl
theorem ifcT_8 : ifcT Tryd.prog 8 = false := by kernel_rfl
theorem fieldsOk_8 : fieldsOk Tryd.prog 8 = true := by kernel_rfl
theorem seqT_8 : seqT Tryd.prog 8 = false := by kernel_rfl
theorem sliceable_8 : sliceable Tryd.prog 8 = false := by kernel_rfl
theorem szOf_9 : szOf Tryd.prog 9 = 1 := by kernel_rfl
theorem aggT_9 : aggT Tryd.prog 9 = some false := by kernel_rfl
theorem elemT_9 : elemT Tryd.prog 9 = none := by kernel_rfl
theorem bytesOf_9 : bytesOf Tryd.prog 9 = some 16 := by kernel_rfl
theorem zeroOf_9 : zeroOf Tryd.prog 9 = some [A.str []] := by kernel_rfl
theorem arrT_9 : arrT Tryd.prog 9 = none := by kernel_rfl
theorem isStr_9 : isStr Tryd.prog 9 = true := by kernel_rfl
theorem isBool_9 : isBool Tryd.prog 9 = false := by kernel_rfl
theorem isPtr_9 : isPtr Tryd.prog 9 = false := by kernel_rfl
theorem isU8_9 : isU8 Tryd.prog 9 = false := by kernel_rfl
theorem isIfc_9 : isIfc Tryd.prog 9 = false := by kernel_rfl
theorem ifcT_9 : ifcT Tryd.prog 9 = false := by kernel_rfl
theorem seqT_9 : seqT Tryd.prog 9 = true := by kernel_rfl
theorem sliceable_9 : sliceable Tryd.prog 9 = true := by kernel_rfl
theorem szOf_10 : szOf Tryd.prog 10 = 1 := by kernel_rfl
theorem aggT_10 : aggT Tryd.prog 10 = some false := by kernel_rfl
theorem elemT_10 : elemT Tryd.prog 10 = none := by kernel_rfl
theorem bytesOf_10 : bytesOf Tryd.prog 10 = some 16 := by kernel_rfl
theorem zeroOf_10 : zeroOf Tryd.prog 10 = some [A.str []] := by kernel_rfl
theorem arrT_10 : arrT Tryd.prog 10 = none := by kernel_rfl
theorem isStr_10 : isStr Tryd.prog 10 = true := by kernel_rfl
theorem isBool_10 : isBool Tryd.prog 10 = false := by kernel_rfl
theorem isPtr_10 : isPtr Tryd.prog 10 = false := by kernel_rfl
theorem isU8_10 : isU8 Tryd.prog 10 = false := by kernel_rfl
theorem isIfc_10 : isIfc Tryd.prog 10 = false := by kernel_rfl
theorem ifcT_10 : ifcT Tryd.prog 10 = false := by kernel_rfl
theorem seqT_10 : seqT Tryd.prog 10 = true := by kernel_rfl
theorem sliceable_10 : sliceable Tryd.prog 10 = true := by kernel_rfl
theorem szOf_11 : szOf Tryd.prog 11 = 1 := by kernel_rfl
theorem aggT_11 : aggT Tryd.prog 11 = some false := by kernel_rfl
theorem elemT_11 : elemT Tryd.prog 11 = none := by kernel_rfl
theorem bytesOf_11 : bytesOf Tryd.prog 11 = some 16 := by kernel_rfl
theorem zeroOf_11 : zeroOf Tryd.prog 11 = some [A.str []] := by kernel_rfl
theorem arrT_11 : arrT Tryd.prog 11 = none := by kernel_rfl
theorem isStr_11 : isStr Tryd.prog 11 = true := by kernel_rfl
theorem isBool_11 : isBool Tryd.prog 11 = false := by kernel_rfl
theorem isPtr_11 : isPtr Tryd.prog 11 = false := by kernel_rfl
theorem isU8_11 : isU8 Tryd.prog 11 = false := by kernel_rfl
theorem isIfc_11 : isIfc Tryd.prog 11 = false := by kernel_rfl
theorem ifcT_11 : ifcT Tryd.prog 11 = false := by kernel_rfl
theorem seqT_11 : seqT Tryd.prog 11 = true := by kernel_rfl
theorem sliceable_11 : sliceable Tryd.prog 11 = true := by kernel_rfl
theorem szOf_12 : szOf Tryd.prog 12 = 1 := by kernel_rfl
theorem aggT_12 : aggT Tryd.prog 12 = some false := by kernel_rfl
theorem elemT_12 : elemT Tryd.prog 12 = none := by kernel_rfl
theorem bytesOf_12 : bytesOf Tryd.prog 12 = some 8 := by kernel_rfl
theorem zeroOf_12 : zeroOf Tryd.prog 12 = some [A.int .u64 0] := by kernel_rfl
theorem arrT_12 : arrT Tryd.prog 12 = none := by kernel_rfl
theorem isStr_12 : isStr Tryd.prog 12 = false := by kernel_rfl
theorem isBool_12 : isBool Tryd.prog 12 = false := by kernel_rfl
theorem isPtr_12 : isPtr Tryd.prog 12 = false := by kernel_rfl
theorem isU8_12 : isU8 Tryd.prog 12 = false := by kernel_rfl
theorem isIfc_12 : isIfc Tryd.prog 12 = false := by kernel_rfl
theorem ifcT_12 : ifcT Tryd.prog 12 = false := by kernel_rfl
theorem seqT_12 : seqT Tryd.prog 12 = false := by kernel_rfl
theorem sliceable_12 : sliceable Tryd.prog 12 = false := by kernel_rfl
theorem szOf_13 : szOf Tryd.prog 13 = 2 := by kernel_rfl
theorem aggT_13 : aggT Tryd.prog 13 = some true := by kernel_rfl
theorem elemT_13 : elemT Tryd.prog 13 = none := by kernel_rfl
theorem bytesOf_13 : bytesOf Tryd.prog 13 = some 24 := by kernel_rfl
theorem zeroOf_13 : zeroOf Tryd.prog 13 = some [A.str [], A.int .u64 0] := by kernel_rfl
theorem arrT_13 : arrT Tryd.prog 13 = none := by kernel_rfl
theorem fieldT_13_0 : fieldT Tryd.prog 13 0 = some (0, 9) := by kernel_rfl
theorem fieldT_13_1 : fieldT Tryd.prog 13 1 = some (1, 12) := by kernel_rfl
theorem isStr_13 : isStr Tryd.prog 13 = false := by kernel_rfl
theorem isBool_13 : isBool Tryd.prog 13 = false := by kernel_rfl
theorem isPtr_13 : isPtr Tryd.prog 13 = false := by kernel_rfl
theorem isU8_13 : isU8 Tryd.prog 13 = false := by kernel_rfl
theorem isIfc_13 : isIfc Tryd.prog 13 = false := by kernel_rfl
theorem ifcT_13 : ifcT Tryd.prog 13 = false := by kernel_rfl
theorem fieldsOk_13 : fieldsOk Tryd.prog 13 = true := by kernel_rfl
theorem seqT_13 : seqT Tryd.prog 13 = false := by kernel_rfl
theorem sliceable_13 : sliceable Tryd.prog 13 = false := by kernel_rfl
theorem szOf_14 : szOf Tryd.prog 14 = 2 := by kernel_rfl
theorem aggT_14 : aggT Tryd.prog 14 = some true := by kernel_rfl
theorem elemT_14 : elemT Tryd.prog 14 = none := by kernel_rfl
theorem bytesOf_14 : bytesOf Tryd.prog 14 = some 24 := by kernel_rfl
theorem zeroOf_14 : zeroOf Tryd.prog 14 = some [A.str [], A.int .u64 0] := by kernel_rfl
theorem arrT_14 : arrT Tryd.prog 14 = none := by kernel_rfl
theorem fieldT_14_0 : fieldT Tryd.prog 14 0 = some (0, 9) := by kernel_rfl
theorem fieldT_14_1 : fieldT Tryd.prog 14 1 = some (1, 12) := by kernel_rfl
theorem isStr_14 : isStr Tryd.prog 14 = false := by kernel_rfl
theorem isBool_14 : isBool Tryd.prog 14 = false := by kernel_rfl
theorem isPtr_14 : isPtr Tryd.prog 14 = false := by kernel_rfl
theorem isU8_14 : isU8 Tryd.prog 14 = false := by kernel_rfl
theorem isIfc_14 : isIfc Tryd.prog 14 = false := by kernel_rfl
theorem ifcT_14 : ifcT Tryd.prog 14 = false := by kernel_rfl
theorem fieldsOk_14 : fieldsOk Tryd.prog 14 = true := by kernel_rfl
theorem seqT_14 : seqT Tryd.prog 14 = false := by kernel_rfl
theorem sliceable_14 : sliceable Tryd.prog 14 = false := by kernel_rfl
theorem szOf_15 : szOf Tryd.prog 15 = 1 := by kernel_rfl
theorem aggT_15 : aggT Tryd.prog 15 = some false := by kernel_rfl
theorem elemT_15 : elemT Tryd.prog 15 = none := by kernel_rfl
theorem bytesOf_15 : bytesOf Tryd.prog 15 = some 8 := by kernel_rfl
theorem zeroOf_15 : zeroOf Tryd.prog 15 = some [A.nilp] := by kernel_rfl
theorem arrT_15 : arrT Tryd.prog 15 = none := by kernel_rfl
theorem isStr_15 : isStr Tryd.prog 15 = false := by kernel_rfl
theorem isBool_15 : isBool Tryd.prog 15 = false := by kernel_rfl
theorem isPtr_15 : isPtr Tryd.prog 15 = true := by kernel_rfl
theorem isU8_15 : isU8 Tryd.prog 15 = false := by kernel_rfl
theorem isIfc_15 : isIfc Tryd.prog 15 = false := by kernel_rfl
theorem ifcT_15 : ifcT Tryd.prog 15 = false := by kernel_rfl
theorem seqT_15 : seqT Tryd.prog 15 = false := by kernel_rfl
theorem sliceable_15 : sliceable Tryd.prog 15 = false := by kernel_rfl
theorem szOf_16 : szOf Tryd.prog 16 = 1 := by kernel_rfl
theorem aggT_16 : aggT Tryd.prog 16 = some false := by kernel_rfl
theorem elemT_16 : elemT Tryd.prog 16 = none := by kernel_rfl
theorem bytesOf_16 : bytesOf Tryd.prog 16 = some 8 := by kernel_rfl
theorem zeroOf_16 : zeroOf Tryd.prog 16 = some [A.nilp] := by kernel_rfl
theorem arrT_16 : arrT Tryd.prog 16 = none := by kernel_rfl
theorem isStr_16 : isStr Tryd.prog 16 = false := by kernel_rfl
theorem isBool_16 : isBool Tryd.prog 16 = false := by kernel_rfl
theorem isPtr_16 : isPtr Tryd.prog 16 = true := by kernel_rfl
theorem isU8_16 : isU8 Tryd.prog 16 = false := by kernel_rfl
theorem isIfc_16 : isIfc Tryd.prog 16 = false := by kernel_rfl
theorem ifcT_16 : ifcT Tryd.prog 16 = false := by kernel_rfl
theorem seqT_16 : seqT Tryd.prog 16 = false := by kernel_rfl
theorem sliceable_16 : sliceable Tryd.prog 16 = false := by kernel_rfl
theorem szOf_17 : szOf Tryd.prog 17 = 1 := by kernel_rfl
theorem aggT_17 : aggT Tryd.prog 17 = some false := by kernel_rfl
theorem elemT_17 : elemT Tryd.prog 17 = none := by kernel_rfl
theorem bytesOf_17 : bytesOf Tryd.prog 17 = some 8 := by kernel_rfl
theorem zeroOf_17 : zeroOf Tryd.prog 17 = some [A.nilp] := by kernel_rfl
theorem arrT_17 : arrT Tryd.prog 17 = none := by kernel_rfl
theorem isStr_17 : isStr Tryd.prog 17 = false := by kernel_rfl
theorem isBool_17 : isBool Tryd.prog 17 = false := by kernel_rfl
theorem isPtr_17 : isPtr Tryd.prog 17 = true := by kernel_rfl
theorem isU8_17 : isU8 Tryd.prog 17 = false := by kernel_rfl
theorem isIfc_17 : isIfc Tryd.prog 17 = false := by kernel_rfl
theorem ifcT_17 : ifcT Tryd.prog 17 = false := by kernel_rfl
theorem seqT_17 : seqT Tryd.prog 17 = false := by kernel_rfl
theorem sliceable_17 : sliceable Tryd.prog 17 = false := by kernel_rfl
theorem szOf_18 : szOf Tryd.prog 18 = 1 := by kernel_rfl
theorem aggT_18 : aggT Tryd.prog 18 = some true := by kernel_rfl
theorem elemT_18 : elemT Tryd.prog 18 = none := by kernel_rfl
theorem bytesOf_18 : bytesOf Tryd.prog 18 = some 8 := by kernel_rfl
theorem zeroOf_18 : zeroOf Tryd.prog 18 = some [A.nilp] := by kernel_rfl
theorem arrT_18 : arrT Tryd.prog 18 = none := by kernel_rfl
theorem fieldT_18_0 : fieldT Tryd.prog 18 0 = some (0, 17) := by kernel_rfl
theorem isStr_18 : isStr Tryd.prog 18 = false := by kernel_rfl
theorem isBool_18 : isBool Tryd.prog 18 = false := by kernel_rfl
theorem isPtr_18 : isPtr Tryd.prog 18 = false := by kernel_rfl
theorem isU8_18 : isU8 Tryd.prog 18 = false := by kernel_rfl
theorem isIfc_18 : isIfc Tryd.prog 18 = false := by kernel_rfl
theorem ifcT_18 : ifcT Tryd.prog 18 = false := by kernel_rfl
theorem fieldsOk_18 : fieldsOk Tryd.prog 18 = true := by kernel_rfl
theorem seqT_18 : seqT Tryd.prog 18 = false := by kernel_rfl
theorem sliceable_18 : sliceable Tryd.prog 18 = false := by kernel_rfl
theorem szOf_19 : szOf Tryd.prog 19 = 1 := by kernel_rfl
theorem aggT_19 : aggT Tryd.prog 19 = some true := by kernel_rfl
theorem elemT_19 : elemT Tryd.prog 19 = none := by kernel_rfl
theorem bytesOf_19 : bytesOf Tryd.prog 19 = some 8 := by kernel_rfl
theorem zeroOf_19 : zeroOf Tryd.prog 19 = some [A.nilp] := by kernel_rfl
theorem arrT_19 : arrT Tryd.prog 19 = none := by kernel_rfl
theorem fieldT_19_0 : fieldT Tryd.prog 19 0 = some (0, 17) := by kernel_rfl
theorem isStr_19 : isStr Tryd.prog 19 = false := by kernel_rfl
theorem isBool_19 : isBool Tryd.prog 19 = false := by kernel_rfl
theorem isPtr_19 : isPtr Tryd.prog 19 = false := by kernel_rfl
theorem isU8_19 : isU8 Tryd.prog 19 = false := by kernel_rfl
theorem isIfc_19 : isIfc Tryd.prog 19 = false := by kernel_rfl
theorem ifcT_19 : ifcT Tryd.prog 19 = false := by kernel_rfl
theorem fieldsOk_19 : fieldsOk Tryd.prog 19 = true := by kernel_rfl
theorem seqT_19 : seqT Tryd.prog 19 = false := by kernel_rfl
theorem sliceable_19 : sliceable Tryd.prog 19 = false := by kernel_rfl
theorem szOf_20 : szOf Tryd.prog 20 = 1 := by kernel_rfl
theorem aggT_20 : aggT Tryd.prog 20 = some false := by kernel_rfl
theorem elemT_20 : elemT Tryd.prog 20 = none := by kernel_rfl
theorem bytesOf_20 : bytesOf Tryd.prog 20 = some 16 := by kernel_rfl
theorem zeroOf_20 : zeroOf Tryd.prog 20 = some [A.nili] := by kernel_rfl
theorem arrT_20 : arrT Tryd.prog 20 = none := by kernel_rfl
theorem isStr_20 : isStr Tryd.prog 20 = false := by kernel_rfl
theorem isBool_20 : isBool Tryd.prog 20 = false := by kernel_rfl
theorem isPtr_20 : isPtr Tryd.prog 20 = false := by kernel_rfl
theorem isU8_20 : isU8 Tryd.prog 20 = false := by kernel_rfl
theorem isIfc_20 : isIfc Tryd.prog 20 = true := by kernel_rfl
theorem ifcT_20 : ifcT Tryd.prog 20 = true := by kernel_rfl
theorem seqT_20 : seqT Tryd.prog 20 = false := by kernel_rfl
theorem sliceable_20 : sliceable Tryd.prog 20 = false := by kernel_rfl
theorem szOf_21 : szOf Tryd.prog 21 = 1 := by kernel_rfl
theorem aggT_21 : aggT Tryd.prog 21 = some false := by kernel_rfl
theorem elemT_21 : elemT Tryd.prog 21 = none := by kernel_rfl
theorem bytesOf_21 : bytesOf Tryd.prog 21 = some 4 := by kernel_rfl
theorem zeroOf_21 : zeroOf Tryd.prog 21 = some [A.int .i32 0] := by kernel_rfl
theorem arrT_21 : arrT Tryd.prog 21 = none := by kernel_rfl
theorem isStr_21 : isStr Tryd.prog 21 = false := by kernel_rfl
theorem isBool_21 : isBool Tryd.prog 21 = false := by kernel_rfl
theorem isPtr_21 : isPtr Tryd.prog 21 = false := by kernel_rfl
theorem isU8_21 : isU8 Tryd.prog 21 = false := by kernel_rfl
theorem isIfc_21 : isIfc Tryd.prog 21 = false := by kernel_rfl
theorem ifcT_21 : ifcT Tryd.prog 21 = false := by kernel_rfl
theorem seqT_21 : seqT Tryd.prog 21 = false := by kernel_rfl
theorem sliceable_21 : sliceable Tryd.prog 21 = false := by kernel_rfl
theorem szOf_22 : szOf Tryd.prog 22 = 1 := by kernel_rfl
theorem aggT_22 : aggT Tryd.prog 22 = some false := by kernel_rfl
theorem elemT_22 : elemT Tryd.prog 22 = some 24 := by kernel_rfl
theorem bytesOf_22 : bytesOf Tryd.prog 22 = some 24 := by kernel_rfl
theorem zeroOf_22 : zeroOf Tryd.prog 22 = some [A.nils] := by kernel_rfl
theorem arrT_22 : arrT Tryd.prog 22 = none := by kernel_rfl
theorem isStr_22 : isStr Tryd.prog 22 = false := by kernel_rfl
theorem isBool_22 : isBool Tryd.prog 22 = false := by kernel_rfl
theorem isPtr_22 : isPtr Tryd.prog 22 = false := by kernel_rfl
theorem isU8_22 : isU8 Tryd.prog 22 = false := by kernel_rfl
theorem isIfc_22 : isIfc Tryd.prog 22 = false := by kernel_rfl
theorem ifcT_22 : ifcT Tryd.prog 22 = false := by kernel_rfl
theorem seqT_22 : seqT Tryd.prog 22 = true := by kernel_rfl
theorem sliceable_22 : sliceable Tryd.prog 22 = true := by kernel_rfl
theorem szOf_23 : szOf Tryd.prog 23 = 3 := by kernel_rfl
theorem aggT_23 : aggT Tryd.prog 23 = some true := by kernel_rfl
theorem elemT_23 : elemT Tryd.prog 23 = none := by kernel_rfl
theorem bytesOf_23 : bytesOf Tryd.prog 23 = some 40 := by kernel_rfl
theorem zeroOf_23 : zeroOf Tryd.prog 23 = some [A.int .i64 0, A.int .i64 0, A.nils] := by kernel_rfl
theorem arrT_23 : arrT Tryd.prog 23 = none := by kernel_rfl
theorem fieldT_23_0 : fieldT Tryd.prog 23 0 = some (0, 3) := by kernel_rfl
theorem fieldT_23_1 : fieldT Tryd.prog 23 1 = some (1, 3) := by kernel_rfl
theorem fieldT_23_2 : fieldT Tryd.prog 23 2 = some (2, 22) := by kernel_rfl
theorem isStr_23 : isStr Tryd.prog 23 = false := by kernel_rfl
theorem isBool_23 : isBool Tryd.prog 23 = false := by kernel_rfl
theorem isPtr_23 : isPtr Tryd.prog 23 = false := by kernel_rfl
theorem isU8_23 : isU8 Tryd.prog 23 = false := by kernel_rfl
theorem isIfc_23 : isIfc Tryd.prog 23 = false := by kernel_rfl
theorem ifcT_23 : ifcT Tryd.prog 23 = false := by kernel_rfl
theorem fieldsOk_23 : fieldsOk Tryd.prog 23 = true := by kernel_rfl
theorem seqT_23 : seqT Tryd.prog 23 = false := by kernel_rfl
theorem sliceable_23 : sliceable Tryd.prog 23 = false := by kernel_rfl
theorem szOf_24 : szOf Tryd.prog 24 = 3 := by kernel_rfl
theorem aggT_24 : aggT Tryd.prog 24 = some true := by kernel_rfl
theorem elemT_24 : elemT Tryd.prog 24 = none := by kernel_rfl
theorem bytesOf_24 : bytesOf Tryd.prog 24 = some 40 := by kernel_rfl
theorem zeroOf_24 : zeroOf Tryd.prog 24 = some [A.int .i64 0, A.int .i64 0, A.nils] := by kernel_rfl
theorem arrT_24 : arrT Tryd.prog 24 = none := by kernel_rfl
theorem fieldT_24_0 : fieldT Tryd.prog 24 0 = some (0, 3) := by kernel_rfl
theorem fieldT_24_1 : fieldT Tryd.prog 24 1 = some (1, 3) := by kernel_rfl
theorem fieldT_24_2 : fieldT Tryd.prog 24 2 = some (2, 22) := by kernel_rfl
theorem isStr_24 : isStr Tryd.prog 24 = false := by kernel_rfl
theorem isBool_24 : isBool Tryd.prog 24 = false := by kernel_rfl
theorem isPtr_24 : isPtr Tryd.prog 24 = false := by kernel_rfl
theorem isU8_24 : isU8 Tryd.prog 24 = false := by kernel_rfl
theorem isIfc_24 : isIfc Tryd.prog 24 = false := by kernel_rfl
theorem ifcT_24 : ifcT Tryd.prog 24 = false := by kernel_rfl
theorem fieldsOk_24 : fieldsOk Tryd.prog 24 = true := by kernel_rfl
theorem seqT_24 : seqT Tryd.prog 24 = false := by kernel_rfl
theorem sliceable_24 : sliceable Tryd.prog 24 = false := by kernel_rfl
theorem szOf_25 : szOf Tryd.prog 25 = 1 := by kernel_rfl
theorem aggT_25 : aggT Tryd.prog 25 = some false := by kernel_rfl
theorem elemT_25 : elemT Tryd.prog 25 = none := by kernel_rfl
theorem bytesOf_25 : bytesOf Tryd.prog 25 = some 8 := by kernel_rfl
theorem zeroOf_25 : zeroOf Tryd.prog 25 = some [A.nilf] := by kernel_rfl
theorem arrT_25 : arrT Tryd.prog 25 = none := by kernel_rfl
theorem isStr_25 : isStr Tryd.prog 25 = false := by kernel_rfl
theorem isBool_25 : isBool Tryd.prog 25 = false := by kernel_rfl
theorem isPtr_25 : isPtr Tryd.prog 25 = false := by kernel_rfl
theorem isU8_25 : isU8 Tryd.prog 25 = false := by kernel_rfl
theorem isIfc_25 : isIfc Tryd.prog 25 = false := by kernel_rfl
theorem ifcT_25 : ifcT Tryd.prog 25 = false := by kernel_rfl
theorem seqT_25 : seqT Tryd.prog 25 = false := by kernel_rfl
theorem sliceable_25 : sliceable Tryd.prog 25 = false := by kernel_rfl
theorem szOf_26 : szOf Tryd.prog 26 = 1 := by kernel_rfl
theorem aggT_26 : aggT Tryd.prog 26 = some false := by kernel_rfl
theorem elemT_26 : elemT Tryd.prog 26 = none := by kernel_rfl
theorem bytesOf_26 : bytesOf Tryd.prog 26 = some 8 := by kernel_rfl
theorem zeroOf_26 : zeroOf Tryd.prog 26 = some [A.nilf] := by kernel_rfl
theorem arrT_26 : arrT Tryd.prog 26 = none := by kernel_rfl
theorem isStr_26 : isStr Tryd.prog 26 = false := by kernel_rfl
theorem isBool_26 : isBool Tryd.prog 26 = false := by kernel_rfl
theorem isPtr_26 : isPtr Tryd.prog 26 = false := by kernel_rfl
theorem isU8_26 : isU8 Tryd.prog 26 = false := by kernel_rfl
theorem isIfc_26 : isIfc Tryd.prog 26 = false := by kernel_rfl
theorem ifcT_26 : ifcT Tryd.prog 26 = false := by kernel_rfl
theorem seqT_26 : seqT Tryd.prog 26 = false := by kernel_rfl
theorem sliceable_26 : sliceable Tryd.prog 26 = false := by kernel_rfl
theorem szOf_27 : szOf Tryd.prog 27 = 1 := by kernel_rfl
theorem aggT_27 : aggT Tryd.prog 27 = some false := by kernel_rfl
theorem elemT_27 : elemT Tryd.prog 27 = some 5 := by kernel_rfl
theorem bytesOf_27 : bytesOf Tryd.prog 27 = some 24 := by kernel_rfl
theorem zeroOf_27 : zeroOf Tryd.prog 27 = some [A.nils] := by kernel_rfl
theorem arrT_27 : arrT Tryd.prog 27 = none := by kernel_rfl
theorem isStr_27 : isStr Tryd.prog 27 = false := by kernel_rfl
theorem isBool_27 : isBool Tryd.prog 27 = false := by kernel_rfl
theorem isPtr_27 : isPtr Tryd.prog 27 = false := by kernel_rfl
theorem isU8_27 : isU8 Tryd.prog 27 = false := by kernel_rfl
theorem isIfc_27 : isIfc Tryd.prog 27 = false := by kernel_rfl
theorem ifcT_27 : ifcT Tryd.prog 27 = false := by kernel_rfl
theorem seqT_27 : seqT Tryd.prog 27 = true := by kernel_rfl
theorem sliceable_27 : sliceable Tryd.prog 27 = true := by kernel_rfl
theorem szOf_28 : szOf Tryd.prog 28 = 1 := by kernel_rfl
theorem aggT_28 : aggT Tryd.prog 28 = some false := by kernel_rfl
theorem elemT_28 : elemT Tryd.prog 28 = none := by kernel_rfl
theorem bytesOf_28 : bytesOf Tryd.prog 28 = some 8 := by kernel_rfl
theorem zeroOf_28 : zeroOf Tryd.prog 28 = some [A.int .i64 0] := by kernel_rfl
theorem arrT_28 : arrT Tryd.prog 28 = none := by kernel_rfl
theorem isStr_28 : isStr Tryd.prog 28 = false := by kernel_rfl
theorem isBool_28 : isBool Tryd.prog 28 = false := by kernel_rfl
theorem isPtr_28 : isPtr Tryd.prog 28 = false := by kernel_rfl
theorem isU8_28 : isU8 Tryd.prog 28 = false := by kernel_rfl
theorem isIfc_28 : isIfc Tryd.prog 28 = false := by kernel_rfl
theorem ifcT_28 : ifcT Tryd.prog 28 = false := by kernel_rfl
theorem seqT_28 : seqT Tryd.prog 28 = false := by kernel_rfl
theorem sliceable_28 : sliceable Tryd.prog 28 = false := by kernel_rfl
theorem szOf_30 : szOf Tryd.prog 30 = 1 := by kernel_rfl
theorem aggT_30 : aggT Tryd.prog 30 = some false := by kernel_rfl
theorem elemT_30 : elemT Tryd.prog 30 = none := by kernel_rfl
theorem bytesOf_30 : bytesOf Tryd.prog 30 = some 8 := by kernel_rfl
theorem zeroOf_30 : zeroOf Tryd.prog 30 = some [A.nilf] := by kernel_rfl
theorem arrT_30 : arrT Tryd.prog 30 = none := by kernel_rfl
theorem isStr_30 : isStr Tryd.prog 30 = false := by kernel_rfl
theorem isBool_30 : isBool Tryd.prog 30 = false := by kernel_rfl
theorem isPtr_30 : isPtr Tryd.prog 30 = false := by kernel_rfl
theorem isU8_30 : isU8 Tryd.prog 30 = false := by kernel_rfl
theorem isIfc_30 : isIfc Tryd.prog 30 = false := by kernel_rfl
theorem ifcT_30 : ifcT Tryd.prog 30 = false := by kernel_rfl
theorem seqT_30 : seqT Tryd.prog 30 = false := by kernel_rfl
theorem sliceable_30 : sliceable Tryd.prog 30 = false := by kernel_rfl
theorem szOf_31 : szOf Tryd.prog 31 = 1 := by kernel_rfl
theorem aggT_31 : aggT Tryd.prog 31 = some false := by kernel_rfl
theorem elemT_31 : elemT Tryd.prog 31 = none := by kernel_rfl
theorem bytesOf_31 : bytesOf Tryd.prog 31 = some 8 := by kernel_rfl
theorem zeroOf_31 : zeroOf Tryd.prog 31 = some [A.nilf] := by kernel_rfl
theorem arrT_31 : arrT Tryd.prog 31 = none := by kernel_rfl
theorem isStr_31 : isStr Tryd.prog 31 = false := by kernel_rfl
theorem isBool_31 : isBool Tryd.prog 31 = false := by kernel_rfl
theorem isPtr_31 : isPtr Tryd.prog 31 = false := by kernel_rfl
theorem isU8_31 : isU8 Tryd.prog 31 = false := by kernel_rfl
theorem isIfc_31 : isIfc Tryd.prog 31 = false := by kernel_rfl
theorem ifcT_31 : ifcT Tryd.prog 31 = false := by kernel_rfl
theorem seqT_31 : seqT Tryd.prog 31 = false := by kernel_rfl
theorem sliceable_31 : sliceable Tryd.prog 31 = false := by kernel_rfl
theorem szOf_32 : szOf Tryd.prog 32 = 1 := by kernel_rfl
theorem aggT_32 : aggT Tryd.prog 32 = some false := by kernel_rfl
theorem elemT_32 : elemT Tryd.prog 32 = none := by kernel_rfl
theorem bytesOf_32 : bytesOf Tryd.prog 32 = some 8 := by kernel_rfl
theorem zeroOf_32 : zeroOf Tryd.prog 32 = some [A.nilf] := by kernel_rfl
theorem arrT_32 : arrT Tryd.prog 32 = none := by kernel_rfl
theorem isStr_32 : isStr Tryd.prog 32 = false := by kernel_rfl
theorem isBool_32 : isBool Tryd.prog 32 = false := by kernel_rfl
theorem isPtr_32 : isPtr Tryd.prog 32 = false := by kernel_rfl
theorem isU8_32 : isU8 Tryd.prog 32 = false := by kernel_rfl
theorem isIfc_32 : isIfc Tryd.prog 32 = false := by kernel_rfl
theorem ifcT_32 : ifcT Tryd.prog 32 = false := by kernel_rfl
theorem seqT_32 : seqT Tryd.prog 32 = false := by kernel_rfl
theorem sliceable_32 : sliceable Tryd.prog 32 = false := by kernel_rfl
theorem szOf_34 : szOf Tryd.prog 34 = 1 := by kernel_rfl
theorem aggT_34 : aggT Tryd.prog 34 = some false := by kernel_rfl
theorem elemT_34 : elemT Tryd.prog 34 = none := by kernel_rfl
theorem bytesOf_34 : bytesOf Tryd.prog 34 = some 8 := by kernel_rfl
theorem zeroOf_34 : zeroOf Tryd.prog 34 = some [A.nilf] := by kernel_rfl
theorem arrT_34 : arrT Tryd.prog 34 = none := by kernel_rfl
theorem isStr_34 : isStr Tryd.prog 34 = false := by kernel_rfl
theorem isBool_34 : isBool Tryd.prog 34 = false := by kernel_rfl
theorem isPtr_34 : isPtr Tryd.prog 34 = false := by kernel_rfl
theorem isU8_34 : isU8 Tryd.prog 34 = false := by kernel_rfl
theorem isIfc_34 : isIfc Tryd.prog 34 = false := by kernel_rfl
theorem ifcT_34 : ifcT Tryd.prog 34 = false := by kernel_rfl
theorem seqT_34 : seqT Tryd.prog 34 = false := by kernel_rfl
theorem sliceable_34 : sliceable Tryd.prog 34 = false := by kernel_rfl
theorem szOf_35 : szOf Tryd.prog 35 = 1 := by kernel_rfl
theorem aggT_35 : aggT Tryd.prog 35 = some false := by kernel_rfl
theorem elemT_35 : elemT Tryd.prog 35 = none := by kernel_rfl
theorem bytesOf_35 : bytesOf Tryd.prog 35 = some 8 := by kernel_rfl
theorem zeroOf_35 : zeroOf Tryd.prog 35 = some [A.nilf] := by kernel_rfl
theorem arrT_35 : arrT Tryd.prog 35 = none := by kernel_rfl
theorem isStr_35 : isStr Tryd.prog 35 = false := by kernel_rfl
theorem isBool_35 : isBool Tryd.prog 35 = false := by kernel_rfl
theorem isPtr_35 : isPtr Tryd.prog 35 = false := by kernel_rfl
theorem isU8_35 : isU8 Tryd.prog 35 = false := by kernel_rfl
theorem isIfc_35 : isIfc Tryd.prog 35 = false := by kernel_rfl
theorem ifcT_35 : ifcT Tryd.prog 35 = false := by kernel_rfl
theorem seqT_35 : seqT Tryd.prog 35 = false := by kernel_rfl
theorem sliceable_35 : sliceable Tryd.prog 35 = false := by kernel_rfl
theorem szOf_36 : szOf Tryd.prog 36 = 1 := by kernel_rfl
theorem aggT_36 : aggT Tryd.prog 36 = some false := by kernel_rfl
theorem elemT_36 : elemT Tryd.prog 36 = none := by kernel_rfl
theorem bytesOf_36 : bytesOf Tryd.prog 36 = some 8 := by kernel_rfl
theorem zeroOf_36 : zeroOf Tryd.prog 36 = some [A.nilf] := by kernel_rfl
theorem arrT_36 : arrT Tryd.prog 36 = none := by kernel_rfl
theorem isStr_36 : isStr Tryd.prog 36 = false := by kernel_rfl
theorem isBool_36 : isBool Tryd.prog 36 = false := by kernel_rfl
theorem isPtr_36 : isPtr Tryd.prog 36 = false := by kernel_rfl
theorem isU8_36 : isU8 Tryd.prog 36 = false := by kernel_rfl
theorem isIfc_36 : isIfc Tryd.prog 36 = false := by kernel_rfl
theorem ifcT_36 : ifcT Tryd.prog 36 = false := by kernel_rfl
theorem seqT_36 : seqT Tryd.prog 36 = false := by kernel_rfl
theorem sliceable_36 : sliceable Tryd.prog 36 = false := by kernel_rfl
theorem szOf_37 : szOf Tryd.prog 37 = 1 := by kernel_rfl
theorem aggT_37 : aggT Tryd.prog 37 = some false := by kernel_rfl
theorem elemT_37 : elemT Tryd.prog 37 = none := by kernel_rfl
theorem bytesOf_37 : bytesOf Tryd.prog 37 = some 8 := by kernel_rfl
theorem zeroOf_37 : zeroOf Tryd.prog 37 = some [A.nilf] := by kernel_rfl
theorem arrT_37 : arrT Tryd.prog 37 = none := by kernel_rfl
theorem isStr_37 : isStr Tryd.prog 37 = false := by kernel_rfl
theorem isBool_37 : isBool Tryd.prog 37 = false := by kernel_rfl
theorem isPtr_37 : isPtr Tryd.prog 37 = false := by kernel_rfl
theorem isU8_37 : isU8 Tryd.prog 37 = false := by kernel_rfl
theorem isIfc_37 : isIfc Tryd.prog 37 = false := by kernel_rfl
theorem ifcT_37 : ifcT Tryd.prog 37 = false := by kernel_rfl
theorem seqT_37 : seqT Tryd.prog 37 = false := by kernel_rfl
theorem sliceable_37 : sliceable Tryd.prog 37 = false := by kernel_rfl
theorem szOf_39 : szOf Tryd.prog 39 = 1 := by kernel_rfl
theorem aggT_39 : aggT Tryd.prog 39 = some false := by kernel_rfl
theorem elemT_39 : elemT Tryd.prog 39 = none := by kernel_rfl
theorem bytesOf_39 : bytesOf Tryd.prog 39 = some 8 := by kernel_rfl
theorem zeroOf_39 : zeroOf Tryd.prog 39 = some [A.nilf] := by kernel_rfl
theorem arrT_39 : arrT Tryd.prog 39 = none := by kernel_rfl
theorem isStr_39 : isStr Tryd.prog 39 = false := by kernel_rfl
theorem isBool_39 : isBool Tryd.prog 39 = false := by kernel_rfl
theorem isPtr_39 : isPtr Tryd.prog 39 = false := by kernel_rfl
theorem isU8_39 : isU8 Tryd.prog 39 = false := by kernel_rfl
theorem isIfc_39 : isIfc Tryd.prog 39 = false := by kernel_rfl
theorem ifcT_39 : ifcT Tryd.prog 39 = false := by kernel_rfl
theorem seqT_39 : seqT Tryd.prog 39 = false := by kernel_rfl
theorem sliceable_39 : sliceable Tryd.prog 39 = false := by kernel_rfl
theorem szOf_40 : szOf Tryd.prog 40 = 1 := by kernel_rfl
theorem aggT_40 : aggT Tryd.prog 40 = some false := by kernel_rfl
theorem elemT_40 : elemT Tryd.prog 40 = none := by kernel_rfl
theorem bytesOf_40 : bytesOf Tryd.prog 40 = some 8 := by kernel_rfl
theorem zeroOf_40 : zeroOf Tryd.prog 40 = some [A.nilf] := by kernel_rfl
theorem arrT_40 : arrT Tryd.prog 40 = none := by kernel_rfl
theorem isStr_40 : isStr Tryd.prog 40 = false := by kernel_rfl
theorem isBool_40 : isBool Tryd.prog 40 = false := by kernel_rfl
theorem isPtr_40 : isPtr Tryd.prog 40 = false := by kernel_rfl
theorem isU8_40 : isU8 Tryd.prog 40 = false := by kernel_rfl
theorem isIfc_40 : isIfc Tryd.prog 40 = false := by kernel_rfl
theorem ifcT_40 : ifcT Tryd.prog 40 = false := by kernel_rfl
theorem seqT_40 : seqT Tryd.prog 40 = false := by kernel_rfl
theorem sliceable_40 : sliceable Tryd.prog 40 = false := by kernel_rfl
theorem szOf_41 : szOf Tryd.prog 41 = 1 := by kernel_rfl
theorem aggT_41 : aggT Tryd.prog 41 = some false := by kernel_rfl
theorem elemT_41 : elemT Tryd.prog 41 = none := by kernel_rfl
theorem bytesOf_41 : bytesOf Tryd.prog 41 = some 8 := by kernel_rfl
theorem zeroOf_41 : zeroOf Tryd.prog 41 = some [A.nilf] := by kernel_rfl
theorem arrT_41 : arrT Tryd.prog 41 = none := by kernel_rfl
theorem isStr_41 : isStr Tryd.prog 41 = false := by kernel_rfl
theorem isBool_41 : isBool Tryd.prog 41 = false := by kernel_rfl
theorem isPtr_41 : isPtr Tryd.prog 41 = false := by kernel_rfl
theorem isU8_41 : isU8 Tryd.prog 41 = false := by kernel_rfl
theorem isIfc_41 : isIfc Tryd.prog 41 = false := by kernel_rfl
theorem ifcT_41 : ifcT Tryd.prog 41 = false := by kernel_rfl
theorem seqT_41 : seqT Tryd.prog 41 = false := by kernel_rfl
theorem sliceable_41 : sliceable Tryd.prog 41 = false := by kernel_rfl
theorem szOf_42 : szOf Tryd.prog 42 = 0 := by kernel_rfl
theorem aggT_42 : aggT Tryd.prog 42 = some true := by kernel_rfl
theorem elemT_42 : elemT Tryd.prog 42 = none := by kernel_rfl
theorem bytesOf_42 : bytesOf Tryd.prog 42 = some 0 := by kernel_rfl
theorem zeroOf_42 : zeroOf Tryd.prog 42 = some [] := by kernel_rfl
theorem arrT_42 : arrT Tryd.prog 42 = none := by kernel_rfl
theorem isStr_42 : isStr Tryd.prog 42 = false := by kernel_rfl
theorem isBool_42 : isBool Tryd.prog 42 = false := by kernel_rfl
theorem isPtr_42 : isPtr Tryd.prog 42 = false := by kernel_rfl
theorem isU8_42 : isU8 Tryd.prog 42 = false := by kernel_rfl
theorem isIfc_42 : isIfc Tryd.prog 42 = false := by kernel_rfl
theorem ifcT_42 : ifcT Tryd.prog 42 = false := by kernel_rfl
theorem fieldsOk_42 : fieldsOk Tryd.prog 42 = true := by kernel_rfl
theorem seqT_42 : seqT Tryd.prog 42 = false := by kernel_rfl
theorem sliceable_42 : sliceable Tryd.prog 42 = false := by kernel_rfl
theorem szOf_43 : szOf Tryd.prog 43 = 0 := by kernel_rfl
theorem aggT_43 : aggT Tryd.prog 43 = some true := by kernel_rfl
theorem elemT_43 : elemT Tryd.prog 43 = none := by kernel_rfl
theorem bytesOf_43 : bytesOf Tryd.prog 43 = some 0 := by kernel_rfl
theorem zeroOf_43 : zeroOf Tryd.prog 43 = some [] := by kernel_rfl
theorem arrT_43 : arrT Tryd.prog 43 = none := by kernel_rfl
theorem isStr_43 : isStr Tryd.prog 43 = false := by kernel_rfl
theorem isBool_43 : isBool Tryd.prog 43 = false := by kernel_rfl
theorem isPtr_43 : isPtr Tryd.prog 43 = false := by kernel_rfl
theorem isU8_43 : isU8 Tryd.prog 43 = false := by kernel_rfl
theorem isIfc_43 : isIfc Tryd.prog 43 = false := by kernel_rfl
theorem ifcT_43 : ifcT Tryd.prog 43 = false := by kernel_rfl
theorem fieldsOk_43 : fieldsOk Tryd.prog 43 = true := by kernel_rfl
theorem seqT_43 : seqT Tryd.prog 43 = false := by kernel_rfl
theorem sliceable_43 : sliceable Tryd.prog 43 = false := by kernel_rfl
theorem szOf_45 : szOf Tryd.prog 45 = 1 := by kernel_rfl
theorem aggT_45 : aggT Tryd.prog 45 = some false := by kernel_rfl
theorem elemT_45 : elemT Tryd.prog 45 = none := by kernel_rfl
theorem bytesOf_45 : bytesOf Tryd.prog 45 = some 8 := by kernel_rfl
theorem zeroOf_45 : zeroOf Tryd.prog 45 = some [A.nilp] := by kernel_rfl
theorem arrT_45 : arrT Tryd.prog 45 = none := by kernel_rfl
theorem isStr_45 : isStr Tryd.prog 45 = false := by kernel_rfl
theorem isBool_45 : isBool Tryd.prog 45 = false := by kernel_rfl
theorem isPtr_45 : isPtr Tryd.prog 45 = true := by kernel_rfl
theorem isU8_45 : isU8 Tryd.prog 45 = false := by kernel_rfl
theorem isIfc_45 : isIfc Tryd.prog 45 = false := by kernel_rfl
theorem ifcT_45 : ifcT Tryd.prog 45 = false := by kernel_rfl
theorem seqT_45 : seqT Tryd.prog 45 = false := by kernel_rfl
theorem sliceable_45 : sliceable Tryd.prog 45 = false := by kernel_rfl
theorem szOf_46 : szOf Tryd.prog 46 = 1 := by kernel_rfl
theorem aggT_46 : aggT Tryd.prog 46 = some true := by kernel_rfl
theorem elemT_46 : elemT Tryd.prog 46 = none := by kernel_rfl
theorem bytesOf_46 : bytesOf Tryd.prog 46 = some 16 := by kernel_rfl
theorem zeroOf_46 : zeroOf Tryd.prog 46 = some [A.str []] := by kernel_rfl
theorem arrT_46 : arrT Tryd.prog 46 = none := by kernel_rfl
theorem fieldT_46_0 : fieldT Tryd.prog 46 0 = some (0, 9) := by kernel_rfl
theorem isStr_46 : isStr Tryd.prog 46 = false := by kernel_rfl
theorem isBool_46 : isBool Tryd.prog 46 = false := by kernel_rfl
theorem isPtr_46 : isPtr Tryd.prog 46 = false := by kernel_rfl
theorem isU8_46 : isU8 Tryd.prog 46 = false := by kernel_rfl
theorem isIfc_46 : isIfc Tryd.prog 46 = false := by kernel_rfl
theorem ifcT_46 : ifcT Tryd.prog 46 = false := by kernel_rfl
theorem fieldsOk_46 : fieldsOk Tryd.prog 46 = true := by kernel_rfl
theorem seqT_46 : seqT Tryd.prog 46 = false := by kernel_rfl
theorem sliceable_46 : sliceable Tryd.prog 46 = false := by kernel_rfl
theorem szOf_47 : szOf Tryd.prog 47 = 1 := by kernel_rfl
theorem aggT_47 : aggT Tryd.prog 47 = some true := by kernel_rfl
theorem elemT_47 : elemT Tryd.prog 47 = none := by kernel_rfl
theorem bytesOf_47 : bytesOf Tryd.prog 47 = some 16 := by kernel_rfl
theorem zeroOf_47 : zeroOf Tryd.prog 47 = some [A.str []] := by kernel_rfl
theorem arrT_47 : arrT Tryd.prog 47 = none := by kernel_rfl
theorem fieldT_47_0 : fieldT Tryd.prog 47 0 = some (0, 9) := by kernel_rfl
theorem isStr_47 : isStr Tryd.prog 47 = false := by kernel_rfl
theorem isBool_47 : isBool Tryd.prog 47 = false := by kernel_rfl
theorem isPtr_47 : isPtr Tryd.prog 47 = false := by kernel_rfl
theorem isU8_47 : isU8 Tryd.prog 47 = false := by kernel_rfl
theorem isIfc_47 : isIfc Tryd.prog 47 = false := by kernel_rfl
theorem ifcT_47 : ifcT Tryd.prog 47 = false := by kernel_rfl
theorem fieldsOk_47 : fieldsOk Tryd.prog 47 = true := by kernel_rfl
theorem seqT_47 : seqT Tryd.prog 47 = false := by kernel_rfl
theorem sliceable_47 : sliceable Tryd.prog 47 = false := by kernel_rfl
theorem szOf_48 : szOf Tryd.prog 48 = 1 := by kernel_rfl
theorem aggT_48 : aggT Tryd.prog 48 = some false := by kernel_rfl
theorem elemT_48 : elemT Tryd.prog 48 = none := by kernel_rfl
theorem bytesOf_48 : bytesOf Tryd.prog 48 = some 8 := by kernel_rfl
theorem zeroOf_48 : zeroOf Tryd.prog 48 = some [A.nilf] := by kernel_rfl
theorem arrT_48 : arrT Tryd.prog 48 = none := by kernel_rfl
theorem isStr_48 : isStr Tryd.prog 48 = false := by kernel_rfl
theorem isBool_48 : isBool Tryd.prog 48 = false := by kernel_rfl
theorem isPtr_48 : isPtr Tryd.prog 48 = false := by kernel_rfl
theorem isU8_48 : isU8 Tryd.prog 48 = false := by kernel_rfl
theorem isIfc_48 : isIfc Tryd.prog 48 = false := by kernel_rfl
theorem ifcT_48 : ifcT Tryd.prog 48 = false := by kernel_rfl
theorem seqT_48 : seqT Tryd.prog 48 = false := by kernel_rfl
theorem sliceable_48 : sliceable Tryd.prog 48 = false := by kernel_rfl
theorem szOf_49 : szOf Tryd.prog 49 = 1 := by kernel_rfl
theorem aggT_49 : aggT Tryd.prog 49 = some false := by kernel_rfl
theorem elemT_49 : elemT Tryd.prog 49 = none := by kernel_rfl
theorem bytesOf_49 : bytesOf Tryd.prog 49 = some 8 := by kernel_rfl
theorem zeroOf_49 : zeroOf Tryd.prog 49 = some [A.nilf] := by kernel_rfl
theorem arrT_49 : arrT Tryd.prog 49 = none := by kernel_rfl
theorem isStr_49 : isStr Tryd.prog 49 = false := by kernel_rfl
theorem isBool_49 : isBool Tryd.prog 49 = false := by kernel_rfl
theorem isPtr_49 : isPtr Tryd.prog 49 = false := by kernel_rfl
theorem isU8_49 : isU8 Tryd.prog 49 = false := by kernel_rfl
theorem isIfc_49 : isIfc Tryd.prog 49 = false := by kernel_rfl
theorem ifcT_49 : ifcT Tryd.prog 49 = false := by kernel_rfl
theorem seqT_49 : seqT Tryd.prog 49 = false := by kernel_rfl
theorem sliceable_49 : sliceable Tryd.prog 49 = false := by kernel_rfl
theorem szOf_50 : szOf Tryd.prog 50 = 1 := by kernel_rfl
theorem aggT_50 : aggT Tryd.prog 50 = some false := by kernel_rfl
theorem elemT_50 : elemT Tryd.prog 50 = some 9 := by kernel_rfl
theorem bytesOf_50 : bytesOf Tryd.prog 50 = some 24 := by kernel_rfl
theorem zeroOf_50 : zeroOf Tryd.prog 50 = some [A.nils] := by kernel_rfl
theorem arrT_50 : arrT Tryd.prog 50 = none := by kernel_rfl
theorem isStr_50 : isStr Tryd.prog 50 = false := by kernel_rfl
theorem isBool_50 : isBool Tryd.prog 50 = false := by kernel_rfl
theorem isPtr_50 : isPtr Tryd.prog 50 = false := by kernel_rfl
theorem isU8_50 : isU8 Tryd.prog 50 = false := by kernel_rfl
theorem isIfc_50 : isIfc Tryd.prog 50 = false := by kernel_rfl
theorem ifcT_50 : ifcT Tryd.prog 50 = false := by kernel_rfl
theorem seqT_50 : seqT Tryd.prog 50 = true := by kernel_rfl
theorem sliceable_50 : sliceable Tryd.prog 50 = true := by kernel_rfl
theorem szOf_52 : szOf Tryd.prog 52 = 1 := by kernel_rfl
theorem aggT_52 : aggT Tryd.prog 52 = some false := by kernel_rfl
theorem elemT_52 : elemT Tryd.prog 52 = none := by kernel_rfl
theorem bytesOf_52 : bytesOf Tryd.prog 52 = some 8 := by kernel_rfl
theorem zeroOf_52 : zeroOf Tryd.prog 52 = some [A.nilf] := by kernel_rfl
theorem arrT_52 : arrT Tryd.prog 52 = none := by kernel_rfl
theorem isStr_52 : isStr Tryd.prog 52 = false := by kernel_rfl
theorem isBool_52 : isBool Tryd.prog 52 = false := by kernel_rfl
theorem isPtr_52 : isPtr Tryd.prog 52 = false := by kernel_rfl
theorem isU8_52 : isU8 Tryd.prog 52 = false := by kernel_rfl
theorem isIfc_52 : isIfc Tryd.prog 52 = false := by kernel_rfl
theorem ifcT_52 : ifcT Tryd.prog 52 = false := by kernel_rfl
theorem seqT_52 : seqT Tryd.prog 52 = false := by kernel_rfl
theorem sliceable_52 : sliceable Tryd.prog 52 = false := by kernel_rfl
theorem szOf_53 : szOf Tryd.prog 53 = 1 := by kernel_rfl
theorem aggT_53 : aggT Tryd.prog 53 = some false := by kernel_rfl
theorem elemT_53 : elemT Tryd.prog 53 = none := by kernel_rfl
theorem bytesOf_53 : bytesOf Tryd.prog 53 = some 8 := by kernel_rfl
theorem zeroOf_53 : zeroOf Tryd.prog 53 = some [A.nilp] := by kernel_rfl
theorem arrT_53 : arrT Tryd.prog 53 = none := by kernel_rfl
theorem isStr_53 : isStr Tryd.prog 53 = false := by kernel_rfl
theorem isBool_53 : isBool Tryd.prog 53 = false := by kernel_rfl
theorem isPtr_53 : isPtr Tryd.prog 53 = true := by kernel_rfl
theorem isU8_53 : isU8 Tryd.prog 53 = false := by kernel_rfl
theorem isIfc_53 : isIfc Tryd.prog 53 = false := by kernel_rfl
theorem ifcT_53 : ifcT Tryd.prog 53 = false := by kernel_rfl
theorem seqT_53 : seqT Tryd.prog 53 = false := by kernel_rfl
theorem sliceable_53 : sliceable Tryd.prog 53 = false := by kernel_rfl
theorem szOf_54 : szOf Tryd.prog 54 = 2 := by kernel_rfl
theorem aggT_54 : aggT Tryd.prog 54 = some true := by kernel_rfl
theorem elemT_54 : elemT Tryd.prog 54 = none := by kernel_rfl
theorem bytesOf_54 : bytesOf Tryd.prog 54 = some 32 := by kernel_rfl
theorem zeroOf_54 : zeroOf Tryd.prog 54 = some [A.nils, A.bool false] := by kernel_rfl
theorem arrT_54 : arrT Tryd.prog 54 = none := by kernel_rfl
theorem fieldT_54_0 : fieldT Tryd.prog 54 0 = some (0, 50) := by kernel_rfl
theorem fieldT_54_1 : fieldT Tryd.prog 54 1 = some (1, 4) := by kernel_rfl
theorem isStr_54 : isStr Tryd.prog 54 = false := by kernel_rfl
theorem isBool_54 : isBool Tryd.prog 54 = false := by kernel_rfl
theorem isPtr_54 : isPtr Tryd.prog 54 = false := by kernel_rfl
theorem isU8_54 : isU8 Tryd.prog 54 = false := by kernel_rfl
theorem isIfc_54 : isIfc Tryd.prog 54 = false := by kernel_rfl
theorem ifcT_54 : ifcT Tryd.prog 54 = false := by kernel_rfl
theorem fieldsOk_54 : fieldsOk Tryd.prog 54 = true := by kernel_rfl
theorem seqT_54 : seqT Tryd.prog 54 = false := by kernel_rfl
theorem sliceable_54 : sliceable Tryd.prog 54 = false := by kernel_rfl
theorem szOf_55 : szOf Tryd.prog 55 = 2 := by kernel_rfl
theorem aggT_55 : aggT Tryd.prog 55 = some true := by kernel_rfl
theorem elemT_55 : elemT Tryd.prog 55 = none := by kernel_rfl
theorem bytesOf_55 : bytesOf Tryd.prog 55 = some 32 := by kernel_rfl
theorem zeroOf_55 : zeroOf Tryd.prog 55 = some [A.nils, A.bool false] := by kernel_rfl
theorem arrT_55 : arrT Tryd.prog 55 = none := by kernel_rfl
theorem fieldT_55_0 : fieldT Tryd.prog 55 0 = some (0, 50) := by kernel_rfl
theorem fieldT_55_1 : fieldT Tryd.prog 55 1 = some (1, 4) := by kernel_rfl
theorem isStr_55 : isStr Tryd.prog 55 = false := by kernel_rfl
theorem isBool_55 : isBool Tryd.prog 55 = false := by kernel_rfl
theorem isPtr_55 : isPtr Tryd.prog 55 = false := by kernel_rfl
theorem isU8_55 : isU8 Tryd.prog 55 = false := by kernel_rfl
theorem isIfc_55 : isIfc Tryd.prog 55 = false := by kernel_rfl
theorem ifcT_55 : ifcT Tryd.prog 55 = false := by kernel_rfl
theorem fieldsOk_55 : fieldsOk Tryd.prog 55 = true := by kernel_rfl
theorem seqT_55 : seqT Tryd.prog 55 = false := by kernel_rfl
theorem sliceable_55 : sliceable Tryd.prog 55 = false := by kernel_rfl
theorem szOf_56 : szOf Tryd.prog 56 = 1 := by kernel_rfl
theorem aggT_56 : aggT Tryd.prog 56 = some false := by kernel_rfl
theorem elemT_56 : elemT Tryd.prog 56 = none := by kernel_rfl
theorem bytesOf_56 : bytesOf Tryd.prog 56 = some 8 := by kernel_rfl
theorem zeroOf_56 : zeroOf Tryd.prog 56 = some [A.nilf] := by kernel_rfl
theorem arrT_56 : arrT Tryd.prog 56 = none := by kernel_rfl
theorem isStr_56 : isStr Tryd.prog 56 = false := by kernel_rfl
theorem isBool_56 : isBool Tryd.prog 56 = false := by kernel_rfl
theorem isPtr_56 : isPtr Tryd.prog 56 = false := by kernel_rfl
theorem isU8_56 : isU8 Tryd.prog 56 = false := by kernel_rfl
theorem isIfc_56 : isIfc Tryd.prog 56 = false := by kernel_rfl
theorem ifcT_56 : ifcT Tryd.prog 56 = false := by kernel_rfl
theorem seqT_56 : seqT Tryd.prog 56 = false := by kernel_rfl
theorem sliceable_56 : sliceable Tryd.prog 56 = false := by kernel_rfl
theorem szOf_57 : szOf Tryd.prog 57 = 1 := by kernel_rfl
theorem aggT_57 : aggT Tryd.prog 57 = some false := by kernel_rfl
theorem elemT_57 : elemT Tryd.prog 57 = none := by kernel_rfl
theorem bytesOf_57 : bytesOf Tryd.prog 57 = some 8 := by kernel_rfl
theorem zeroOf_57 : zeroOf Tryd.prog 57 = some [A.nilf] := by kernel_rfl
theorem arrT_57 : arrT Tryd.prog 57 = none := by kernel_rfl
theorem isStr_57 : isStr Tryd.prog 57 = false := by kernel_rfl
theorem isBool_57 : isBool Tryd.prog 57 = false := by kernel_rfl
theorem isPtr_57 : isPtr Tryd.prog 57 = false := by kernel_rfl
theorem isU8_57 : isU8 Tryd.prog 57 = false := by kernel_rfl
theorem isIfc_57 : isIfc Tryd.prog 57 = false := by kernel_rfl
theorem ifcT_57 : ifcT Tryd.prog 57 = false := by kernel_rfl
theorem seqT_57 : seqT Tryd.prog 57 = false := by kernel_rfl
theorem sliceable_57 : sliceable Tryd.prog 57 = false := by kernel_rfl
theorem szOf_58 : szOf Tryd.prog 58 = 1 := by kernel_rfl
theorem aggT_58 : aggT Tryd.prog 58 = some false := by kernel_rfl
theorem elemT_58 : elemT Tryd.prog 58 = none := by kernel_rfl
theorem bytesOf_58 : bytesOf Tryd.prog 58 = some 8 := by kernel_rfl
theorem zeroOf_58 : zeroOf Tryd.prog 58 = some [A.nilf] := by kernel_rfl
theorem arrT_58 : arrT Tryd.prog 58 = none := by kernel_rfl
theorem isStr_58 : isStr Tryd.prog 58 = false := by kernel_rfl
theorem isBool_58 : isBool Tryd.prog 58 = false := by kernel_rfl
theorem isPtr_58 : isPtr Tryd.prog 58 = false := by kernel_rfl
theorem isU8_58 : isU8 Tryd.prog 58 = false := by kernel_rfl
theorem isIfc_58 : isIfc Tryd.prog 58 = false := by kernel_rfl
theorem ifcT_58 : ifcT Tryd.prog 58 = false := by kernel_rfl
theorem seqT_58 : seqT Tryd.prog 58 = false := by kernel_rfl
theorem sliceable_58 : sliceable Tryd.prog 58 = false := by kernel_rfl
theorem szOf_59 : szOf Tryd.prog 59 = 1 := by kernel_rfl
theorem aggT_59 : aggT Tryd.prog 59 = some false := by kernel_rfl
theorem elemT_59 : elemT Tryd.prog 59 = none := by kernel_rfl
theorem bytesOf_59 : bytesOf Tryd.prog 59 = some 8 := by kernel_rfl
theorem zeroOf_59 : zeroOf Tryd.prog 59 = some [A.nilp] := by kernel_rfl
theorem arrT_59 : arrT Tryd.prog 59 = none := by kernel_rfl
theorem isStr_59 : isStr Tryd.prog 59 = false := by kernel_rfl
theorem isBool_59 : isBool Tryd.prog 59 = false := by kernel_rfl
theorem isPtr_59 : isPtr Tryd.prog 59 = true := by kernel_rfl
theorem isU8_59 : isU8 Tryd.prog 59 = false := by kernel_rfl
theorem isIfc_59 : isIfc Tryd.prog 59 = false := by kernel_rfl
theorem ifcT_59 : ifcT Tryd.prog 59 = false := by kernel_rfl
theorem seqT_59 : seqT Tryd.prog 59 = false := by kernel_rfl
theorem sliceable_59 : sliceable Tryd.prog 59 = false := by kernel_rfl
theorem szOf_60 : szOf Tryd.prog 60 = 1 := by kernel_rfl
theorem aggT_60 : aggT Tryd.prog 60 = some false := by kernel_rfl
theorem elemT_60 : elemT Tryd.prog 60 = none := by kernel_rfl
theorem bytesOf_60 : bytesOf Tryd.prog 60 = some 8 := by kernel_rfl
theorem zeroOf_60 : zeroOf Tryd.prog 60 = some [A.nilf] := by kernel_rfl
theorem arrT_60 : arrT Tryd.prog 60 = none := by kernel_rfl
theorem isStr_60 : isStr Tryd.prog 60 = false := by kernel_rfl
theorem isBool_60 : isBool Tryd.prog 60 = false := by kernel_rfl
theorem isPtr_60 : isPtr Tryd.prog 60 = false := by kernel_rfl
theorem isU8_60 : isU8 Tryd.prog 60 = false := by kernel_rfl
theorem isIfc_60 : isIfc Tryd.prog 60 = false := by kernel_rfl
theorem ifcT_60 : ifcT Tryd.prog 60 = false := by kernel_rfl
theorem seqT_60 : seqT Tryd.prog 60 = false := by kernel_rfl
theorem sliceable_60 : sliceable Tryd.prog 60 = false := by kernel_rfl
theorem szOf_62 : szOf Tryd.prog 62 = 1 := by kernel_rfl
theorem aggT_62 : aggT Tryd.prog 62 = some false := by kernel_rfl
theorem elemT_62 : elemT Tryd.prog 62 = none := by kernel_rfl
theorem bytesOf_62 : bytesOf Tryd.prog 62 = some 8 := by kernel_rfl
theorem zeroOf_62 : zeroOf Tryd.prog 62 = some [A.nilf] := by kernel_rfl
theorem arrT_62 : arrT Tryd.prog 62 = none := by kernel_rfl
theorem isStr_62 : isStr Tryd.prog 62 = false := by kernel_rfl
theorem isBool_62 : isBool Tryd.prog 62 = false := by kernel_rfl
theorem isPtr_62 : isPtr Tryd.prog 62 = false := by kernel_rfl
theorem isU8_62 : isU8 Tryd.prog 62 = false := by kernel_rfl
theorem isIfc_62 : isIfc Tryd.prog 62 = false := by kernel_rfl
theorem ifcT_62 : ifcT Tryd.prog 62 = false := by kernel_rfl
theorem seqT_62 : seqT Tryd.prog 62 = false := by kernel_rfl
theorem sliceable_62 : sliceable Tryd.prog 62 = false := by kernel_rfl
theorem szOf_63 : szOf Tryd.prog 63 = 1 := by kernel_rfl
theorem aggT_63 : aggT Tryd.prog 63 = some false := by kernel_rfl
theorem elemT_63 : elemT Tryd.prog 63 = none := by kernel_rfl
theorem bytesOf_63 : bytesOf Tryd.prog 63 = some 8 := by kernel_rfl
theorem zeroOf_63 : zeroOf Tryd.prog 63 = some [A.nilf] := by kernel_rfl
theorem arrT_63 : arrT Tryd.prog 63 = none := by kernel_rfl
theorem isStr_63 : isStr Tryd.prog 63 = false := by kernel_rfl
theorem isBool_63 : isBool Tryd.prog 63 = false := by kernel_rfl
theorem isPtr_63 : isPtr Tryd.prog 63 = false := by kernel_rfl
theorem isU8_63 : isU8 Tryd.prog 63 = false := by kernel_rfl
theorem isIfc_63 : isIfc Tryd.prog 63 = false := by kernel_rfl
theorem ifcT_63 : ifcT Tryd.prog 63 = false := by kernel_rfl
theorem seqT_63 : seqT Tryd.prog 63 = false := by kernel_rfl
theorem sliceable_63 : sliceable Tryd.prog 63 = false := by kernel_rfl
theorem szOf_64 : szOf Tryd.prog 64 = 1 := by kernel_rfl
theorem aggT_64 : aggT Tryd.prog 64 = some false := by kernel_rfl
theorem elemT_64 : elemT Tryd.prog 64 = none := by kernel_rfl
theorem bytesOf_64 : bytesOf Tryd.prog 64 = some 8 := by kernel_rfl
theorem zeroOf_64 : zeroOf Tryd.prog 64 = some [A.nilf] := by kernel_rfl
theorem arrT_64 : arrT Tryd.prog 64 = none := by kernel_rfl
theorem isStr_64 : isStr Tryd.prog 64 = false := by kernel_rfl
theorem isBool_64 : isBool Tryd.prog 64 = false := by kernel_rfl
theorem isPtr_64 : isPtr Tryd.prog 64 = false := by kernel_rfl
theorem isU8_64 : isU8 Tryd.prog 64 = false := by kernel_rfl
theorem isIfc_64 : isIfc Tryd.prog 64 = false := by kernel_rfl
theorem ifcT_64 : ifcT Tryd.prog 64 = false := by kernel_rfl
theorem seqT_64 : seqT Tryd.prog 64 = false := by kernel_rfl
theorem sliceable_64 : sliceable Tryd.prog 64 = false := by kernel_rfl
theorem szOf_65 : szOf Tryd.prog 65 = 1 := by kernel_rfl
theorem aggT_65 : aggT Tryd.prog 65 = some false := by kernel_rfl
theorem elemT_65 : elemT Tryd.prog 65 = none := by kernel_rfl
theorem bytesOf_65 : bytesOf Tryd.prog 65 = some 8 := by kernel_rfl
theorem zeroOf_65 : zeroOf Tryd.prog 65 = some [A.nilf] := by kernel_rfl
theorem arrT_65 : arrT Tryd.prog 65 = none := by kernel_rfl
theorem isStr_65 : isStr Tryd.prog 65 = false := by kernel_rfl
theorem isBool_65 : isBool Tryd.prog 65 = false := by kernel_rfl
theorem isPtr_65 : isPtr Tryd.prog 65 = false := by kernel_rfl
theorem isU8_65 : isU8 Tryd.prog 65 = false := by kernel_rfl
theorem isIfc_65 : isIfc Tryd.prog 65 = false := by kernel_rfl
theorem ifcT_65 : ifcT Tryd.prog 65 = false := by kernel_rfl
theorem seqT_65 : seqT Tryd.prog 65 = false := by kernel_rfl
theorem sliceable_65 : sliceable Tryd.prog 65 = false := by kernel_rfl
theorem szOf_66 : szOf Tryd.prog 66 = 1 := by kernel_rfl
theorem aggT_66 : aggT Tryd.prog 66 = some false := by kernel_rfl
theorem elemT_66 : elemT Tryd.prog 66 = none := by kernel_rfl
theorem bytesOf_66 : bytesOf Tryd.prog 66 = some 8 := by kernel_rfl
theorem zeroOf_66 : zeroOf Tryd.prog 66 = some [A.nilf] := by kernel_rfl
theorem arrT_66 : arrT Tryd.prog 66 = none := by kernel_rfl
theorem isStr_66 : isStr Tryd.prog 66 = false := by kernel_rfl
theorem isBool_66 : isBool Tryd.prog 66 = false := by kernel_rfl
theorem isPtr_66 : isPtr Tryd.prog 66 = false := by kernel_rfl
theorem isU8_66 : isU8 Tryd.prog 66 = false := by kernel_rfl
theorem isIfc_66 : isIfc Tryd.prog 66 = false := by kernel_rfl
theorem ifcT_66 : ifcT Tryd.prog 66 = false := by kernel_rfl
theorem seqT_66 : seqT Tryd.prog 66 = false := by kernel_rfl
theorem sliceable_66 : sliceable Tryd.prog 66 = false := by kernel_rfl
theorem szOf_67 : szOf Tryd.prog 67 = 1 := by kernel_rfl
theorem aggT_67 : aggT Tryd.prog 67 = some false := by kernel_rfl
theorem elemT_67 : elemT Tryd.prog 67 = none := by kernel_rfl
theorem bytesOf_67 : bytesOf Tryd.prog 67 = some 8 := by kernel_rfl
theorem zeroOf_67 : zeroOf Tryd.prog 67 = some [A.nilf] := by kernel_rfl
theorem arrT_67 : arrT Tryd.prog 67 = none := by kernel_rfl
theorem isStr_67 : isStr Tryd.prog 67 = false := by kernel_rfl
theorem isBool_67 : isBool Tryd.prog 67 = false := by kernel_rfl
theorem isPtr_67 : isPtr Tryd.prog 67 = false := by kernel_rfl
theorem isU8_67 : isU8 Tryd.prog 67 = false := by kernel_rfl
theorem isIfc_67 : isIfc Tryd.prog 67 = false := by kernel_rfl
theorem ifcT_67 : ifcT Tryd.prog 67 = false := by kernel_rfl
theorem seqT_67 : seqT Tryd.prog 67 = false := by kernel_rfl
theorem sliceable_67 : sliceable Tryd.prog 67 = false := by kernel_rfl
theorem szOf_68 : szOf Tryd.prog 68 = 1 := by kernel_rfl
theorem aggT_68 : aggT Tryd.prog 68 = some false := by kernel_rfl
theorem elemT_68 : elemT Tryd.prog 68 = none := by kernel_rfl
theorem bytesOf_68 : bytesOf Tryd.prog 68 = some 8 := by kernel_rfl
theorem zeroOf_68 : zeroOf Tryd.prog 68 = some [A.nilf] := by kernel_rfl
theorem arrT_68 : arrT Tryd.prog 68 = none := by kernel_rfl
theorem isStr_68 : isStr Tryd.prog 68 = false := by kernel_rfl
theorem isBool_68 : isBool Tryd.prog 68 = false := by kernel_rfl
theorem isPtr_68 : isPtr Tryd.prog 68 = false := by kernel_rfl
theorem isU8_68 : isU8 Tryd.prog 68 = false := by kernel_rfl
theorem isIfc_68 : isIfc Tryd.prog 68 = false := by kernel_rfl
theorem ifcT_68 : ifcT Tryd.prog 68 = false := by kernel_rfl
theorem seqT_68 : seqT Tryd.prog 68 = false := by kernel_rfl
theorem sliceable_68 : sliceable Tryd.prog 68 = false := by kernel_rfl
theorem szOf_69 : szOf Tryd.prog 69 = 1 := by kernel_rfl
theorem aggT_69 : aggT Tryd.prog 69 = some false := by kernel_rfl
theorem elemT_69 : elemT Tryd.prog 69 = none := by kernel_rfl
theorem bytesOf_69 : bytesOf Tryd.prog 69 = some 8 := by kernel_rfl
theorem zeroOf_69 : zeroOf Tryd.prog 69 = some [A.nilf] := by kernel_rfl
theorem arrT_69 : arrT Tryd.prog 69 = none := by kernel_rfl
theorem isStr_69 : isStr Tryd.prog 69 = false := by kernel_rfl
theorem isBool_69 : isBool Tryd.prog 69 = false := by kernel_rfl
theorem isPtr_69 : isPtr Tryd.prog 69 = false := by kernel_rfl
theorem isU8_69 : isU8 Tryd.prog 69 = false := by kernel_rfl
theorem isIfc_69 : isIfc Tryd.prog 69 = false := by kernel_rfl
theorem ifcT_69 : ifcT Tryd.prog 69 = false := by kernel_rfl
theorem seqT_69 : seqT Tryd.prog 69 = false := by kernel_rfl
theorem sliceable_69 : sliceable Tryd.prog 69 = false := by kernel_rfl
theorem szOf_70 : szOf Tryd.prog 70 = 2 := by kernel_rfl
theorem aggT_70 : aggT Tryd.prog 70 = some true := by kernel_rfl
theorem elemT_70 : elemT Tryd.prog 70 = none := by kernel_rfl
theorem bytesOf_70 : bytesOf Tryd.prog 70 = some 16 := by kernel_rfl
theorem zeroOf_70 : zeroOf Tryd.prog 70 = some [A.int .i64 0, A.int .i64 0] := by kernel_rfl
theorem arrT_70 : arrT Tryd.prog 70 = none := by kernel_rfl
theorem fieldT_70_0 : fieldT Tryd.prog 70 0 = some (0, 3) := by kernel_rfl
theorem fieldT_70_1 : fieldT Tryd.prog 70 1 = some (1, 3) := by kernel_rfl
theorem isStr_70 : isStr Tryd.prog 70 = false := by kernel_rfl
theorem isBool_70 : isBool Tryd.prog 70 = false := by kernel_rfl
theorem isPtr_70 : isPtr Tryd.prog 70 = false := by kernel_rfl
theorem isU8_70 : isU8 Tryd.prog 70 = false := by kernel_rfl
theorem isIfc_70 : isIfc Tryd.prog 70 = false := by kernel_rfl
theorem ifcT_70 : ifcT Tryd.prog 70 = false := by kernel_rfl
theorem fieldsOk_70 : fieldsOk Tryd.prog 70 = true := by kernel_rfl
theorem seqT_70 : seqT Tryd.prog 70 = false := by kernel_rfl
theorem sliceable_70 : sliceable Tryd.prog 70 = false := by kernel_rfl
theorem szOf_71 : szOf Tryd.prog 71 = 2 := by kernel_rfl
theorem aggT_71 : aggT Tryd.prog 71 = some true := by kernel_rfl
theorem elemT_71 : elemT Tryd.prog 71 = none := by kernel_rfl
theorem bytesOf_71 : bytesOf Tryd.prog 71 = some 16 := by kernel_rfl
theorem zeroOf_71 : zeroOf Tryd.prog 71 = some [A.int .i64 0, A.int .i64 0] := by kernel_rfl
theorem arrT_71 : arrT Tryd.prog 71 = none := by kernel_rfl
theorem fieldT_71_0 : fieldT Tryd.prog 71 0 = some (0, 3) := by kernel_rfl
theorem fieldT_71_1 : fieldT Tryd.prog 71 1 = some (1, 3) := by kernel_rfl
theorem isStr_71 : isStr Tryd.prog 71 = false := by kernel_rfl
theorem isBool_71 : isBool Tryd.prog 71 = false := by kernel_rfl
theorem isPtr_71 : isPtr Tryd.prog 71 = false := by kernel_rfl
theorem isU8_71 : isU8 Tryd.prog 71 = false := by kernel_rfl
theorem isIfc_71 : isIfc Tryd.prog 71 = false := by kernel_rfl
theorem ifcT_71 : ifcT Tryd.prog 71 = false := by kernel_rfl
theorem fieldsOk_71 : fieldsOk Tryd.prog 71 = true := by kernel_rfl
theorem seqT_71 : seqT Tryd.prog 71 = false := by kernel_rfl
theorem sliceable_71 : sliceable Tryd.prog 71 = false := by kernel_rfl
theorem szOf_72 : szOf Tryd.prog 72 = 16 := by kernel_rfl
theorem aggT_72 : aggT Tryd.prog 72 = some true := by kernel_rfl
theorem elemT_72 : elemT Tryd.prog 72 = none := by kernel_rfl
theorem bytesOf_72 : bytesOf Tryd.prog 72 = some 128 := by kernel_rfl
theorem zeroOf_72 : zeroOf Tryd.prog 72 = some [A.int .i64 0, A.int .i64 0, A.int .i64 0, A.int .i64 0, A.int .i64 0, A.int .i64 0, A.int .i64 0, A.int .i64 0, A.int .i64 0, A.int .i64 0, A.int .i64 0, A.int .i64 0, A.int .i64 0, A.int .i64 0, A.int .i64 0, A.int .i64 0] := by kernel_rfl
theorem arrT_72 : arrT Tryd.prog 72 = some (8, 71) := by kernel_rfl
theorem isStr_72 : isStr Tryd.prog 72 = false := by kernel_rfl
theorem isBool_72 : isBool Tryd.prog 72 = false := by kernel_rfl
theorem isPtr_72 : isPtr Tryd.prog 72 = false := by kernel_rfl
theorem isU8_72 : isU8 Tryd.prog 72 = false := by kernel_rfl
theorem isIfc_72 : isIfc Tryd.prog 72 = false := by kernel_rfl
theorem ifcT_72 : ifcT Tryd.prog 72 = false := by kernel_rfl
theorem fieldsOk_72 : fieldsOk Tryd.prog 72 = true := by kernel_rfl
theorem seqT_72 : seqT Tryd.prog 72 = false := by kernel_rfl
theorem sliceable_72 : sliceable Tryd.prog 72 = false := by kernel_rfl
theorem szOf_73 : szOf Tryd.prog 73 = 1 := by kernel_rfl
theorem aggT_73 : aggT Tryd.prog 73 = some false := by kernel_rfl
theorem elemT_73 : elemT Tryd.prog 73 = none := by kernel_rfl
theorem bytesOf_73 : bytesOf Tryd.prog 73 = some 8 := by kernel_rfl
theorem zeroOf_73 : zeroOf Tryd.prog 73 = some [A.nilf] := by kernel_rfl
theorem arrT_73 : arrT Tryd.prog 73 = none := by kernel_rfl
theorem isStr_73 : isStr Tryd.prog 73 = false := by kernel_rfl
theorem isBool_73 : isBool Tryd.prog 73 = false := by kernel_rfl
theorem isPtr_73 : isPtr Tryd.prog 73 = false := by kernel_rfl
theorem isU8_73 : isU8 Tryd.prog 73 = false := by kernel_rfl
theorem isIfc_73 : isIfc Tryd.prog 73 = false := by kernel_rfl
theorem ifcT_73 : ifcT Tryd.prog 73 = false := by kernel_rfl
theorem seqT_73 : seqT Tryd.prog 73 = false := by kernel_rfl
theorem sliceable_73 : sliceable Tryd.prog 73 = false := by kernel_rfl
theorem szOf_74 : szOf Tryd.prog 74 = 1 := by kernel_rfl
theorem aggT_74 : aggT Tryd.prog 74 = some false := by kernel_rfl
theorem elemT_74 : elemT Tryd.prog 74 = none := by kernel_rfl
theorem bytesOf_74 : bytesOf Tryd.prog 74 = some 8 := by kernel_rfl
theorem zeroOf_74 : zeroOf Tryd.prog 74 = some [A.nilf] := by kernel_rfl
theorem arrT_74 : arrT Tryd.prog 74 = none := by kernel_rfl
theorem isStr_74 : isStr Tryd.prog 74 = false := by kernel_rfl
theorem isBool_74 : isBool Tryd.prog 74 = false := by kernel_rfl
theorem isPtr_74 : isPtr Tryd.prog 74 = false := by kernel_rfl
theorem isU8_74 : isU8 Tryd.prog 74 = false := by kernel_rfl
theorem isIfc_74 : isIfc Tryd.prog 74 = false := by kernel_rfl
theorem ifcT_74 : ifcT Tryd.prog 74 = false := by kernel_rfl
theorem seqT_74 : seqT Tryd.prog 74 = false := by kernel_rfl
theorem sliceable_74 : sliceable Tryd.prog 74 = false := by kernel_rfl
theorem szOf_75 : szOf Tryd.prog 75 = 1 := by kernel_rfl
theorem aggT_75 : aggT Tryd.prog 75 = some false := by kernel_rfl
theorem elemT_75 : elemT Tryd.prog 75 = none := by kernel_rfl
theorem bytesOf_75 : bytesOf Tryd.prog 75 = some 8 := by kernel_rfl
theorem zeroOf_75 : zeroOf Tryd.prog 75 = some [A.nilf] := by kernel_rfl
theorem arrT_75 : arrT Tryd.prog 75 = none := by kernel_rfl
theorem isStr_75 : isStr Tryd.prog 75 = false := by kernel_rfl
theorem isBool_75 : isBool Tryd.prog 75 = false := by kernel_rfl
theorem isPtr_75 : isPtr Tryd.prog 75 = false := by kernel_rfl
theorem isU8_75 : isU8 Tryd.prog 75 = false := by kernel_rfl
theorem isIfc_75 : isIfc Tryd.prog 75 = false := by kernel_rfl
theorem ifcT_75 : ifcT Tryd.prog 75 = false := by kernel_rfl
theorem seqT_75 : seqT Tryd.prog 75 = false := by kernel_rfl
theorem sliceable_75 : sliceable Tryd.prog 75 = false := by kernel_rfl
theorem szOf_76 : szOf Tryd.prog 76 = 256 := by kernel_rfl
theorem aggT_76 : aggT Tryd.prog 76 = some true := by kernel_rfl
theorem elemT_76 : elemT Tryd.prog 76 = none := by kernel_rfl
theorem bytesOf_76 : bytesOf Tryd.prog 76 = some 256 := by kernel_rfl
theorem arrT_76 : arrT Tryd.prog 76 = some (256, 4) := by kernel_rfl
theorem isStr_76 : isStr Tryd.prog 76 = false := by kernel_rfl
theorem isBool_76 : isBool Tryd.prog 76 = false := by kernel_rfl
theorem isPtr_76 : isPtr Tryd.prog 76 = false := by kernel_rfl
theorem isU8_76 : isU8 Tryd.prog 76 = false := by kernel_rfl
theorem isIfc_76 : isIfc Tryd.prog 76 = false := by kernel_rfl
theorem ifcT_76 : ifcT Tryd.prog 76 = false := by kernel_rfl
theorem fieldsOk_76 : fieldsOk Tryd.prog 76 = true := by kernel_rfl
theorem seqT_76 : seqT Tryd.prog 76 = false := by kernel_rfl
theorem sliceable_76 : sliceable Tryd.prog 76 = false := by kernel_rfl
theorem szOf_77 : szOf Tryd.prog 77 = 256 := by kernel_rfl
theorem aggT_77 : aggT Tryd.prog 77 = some true := by kernel_rfl
theorem elemT_77 : elemT Tryd.prog 77 = none := by kernel_rfl
theorem bytesOf_77 : bytesOf Tryd.prog 77 = some 256 := by kernel_rfl
theorem arrT_77 : arrT Tryd.prog 77 = some (256, 4) := by kernel_rfl
theorem isStr_77 : isStr Tryd.prog 77 = false := by kernel_rfl
theorem isBool_77 : isBool Tryd.prog 77 = false := by kernel_rfl
theorem isPtr_77 : isPtr Tryd.prog 77 = false := by kernel_rfl
theorem isU8_77 : isU8 Tryd.prog 77 = false := by kernel_rfl
theorem isIfc_77 : isIfc Tryd.prog 77 = false := by kernel_rfl
theorem ifcT_77 : ifcT Tryd.prog 77 = false := by kernel_rfl
theorem fieldsOk_77 : fieldsOk Tryd.prog 77 = true := by kernel_rfl
theorem seqT_77 : seqT Tryd.prog 77 = false := by kernel_rfl
theorem sliceable_77 : sliceable Tryd.prog 77 = false := by kernel_rfl
theorem szOf_79 : szOf Tryd.prog 79 = 1 := by kernel_rfl
theorem aggT_79 : aggT Tryd.prog 79 = some false := by kernel_rfl
theorem elemT_79 : elemT Tryd.prog 79 = none := by kernel_rfl
theorem bytesOf_79 : bytesOf Tryd.prog 79 = some 8 := by kernel_rfl
theorem zeroOf_79 : zeroOf Tryd.prog 79 = some [A.nilf] := by kernel_rfl
theorem arrT_79 : arrT Tryd.prog 79 = none := by kernel_rfl
theorem isStr_79 : isStr Tryd.prog 79 = false := by kernel_rfl
theorem isBool_79 : isBool Tryd.prog 79 = false := by kernel_rfl
theorem isPtr_79 : isPtr Tryd.prog 79 = false := by kernel_rfl
theorem isU8_79 : isU8 Tryd.prog 79 = false := by kernel_rfl
theorem isIfc_79 : isIfc Tryd.prog 79 = false := by kernel_rfl
theorem ifcT_79 : ifcT Tryd.prog 79 = false := by kernel_rfl
theorem seqT_79 : seqT Tryd.prog 79 = false := by kernel_rfl
theorem sliceable_79 : sliceable Tryd.prog 79 = false := by kernel_rfl
theorem szOf_80 : szOf Tryd.prog 80 = 1 := by kernel_rfl
theorem aggT_80 : aggT Tryd.prog 80 = some false := by kernel_rfl
theorem elemT_80 : elemT Tryd.prog 80 = none := by kernel_rfl
theorem bytesOf_80 : bytesOf Tryd.prog 80 = some 8 := by kernel_rfl
theorem zeroOf_80 : zeroOf Tryd.prog 80 = some [A.nilf] := by kernel_rfl
theorem arrT_80 : arrT Tryd.prog 80 = none := by kernel_rfl
theorem isStr_80 : isStr Tryd.prog 80 = false := by kernel_rfl
theorem isBool_80 : isBool Tryd.prog 80 = false := by kernel_rfl
theorem isPtr_80 : isPtr Tryd.prog 80 = false := by kernel_rfl
theorem isU8_80 : isU8 Tryd.prog 80 = false := by kernel_rfl
theorem isIfc_80 : isIfc Tryd.prog 80 = false := by kernel_rfl
theorem ifcT_80 : ifcT Tryd.prog 80 = false := by kernel_rfl
theorem seqT_80 : seqT Tryd.prog 80 = false := by kernel_rfl
theorem sliceable_80 : sliceable Tryd.prog 80 = false := by kernel_rfl
theorem szOf_81 : szOf Tryd.prog 81 = 1 := by kernel_rfl
theorem aggT_81 : aggT Tryd.prog 81 = some false := by kernel_rfl
theorem elemT_81 : elemT Tryd.prog 81 = none := by kernel_rfl
theorem bytesOf_81 : bytesOf Tryd.prog 81 = some 8 := by kernel_rfl
theorem zeroOf_81 : zeroOf Tryd.prog 81 = some [A.nilp] := by kernel_rfl
theorem arrT_81 : arrT Tryd.prog 81 = none := by kernel_rfl
theorem isStr_81 : isStr Tryd.prog 81 = false := by kernel_rfl
theorem isBool_81 : isBool Tryd.prog 81 = false := by kernel_rfl
theorem isPtr_81 : isPtr Tryd.prog 81 = true := by kernel_rfl
theorem isU8_81 : isU8 Tryd.prog 81 = false := by kernel_rfl
theorem isIfc_81 : isIfc Tryd.prog 81 = false := by kernel_rfl
theorem ifcT_81 : ifcT Tryd.prog 81 = false := by kernel_rfl
theorem seqT_81 : seqT Tryd.prog 81 = false := by kernel_rfl
theorem sliceable_81 : sliceable Tryd.prog 81 = false := by kernel_rfl
theorem szOf_82 : szOf Tryd.prog 82 = 1 := by kernel_rfl
theorem aggT_82 : aggT Tryd.prog 82 = some false := by kernel_rfl
theorem elemT_82 : elemT Tryd.prog 82 = none := by kernel_rfl
theorem bytesOf_82 : bytesOf Tryd.prog 82 = some 8 := by kernel_rfl
theorem zeroOf_82 : zeroOf Tryd.prog 82 = some [A.nilf] := by kernel_rfl
theorem arrT_82 : arrT Tryd.prog 82 = none := by kernel_rfl
theorem isStr_82 : isStr Tryd.prog 82 = false := by kernel_rfl
theorem isBool_82 : isBool Tryd.prog 82 = false := by kernel_rfl
theorem isPtr_82 : isPtr Tryd.prog 82 = false := by kernel_rfl
theorem isU8_82 : isU8 Tryd.prog 82 = false := by kernel_rfl
theorem isIfc_82 : isIfc Tryd.prog 82 = false := by kernel_rfl
theorem ifcT_82 : ifcT Tryd.prog 82 = false := by kernel_rfl
theorem seqT_82 : seqT Tryd.prog 82 = false := by kernel_rfl
theorem sliceable_82 : sliceable Tryd.prog 82 = false := by kernel_rfl
theorem szOf_83 : szOf Tryd.prog 83 = 1 := by kernel_rfl
theorem aggT_83 : aggT Tryd.prog 83 = some false := by kernel_rfl
theorem elemT_83 : elemT Tryd.prog 83 = none := by kernel_rfl
theorem bytesOf_83 : bytesOf Tryd.prog 83 = some 8 := by kernel_rfl
theorem zeroOf_83 : zeroOf Tryd.prog 83 = some [A.nilf] := by kernel_rfl
theorem arrT_83 : arrT Tryd.prog 83 = none := by kernel_rfl
theorem isStr_83 : isStr Tryd.prog 83 = false := by kernel_rfl
theorem isBool_83 : isBool Tryd.prog 83 = false := by kernel_rfl
theorem isPtr_83 : isPtr Tryd.prog 83 = false := by kernel_rfl
theorem isU8_83 : isU8 Tryd.prog 83 = false := by kernel_rfl
theorem isIfc_83 : isIfc Tryd.prog 83 = false := by kernel_rfl
theorem ifcT_83 : ifcT Tryd.prog 83 = false := by kernel_rfl
theorem seqT_83 : seqT Tryd.prog 83 = false := by kernel_rfl
theorem sliceable_83 : sliceable Tryd.prog 83 = false := by kernel_rfl
theorem szOf_84 : szOf Tryd.prog 84 = 1 := by kernel_rfl
theorem aggT_84 : aggT Tryd.prog 84 = some false := by kernel_rfl
theorem elemT_84 : elemT Tryd.prog 84 = none := by kernel_rfl
theorem bytesOf_84 : bytesOf Tryd.prog 84 = some 8 := by kernel_rfl
theorem zeroOf_84 : zeroOf Tryd.prog 84 = some [A.nilf] := by kernel_rfl
theorem arrT_84 : arrT Tryd.prog 84 = none := by kernel_rfl
theorem isStr_84 : isStr Tryd.prog 84 = false := by kernel_rfl
theorem isBool_84 : isBool Tryd.prog 84 = false := by kernel_rfl
theorem isPtr_84 : isPtr Tryd.prog 84 = false := by kernel_rfl
theorem isU8_84 : isU8 Tryd.prog 84 = false := by kernel_rfl
theorem isIfc_84 : isIfc Tryd.prog 84 = false := by kernel_rfl
theorem ifcT_84 : ifcT Tryd.prog 84 = false := by kernel_rfl
theorem seqT_84 : seqT Tryd.prog 84 = false := by kernel_rfl
theorem sliceable_84 : sliceable Tryd.prog 84 = false := by kernel_rfl
theorem szOf_85 : szOf Tryd.prog 85 = 1 := by kernel_rfl
theorem aggT_85 : aggT Tryd.prog 85 = some false := by kernel_rfl
theorem elemT_85 : elemT Tryd.prog 85 = none := by kernel_rfl
theorem bytesOf_85 : bytesOf Tryd.prog 85 = some 8 := by kernel_rfl
theorem zeroOf_85 : zeroOf Tryd.prog 85 = some [A.nilf] := by kernel_rfl
theorem arrT_85 : arrT Tryd.prog 85 = none := by kernel_rfl
theorem isStr_85 : isStr Tryd.prog 85 = false := by kernel_rfl
theorem isBool_85 : isBool Tryd.prog 85 = false := by kernel_rfl
theorem isPtr_85 : isPtr Tryd.prog 85 = false := by kernel_rfl
theorem isU8_85 : isU8 Tryd.prog 85 = false := by kernel_rfl
theorem isIfc_85 : isIfc Tryd.prog 85 = false := by kernel_rfl
theorem ifcT_85 : ifcT Tryd.prog 85 = false := by kernel_rfl
theorem seqT_85 : seqT Tryd.prog 85 = false := by kernel_rfl
theorem sliceable_85 : sliceable Tryd.prog 85 = false := by kernel_rfl
theorem szOf_86 : szOf Tryd.prog 86 = 1 := by kernel_rfl
theorem aggT_86 : aggT Tryd.prog 86 = some false := by kernel_rfl
theorem elemT_86 : elemT Tryd.prog 86 = none := by kernel_rfl
theorem bytesOf_86 : bytesOf Tryd.prog 86 = some 8 := by kernel_rfl
theorem zeroOf_86 : zeroOf Tryd.prog 86 = some [A.nilf] := by kernel_rfl
theorem arrT_86 : arrT Tryd.prog 86 = none := by kernel_rfl
theorem isStr_86 : isStr Tryd.prog 86 = false := by kernel_rfl
theorem isBool_86 : isBool Tryd.prog 86 = false := by kernel_rfl
theorem isPtr_86 : isPtr Tryd.prog 86 = false := by kernel_rfl
theorem isU8_86 : isU8 Tryd.prog 86 = false := by kernel_rfl
theorem isIfc_86 : isIfc Tryd.prog 86 = false := by kernel_rfl
theorem ifcT_86 : ifcT Tryd.prog 86 = false := by kernel_rfl
theorem seqT_86 : seqT Tryd.prog 86 = false := by kernel_rfl
theorem sliceable_86 : sliceable Tryd.prog 86 = false := by kernel_rfl
theorem szOf_87 : szOf Tryd.prog 87 = 1 := by kernel_rfl
theorem aggT_87 : aggT Tryd.prog 87 = some false := by kernel_rfl
theorem elemT_87 : elemT Tryd.prog 87 = none := by kernel_rfl
theorem bytesOf_87 : bytesOf Tryd.prog 87 = some 8 := by kernel_rfl
theorem zeroOf_87 : zeroOf Tryd.prog 87 = some [A.nilf] := by kernel_rfl
theorem arrT_87 : arrT Tryd.prog 87 = none := by kernel_rfl
theorem isStr_87 : isStr Tryd.prog 87 = false := by kernel_rfl
theorem isBool_87 : isBool Tryd.prog 87 = false := by kernel_rfl
theorem isPtr_87 : isPtr Tryd.prog 87 = false := by kernel_rfl
theorem isU8_87 : isU8 Tryd.prog 87 = false := by kernel_rfl
theorem isIfc_87 : isIfc Tryd.prog 87 = false := by kernel_rfl
theorem ifcT_87 : ifcT Tryd.prog 87 = false := by kernel_rfl
theorem seqT_87 : seqT Tryd.prog 87 = false := by kernel_rfl
theorem sliceable_87 : sliceable Tryd.prog 87 = false := by kernel_rfl
theorem szOf_88 : szOf Tryd.prog 88 = 1 := by kernel_rfl
theorem aggT_88 : aggT Tryd.prog 88 = some false := by kernel_rfl
theorem elemT_88 : elemT Tryd.prog 88 = none := by kernel_rfl
theorem bytesOf_88 : bytesOf Tryd.prog 88 = some 16 := by kernel_rfl
theorem zeroOf_88 : zeroOf Tryd.prog 88 = some [A.nili] := by kernel_rfl
theorem arrT_88 : arrT Tryd.prog 88 = none := by kernel_rfl
theorem isStr_88 : isStr Tryd.prog 88 = false := by kernel_rfl
theorem isBool_88 : isBool Tryd.prog 88 = false := by kernel_rfl
theorem isPtr_88 : isPtr Tryd.prog 88 = false := by kernel_rfl
theorem isU8_88 : isU8 Tryd.prog 88 = false := by kernel_rfl
theorem isIfc_88 : isIfc Tryd.prog 88 = true := by kernel_rfl
theorem ifcT_88 : ifcT Tryd.prog 88 = true := by kernel_rfl
theorem seqT_88 : seqT Tryd.prog 88 = false := by kernel_rfl
theorem sliceable_88 : sliceable Tryd.prog 88 = false := by kernel_rfl
theorem szOf_89 : szOf Tryd.prog 89 = 1 := by kernel_rfl
theorem aggT_89 : aggT Tryd.prog 89 = some false := by kernel_rfl
theorem elemT_89 : elemT Tryd.prog 89 = none := by kernel_rfl
theorem bytesOf_89 : bytesOf Tryd.prog 89 = some 16 := by kernel_rfl
theorem zeroOf_89 : zeroOf Tryd.prog 89 = some [A.nili] := by kernel_rfl
theorem arrT_89 : arrT Tryd.prog 89 = none := by kernel_rfl
theorem isStr_89 : isStr Tryd.prog 89 = false := by kernel_rfl
theorem isBool_89 : isBool Tryd.prog 89 = false := by kernel_rfl
theorem isPtr_89 : isPtr Tryd.prog 89 = false := by kernel_rfl
theorem isU8_89 : isU8 Tryd.prog 89 = false := by kernel_rfl
theorem isIfc_89 : isIfc Tryd.prog 89 = true := by kernel_rfl
theorem ifcT_89 : ifcT Tryd.prog 89 = true := by kernel_rfl
theorem seqT_89 : seqT Tryd.prog 89 = false := by kernel_rfl
theorem sliceable_89 : sliceable Tryd.prog 89 = false := by kernel_rfl
theorem szOf_91 : szOf Tryd.prog 91 = 1 := by kernel_rfl
theorem aggT_91 : aggT Tryd.prog 91 = some false := by kernel_rfl
theorem elemT_91 : elemT Tryd.prog 91 = none := by kernel_rfl
theorem bytesOf_91 : bytesOf Tryd.prog 91 = some 8 := by kernel_rfl
theorem zeroOf_91 : zeroOf Tryd.prog 91 = some [A.nilf] := by kernel_rfl
theorem arrT_91 : arrT Tryd.prog 91 = none := by kernel_rfl
theorem isStr_91 : isStr Tryd.prog 91 = false := by kernel_rfl
theorem isBool_91 : isBool Tryd.prog 91 = false := by kernel_rfl
theorem isPtr_91 : isPtr Tryd.prog 91 = false := by kernel_rfl
theorem isU8_91 : isU8 Tryd.prog 91 = false := by kernel_rfl
theorem isIfc_91 : isIfc Tryd.prog 91 = false := by kernel_rfl
theorem ifcT_91 : ifcT Tryd.prog 91 = false := by kernel_rfl
theorem seqT_91 : seqT Tryd.prog 91 = false := by kernel_rfl
theorem sliceable_91 : sliceable Tryd.prog 91 = false := by kernel_rfl
theorem szOf_93 : szOf Tryd.prog 93 = 1 := by kernel_rfl
theorem aggT_93 : aggT Tryd.prog 93 = some false := by kernel_rfl
theorem elemT_93 : elemT Tryd.prog 93 = none := by kernel_rfl
theorem bytesOf_93 : bytesOf Tryd.prog 93 = some 8 := by kernel_rfl
theorem zeroOf_93 : zeroOf Tryd.prog 93 = some [A.nilf] := by kernel_rfl
theorem arrT_93 : arrT Tryd.prog 93 = none := by kernel_rfl
theorem isStr_93 : isStr Tryd.prog 93 = false := by kernel_rfl
theorem isBool_93 : isBool Tryd.prog 93 = false := by kernel_rfl
theorem isPtr_93 : isPtr Tryd.prog 93 = false := by kernel_rfl
theorem isU8_93 : isU8 Tryd.prog 93 = false := by kernel_rfl
theorem isIfc_93 : isIfc Tryd.prog 93 = false := by kernel_rfl
theorem ifcT_93 : ifcT Tryd.prog 93 = false := by kernel_rfl
theorem seqT_93 : seqT Tryd.prog 93 = false := by kernel_rfl
theorem sliceable_93 : sliceable Tryd.prog 93 = false := by kernel_rfl
theorem szOf_94 : szOf Tryd.prog 94 = 1 := by kernel_rfl
theorem aggT_94 : aggT Tryd.prog 94 = some false := by kernel_rfl
theorem elemT_94 : elemT Tryd.prog 94 = none := by kernel_rfl
theorem bytesOf_94 : bytesOf Tryd.prog 94 = some 8 := by kernel_rfl
theorem zeroOf_94 : zeroOf Tryd.prog 94 = some [A.nilf] := by kernel_rfl
theorem arrT_94 : arrT Tryd.prog 94 = none := by kernel_rfl
theorem isStr_94 : isStr Tryd.prog 94 = false := by kernel_rfl
theorem isBool_94 : isBool Tryd.prog 94 = false := by kernel_rfl
theorem isPtr_94 : isPtr Tryd.prog 94 = false := by kernel_rfl
theorem isU8_94 : isU8 Tryd.prog 94 = false := by kernel_rfl
theorem isIfc_94 : isIfc Tryd.prog 94 = false := by kernel_rfl
theorem ifcT_94 : ifcT Tryd.prog 94 = false := by kernel_rfl
theorem seqT_94 : seqT Tryd.prog 94 = false := by kernel_rfl
theorem sliceable_94 : sliceable Tryd.prog 94 = false := by kernel_rfl
theorem szOf_95 : szOf Tryd.prog 95 = 24 := by kernel_rfl
theorem aggT_95 : aggT Tryd.prog 95 = some true := by kernel_rfl
theorem elemT_95 : elemT Tryd.prog 95 = none := by kernel_rfl
theorem bytesOf_95 : bytesOf Tryd.prog 95 = some 24 := by kernel_rfl
theorem zeroOf_95 : zeroOf Tryd.prog 95 = some [A.int .u8 0, A.int .u8 0, A.int .u8 0, A.int .u8 0, A.int .u8 0, A.int .u8 0, A.int .u8 0, A.int .u8 0, A.int .u8 0, A.int .u8 0, A.int .u8 0, A.int .u8 0, A.int .u8 0, A.int .u8 0, A.int .u8 0, A.int .u8 0, A.int .u8 0, A.int .u8 0, A.int .u8 0, A.int .u8 0, A.int .u8 0, A.int .u8 0, A.int .u8 0, A.int .u8 0] := by kernel_rfl
theorem arrT_95 : arrT Tryd.prog 95 = some (24, 5) := by kernel_rfl
theorem isStr_95 : isStr Tryd.prog 95 = false := by kernel_rfl
theorem isBool_95 : isBool Tryd.prog 95 = false := by kernel_rfl
theorem isPtr_95 : isPtr Tryd.prog 95 = false := by kernel_rfl
theorem isU8_95 : isU8 Tryd.prog 95 = false := by kernel_rfl
theorem isIfc_95 : isIfc Tryd.prog 95 = false := by kernel_rfl
theorem ifcT_95 : ifcT Tryd.prog 95 = false := by kernel_rfl
theorem fieldsOk_95 : fieldsOk Tryd.prog 95 = true := by kernel_rfl
theorem seqT_95 : seqT Tryd.prog 95 = false := by kernel_rfl
theorem sliceable_95 : sliceable Tryd.prog 95 = false := by kernel_rfl
theorem szOf_96 : szOf Tryd.prog 96 = 1 := by kernel_rfl
theorem aggT_96 : aggT Tryd.prog 96 = some false := by kernel_rfl
theorem elemT_96 : elemT Tryd.prog 96 = none := by kernel_rfl
theorem bytesOf_96 : bytesOf Tryd.prog 96 = some 8 := by kernel_rfl
theorem zeroOf_96 : zeroOf Tryd.prog 96 = some [A.int .u64 0] := by kernel_rfl
theorem arrT_96 : arrT Tryd.prog 96 = none := by kernel_rfl
theorem isStr_96 : isStr Tryd.prog 96 = false := by kernel_rfl
theorem isBool_96 : isBool Tryd.prog 96 = false := by kernel_rfl
theorem isPtr_96 : isPtr Tryd.prog 96 = false := by kernel_rfl
theorem isU8_96 : isU8 Tryd.prog 96 = false := by kernel_rfl
theorem isIfc_96 : isIfc Tryd.prog 96 = false := by kernel_rfl
theorem ifcT_96 : ifcT Tryd.prog 96 = false := by kernel_rfl
theorem seqT_96 : seqT Tryd.prog 96 = false := by kernel_rfl
theorem sliceable_96 : sliceable Tryd.prog 96 = false := by kernel_rfl
theorem szOf_97 : szOf Tryd.prog 97 = 1 := by kernel_rfl
theorem aggT_97 : aggT Tryd.prog 97 = some false := by kernel_rfl
theorem elemT_97 : elemT Tryd.prog 97 = none := by kernel_rfl
theorem bytesOf_97 : bytesOf Tryd.prog 97 = some 8 := by kernel_rfl
theorem zeroOf_97 : zeroOf Tryd.prog 97 = some [A.nilf] := by kernel_rfl
theorem arrT_97 : arrT Tryd.prog 97 = none := by kernel_rfl
theorem isStr_97 : isStr Tryd.prog 97 = false := by kernel_rfl
theorem isBool_97 : isBool Tryd.prog 97 = false := by kernel_rfl
theorem isPtr_97 : isPtr Tryd.prog 97 = false := by kernel_rfl
theorem isU8_97 : isU8 Tryd.prog 97 = false := by kernel_rfl
theorem isIfc_97 : isIfc Tryd.prog 97 = false := by kernel_rfl
theorem ifcT_97 : ifcT Tryd.prog 97 = false := by kernel_rfl
theorem seqT_97 : seqT Tryd.prog 97 = false := by kernel_rfl
theorem sliceable_97 : sliceable Tryd.prog 97 = false := by kernel_rfl
theorem szOf_98 : szOf Tryd.prog 98 = 1 := by kernel_rfl
theorem aggT_98 : aggT Tryd.prog 98 = some false := by kernel_rfl
theorem elemT_98 : elemT Tryd.prog 98 = none := by kernel_rfl
theorem bytesOf_98 : bytesOf Tryd.prog 98 = some 8 := by kernel_rfl
theorem zeroOf_98 : zeroOf Tryd.prog 98 = some [A.nilf] := by kernel_rfl
theorem arrT_98 : arrT Tryd.prog 98 = none := by kernel_rfl
theorem isStr_98 : isStr Tryd.prog 98 = false := by kernel_rfl
theorem isBool_98 : isBool Tryd.prog 98 = false := by kernel_rfl
theorem isPtr_98 : isPtr Tryd.prog 98 = false := by kernel_rfl
theorem isU8_98 : isU8 Tryd.prog 98 = false := by kernel_rfl
theorem isIfc_98 : isIfc Tryd.prog 98 = false := by kernel_rfl
theorem ifcT_98 : ifcT Tryd.prog 98 = false := by kernel_rfl
theorem seqT_98 : seqT Tryd.prog 98 = false := by kernel_rfl
theorem sliceable_98 : sliceable Tryd.prog 98 = false := by kernel_rfl
theorem szOf_100 : szOf Tryd.prog 100 = 1 := by kernel_rfl
theorem aggT_100 : aggT Tryd.prog 100 = some false := by kernel_rfl
theorem elemT_100 : elemT Tryd.prog 100 = none := by kernel_rfl
theorem bytesOf_100 : bytesOf Tryd.prog 100 = some 8 := by kernel_rfl
theorem zeroOf_100 : zeroOf Tryd.prog 100 = some [A.nilf] := by kernel_rfl
theorem arrT_100 : arrT Tryd.prog 100 = none := by kernel_rfl
theorem isStr_100 : isStr Tryd.prog 100 = false := by kernel_rfl
theorem isBool_100 : isBool Tryd.prog 100 = false := by kernel_rfl
theorem isPtr_100 : isPtr Tryd.prog 100 = false := by kernel_rfl
theorem isU8_100 : isU8 Tryd.prog 100 = false := by kernel_rfl
theorem isIfc_100 : isIfc Tryd.prog 100 = false := by kernel_rfl
theorem ifcT_100 : ifcT Tryd.prog 100 = false := by kernel_rfl
theorem seqT_100 : seqT Tryd.prog 100 = false := by kernel_rfl
theorem sliceable_100 : sliceable Tryd.prog 100 = false := by kernel_rfl
theorem szOf_101 : szOf Tryd.prog 101 = 1 := by kernel_rfl
theorem aggT_101 : aggT Tryd.prog 101 = some false := by kernel_rfl
theorem elemT_101 : elemT Tryd.prog 101 = none := by kernel_rfl
theorem bytesOf_101 : bytesOf Tryd.prog 101 = some 8 := by kernel_rfl
theorem zeroOf_101 : zeroOf Tryd.prog 101 = some [A.nilf] := by kernel_rfl
theorem arrT_101 : arrT Tryd.prog 101 = none := by kernel_rfl
theorem isStr_101 : isStr Tryd.prog 101 = false := by kernel_rfl
theorem isBool_101 : isBool Tryd.prog 101 = false := by kernel_rfl
theorem isPtr_101 : isPtr Tryd.prog 101 = false := by kernel_rfl
theorem isU8_101 : isU8 Tryd.prog 101 = false := by kernel_rfl
theorem isIfc_101 : isIfc Tryd.prog 101 = false := by kernel_rfl
theorem ifcT_101 : ifcT Tryd.prog 101 = false := by kernel_rfl
theorem seqT_101 : seqT Tryd.prog 101 = false := by kernel_rfl
theorem sliceable_101 : sliceable Tryd.prog 101 = false := by kernel_rfl
theorem szOf_102 : szOf Tryd.prog 102 = 1 := by kernel_rfl
theorem aggT_102 : aggT Tryd.prog 102 = some false := by kernel_rfl
theorem elemT_102 : elemT Tryd.prog 102 = none := by kernel_rfl
theorem bytesOf_102 : bytesOf Tryd.prog 102 = some 8 := by kernel_rfl
theorem zeroOf_102 : zeroOf Tryd.prog 102 = some [A.nilf] := by kernel_rfl
theorem arrT_102 : arrT Tryd.prog 102 = none := by kernel_rfl
theorem isStr_102 : isStr Tryd.prog 102 = false := by kernel_rfl
theorem isBool_102 : isBool Tryd.prog 102 = false := by kernel_rfl
theorem isPtr_102 : isPtr Tryd.prog 102 = false := by kernel_rfl
theorem isU8_102 : isU8 Tryd.prog 102 = false := by kernel_rfl
theorem isIfc_102 : isIfc Tryd.prog 102 = false := by kernel_rfl
theorem ifcT_102 : ifcT Tryd.prog 102 = false := by kernel_rfl
theorem seqT_102 : seqT Tryd.prog 102 = false := by kernel_rfl
theorem sliceable_102 : sliceable Tryd.prog 102 = false := by kernel_rfl
theorem szOf_103 : szOf Tryd.prog 103 = 1 := by kernel_rfl
theorem aggT_103 : aggT Tryd.prog 103 = some false := by kernel_rfl
theorem elemT_103 : elemT Tryd.prog 103 = none := by kernel_rfl
theorem bytesOf_103 : bytesOf Tryd.prog 103 = some 8 := by kernel_rfl
theorem zeroOf_103 : zeroOf Tryd.prog 103 = some [A.nilf] := by kernel_rfl
theorem arrT_103 : arrT Tryd.prog 103 = none := by kernel_rfl
theorem isStr_103 : isStr Tryd.prog 103 = false := by kernel_rfl
theorem isBool_103 : isBool Tryd.prog 103 = false := by kernel_rfl
theorem isPtr_103 : isPtr Tryd.prog 103 = false := by kernel_rfl
theorem isU8_103 : isU8 Tryd.prog 103 = false := by kernel_rfl
theorem isIfc_103 : isIfc Tryd.prog 103 = false := by kernel_rfl
theorem ifcT_103 : ifcT Tryd.prog 103 = false := by kernel_rfl
theorem seqT_103 : seqT Tryd.prog 103 = false := by kernel_rfl
theorem sliceable_103 : sliceable Tryd.prog 103 = false := by kernel_rfl
theorem szOf_104 : szOf Tryd.prog 104 = 20 := by kernel_rfl
theorem aggT_104 : aggT Tryd.prog 104 = some true := by kernel_rfl
theorem elemT_104 : elemT Tryd.prog 104 = none := by kernel_rfl
theorem bytesOf_104 : bytesOf Tryd.prog 104 = some 160 := by kernel_rfl
theorem zeroOf_104 : zeroOf Tryd.prog 104 = some [A.int .u64 0, A.int .u64 0, A.int .u64 0, A.int .u64 0, A.int .u64 0, A.int .u64 0, A.int .u64 0, A.int .u64 0, A.int .u64 0, A.int .u64 0, A.int .u64 0, A.int .u64 0, A.int .u64 0, A.int .u64 0, A.int .u64 0, A.int .u64 0, A.int .u64 0, A.int .u64 0, A.int .u64 0, A.int .u64 0] := by kernel_rfl
theorem arrT_104 : arrT Tryd.prog 104 = some (20, 96) := by kernel_rfl
theorem isStr_104 : isStr Tryd.prog 104 = false := by kernel_rfl
theorem isBool_104 : isBool Tryd.prog 104 = false := by kernel_rfl
theorem isPtr_104 : isPtr Tryd.prog 104 = false := by kernel_rfl
theorem isU8_104 : isU8 Tryd.prog 104 = false := by kernel_rfl
theorem isIfc_104 : isIfc Tryd.prog 104 = false := by kernel_rfl
theorem ifcT_104 : ifcT Tryd.prog 104 = false := by kernel_rfl
theorem fieldsOk_104 : fieldsOk Tryd.prog 104 = true := by kernel_rfl
theorem seqT_104 : seqT Tryd.prog 104 = false := by kernel_rfl
theorem sliceable_104 : sliceable Tryd.prog 104 = false := by kernel_rfl
theorem szOf_105 : szOf Tryd.prog 105 = 1 := by kernel_rfl
theorem aggT_105 : aggT Tryd.prog 105 = some false := by kernel_rfl
theorem elemT_105 : elemT Tryd.prog 105 = none := by kernel_rfl
theorem bytesOf_105 : bytesOf Tryd.prog 105 = some 4 := by kernel_rfl
theorem zeroOf_105 : zeroOf Tryd.prog 105 = some [A.int .u32 0] := by kernel_rfl
theorem arrT_105 : arrT Tryd.prog 105 = none := by kernel_rfl
theorem isStr_105 : isStr Tryd.prog 105 = false := by kernel_rfl
theorem isBool_105 : isBool Tryd.prog 105 = false := by kernel_rfl
theorem isPtr_105 : isPtr Tryd.prog 105 = false := by kernel_rfl
theorem isU8_105 : isU8 Tryd.prog 105 = false := by kernel_rfl
theorem isIfc_105 : isIfc Tryd.prog 105 = false := by kernel_rfl
theorem ifcT_105 : ifcT Tryd.prog 105 = false := by kernel_rfl
theorem seqT_105 : seqT Tryd.prog 105 = false := by kernel_rfl
theorem sliceable_105 : sliceable Tryd.prog 105 = false := by kernel_rfl
theorem szOf_106 : szOf Tryd.prog 106 = 65 := by kernel_rfl
theorem aggT_106 : aggT Tryd.prog 106 = some true := by kernel_rfl
theorem elemT_106 : elemT Tryd.prog 106 = none := by kernel_rfl
theorem bytesOf_106 : bytesOf Tryd.prog 106 = some 65 := by kernel_rfl
theorem arrT_106 : arrT Tryd.prog 106 = some (65, 5) := by kernel_rfl
theorem isStr_106 : isStr Tryd.prog 106 = false := by kernel_rfl
theorem isBool_106 : isBool Tryd.prog 106 = false := by kernel_rfl
theorem isPtr_106 : isPtr Tryd.prog 106 = false := by kernel_rfl
theorem isU8_106 : isU8 Tryd.prog 106 = false := by kernel_rfl
theorem isIfc_106 : isIfc Tryd.prog 106 = false := by kernel_rfl
theorem ifcT_106 : ifcT Tryd.prog 106 = false := by kernel_rfl
theorem fieldsOk_106 : fieldsOk Tryd.prog 106 = true := by kernel_rfl
theorem seqT_106 : seqT Tryd.prog 106 = false := by kernel_rfl
theorem sliceable_106 : sliceable Tryd.prog 106 = false := by kernel_rfl
theorem szOf_107 : szOf Tryd.prog 107 = 1 := by kernel_rfl
theorem aggT_107 : aggT Tryd.prog 107 = some false := by kernel_rfl
theorem elemT_107 : elemT Tryd.prog 107 = none := by kernel_rfl
theorem bytesOf_107 : bytesOf Tryd.prog 107 = some 8 := by kernel_rfl
theorem zeroOf_107 : zeroOf Tryd.prog 107 = some [A.int .u64 0] := by kernel_rfl
theorem arrT_107 : arrT Tryd.prog 107 = none := by kernel_rfl
theorem isStr_107 : isStr Tryd.prog 107 = false := by kernel_rfl
theorem isBool_107 : isBool Tryd.prog 107 = false := by kernel_rfl
theorem isPtr_107 : isPtr Tryd.prog 107 = false := by kernel_rfl
theorem isU8_107 : isU8 Tryd.prog 107 = false := by kernel_rfl
theorem isIfc_107 : isIfc Tryd.prog 107 = false := by kernel_rfl
theorem ifcT_107 : ifcT Tryd.prog 107 = false := by kernel_rfl
theorem seqT_107 : seqT Tryd.prog 107 = false := by kernel_rfl
theorem sliceable_107 : sliceable Tryd.prog 107 = false := by kernel_rfl
theorem szOf_108 : szOf Tryd.prog 108 = 1 := by kernel_rfl
theorem aggT_108 : aggT Tryd.prog 108 = some false := by kernel_rfl
theorem elemT_108 : elemT Tryd.prog 108 = none := by kernel_rfl
theorem bytesOf_108 : bytesOf Tryd.prog 108 = some 8 := by kernel_rfl
theorem zeroOf_108 : zeroOf Tryd.prog 108 = some [A.nilf] := by kernel_rfl
theorem arrT_108 : arrT Tryd.prog 108 = none := by kernel_rfl
theorem isStr_108 : isStr Tryd.prog 108 = false := by kernel_rfl
theorem isBool_108 : isBool Tryd.prog 108 = false := by kernel_rfl
theorem isPtr_108 : isPtr Tryd.prog 108 = false := by kernel_rfl
theorem isU8_108 : isU8 Tryd.prog 108 = false := by kernel_rfl
theorem isIfc_108 : isIfc Tryd.prog 108 = false := by kernel_rfl
theorem ifcT_108 : ifcT Tryd.prog 108 = false := by kernel_rfl
theorem seqT_108 : seqT Tryd.prog 108 = false := by kernel_rfl
theorem sliceable_108 : sliceable Tryd.prog 108 = false := by kernel_rfl
theorem szOf_109 : szOf Tryd.prog 109 = 1 := by kernel_rfl
theorem aggT_109 : aggT Tryd.prog 109 = some false := by kernel_rfl
theorem elemT_109 : elemT Tryd.prog 109 = none := by kernel_rfl
theorem bytesOf_109 : bytesOf Tryd.prog 109 = some 8 := by kernel_rfl
theorem zeroOf_109 : zeroOf Tryd.prog 109 = some [A.int .i64 0] := by kernel_rfl
theorem arrT_109 : arrT Tryd.prog 109 = none := by kernel_rfl
theorem isStr_109 : isStr Tryd.prog 109 = false := by kernel_rfl
theorem isBool_109 : isBool Tryd.prog 109 = false := by kernel_rfl
theorem isPtr_109 : isPtr Tryd.prog 109 = false := by kernel_rfl
theorem isU8_109 : isU8 Tryd.prog 109 = false := by kernel_rfl
theorem isIfc_109 : isIfc Tryd.prog 109 = false := by kernel_rfl
theorem ifcT_109 : ifcT Tryd.prog 109 = false := by kernel_rfl
theorem seqT_109 : seqT Tryd.prog 109 = false := by kernel_rfl
theorem sliceable_109 : sliceable Tryd.prog 109 = false := by kernel_rfl
theorem szOf_111 : szOf Tryd.prog 111 = 1 := by kernel_rfl
theorem aggT_111 : aggT Tryd.prog 111 = some false := by kernel_rfl
theorem elemT_111 : elemT Tryd.prog 111 = none := by kernel_rfl
theorem bytesOf_111 : bytesOf Tryd.prog 111 = some 8 := by kernel_rfl
theorem zeroOf_111 : zeroOf Tryd.prog 111 = some [A.nilf] := by kernel_rfl
theorem arrT_111 : arrT Tryd.prog 111 = none := by kernel_rfl
theorem isStr_111 : isStr Tryd.prog 111 = false := by kernel_rfl
theorem isBool_111 : isBool Tryd.prog 111 = false := by kernel_rfl
theorem isPtr_111 : isPtr Tryd.prog 111 = false := by kernel_rfl
theorem isU8_111 : isU8 Tryd.prog 111 = false := by kernel_rfl
theorem isIfc_111 : isIfc Tryd.prog 111 = false := by kernel_rfl
theorem ifcT_111 : ifcT Tryd.prog 111 = false := by kernel_rfl
theorem seqT_111 : seqT Tryd.prog 111 = false := by kernel_rfl
theorem sliceable_111 : sliceable Tryd.prog 111 = false := by kernel_rfl
theorem szOf_112 : szOf Tryd.prog 112 = 1 := by kernel_rfl
theorem aggT_112 : aggT Tryd.prog 112 = some false := by kernel_rfl
theorem elemT_112 : elemT Tryd.prog 112 = none := by kernel_rfl
theorem bytesOf_112 : bytesOf Tryd.prog 112 = some 8 := by kernel_rfl
theorem zeroOf_112 : zeroOf Tryd.prog 112 = some [A.nilp] := by kernel_rfl
theorem arrT_112 : arrT Tryd.prog 112 = none := by kernel_rfl
theorem isStr_112 : isStr Tryd.prog 112 = false := by kernel_rfl
theorem isBool_112 : isBool Tryd.prog 112 = false := by kernel_rfl
theorem isPtr_112 : isPtr Tryd.prog 112 = true := by kernel_rfl
theorem isU8_112 : isU8 Tryd.prog 112 = false := by kernel_rfl
theorem isIfc_112 : isIfc Tryd.prog 112 = false := by kernel_rfl
theorem ifcT_112 : ifcT Tryd.prog 112 = false := by kernel_rfl
theorem seqT_112 : seqT Tryd.prog 112 = false := by kernel_rfl
theorem sliceable_112 : sliceable Tryd.prog 112 = false := by kernel_rfl
theorem szOf_113 : szOf Tryd.prog 113 = 1 := by kernel_rfl
theorem aggT_113 : aggT Tryd.prog 113 = some false := by kernel_rfl
theorem elemT_113 : elemT Tryd.prog 113 = none := by kernel_rfl
theorem bytesOf_113 : bytesOf Tryd.prog 113 = some 8 := by kernel_rfl
theorem zeroOf_113 : zeroOf Tryd.prog 113 = some [A.nilf] := by kernel_rfl
theorem arrT_113 : arrT Tryd.prog 113 = none := by kernel_rfl
theorem isStr_113 : isStr Tryd.prog 113 = false := by kernel_rfl
theorem isBool_113 : isBool Tryd.prog 113 = false := by kernel_rfl
theorem isPtr_113 : isPtr Tryd.prog 113 = false := by kernel_rfl
theorem isU8_113 : isU8 Tryd.prog 113 = false := by kernel_rfl
theorem isIfc_113 : isIfc Tryd.prog 113 = false := by kernel_rfl
theorem ifcT_113 : ifcT Tryd.prog 113 = false := by kernel_rfl
theorem seqT_113 : seqT Tryd.prog 113 = false := by kernel_rfl
theorem sliceable_113 : sliceable Tryd.prog 113 = false := by kernel_rfl
theorem szOf_114 : szOf Tryd.prog 114 = 1 := by kernel_rfl
theorem aggT_114 : aggT Tryd.prog 114 = some false := by kernel_rfl
theorem elemT_114 : elemT Tryd.prog 114 = none := by kernel_rfl
theorem bytesOf_114 : bytesOf Tryd.prog 114 = some 8 := by kernel_rfl
theorem zeroOf_114 : zeroOf Tryd.prog 114 = some [A.nilf] := by kernel_rfl
theorem arrT_114 : arrT Tryd.prog 114 = none := by kernel_rfl
theorem isStr_114 : isStr Tryd.prog 114 = false := by kernel_rfl
theorem isBool_114 : isBool Tryd.prog 114 = false := by kernel_rfl
theorem isPtr_114 : isPtr Tryd.prog 114 = false := by kernel_rfl
theorem isU8_114 : isU8 Tryd.prog 114 = false := by kernel_rfl
theorem isIfc_114 : isIfc Tryd.prog 114 = false := by kernel_rfl
theorem ifcT_114 : ifcT Tryd.prog 114 = false := by kernel_rfl
theorem seqT_114 : seqT Tryd.prog 114 = false := by kernel_rfl
theorem sliceable_114 : sliceable Tryd.prog 114 = false := by kernel_rfl
theorem szOf_115 : szOf Tryd.prog 115 = 256 := by kernel_rfl
theorem aggT_115 : aggT Tryd.prog 115 = some true := by kernel_rfl
theorem elemT_115 : elemT Tryd.prog 115 = none := by kernel_rfl
theorem bytesOf_115 : bytesOf Tryd.prog 115 = some 256 := by kernel_rfl
theorem arrT_115 : arrT Tryd.prog 115 = some (256, 5) := by kernel_rfl
theorem isStr_115 : isStr Tryd.prog 115 = false := by kernel_rfl
theorem isBool_115 : isBool Tryd.prog 115 = false := by kernel_rfl
theorem isPtr_115 : isPtr Tryd.prog 115 = false := by kernel_rfl
theorem isU8_115 : isU8 Tryd.prog 115 = false := by kernel_rfl
theorem isIfc_115 : isIfc Tryd.prog 115 = false := by kernel_rfl
theorem ifcT_115 : ifcT Tryd.prog 115 = false := by kernel_rfl
theorem fieldsOk_115 : fieldsOk Tryd.prog 115 = true := by kernel_rfl
theorem seqT_115 : seqT Tryd.prog 115 = false := by kernel_rfl
theorem sliceable_115 : sliceable Tryd.prog 115 = false := by kernel_rfl
theorem szOf_116 : szOf Tryd.prog 116 = 2 := by kernel_rfl
theorem aggT_116 : aggT Tryd.prog 116 = some true := by kernel_rfl
theorem elemT_116 : elemT Tryd.prog 116 = none := by kernel_rfl
theorem bytesOf_116 : bytesOf Tryd.prog 116 = some 2 := by kernel_rfl
theorem zeroOf_116 : zeroOf Tryd.prog 116 = some [A.int .u8 0, A.int .u8 0] := by kernel_rfl
theorem arrT_116 : arrT Tryd.prog 116 = none := by kernel_rfl
theorem fieldT_116_0 : fieldT Tryd.prog 116 0 = some (0, 5) := by kernel_rfl
theorem fieldT_116_1 : fieldT Tryd.prog 116 1 = some (1, 5) := by kernel_rfl
theorem isStr_116 : isStr Tryd.prog 116 = false := by kernel_rfl
theorem isBool_116 : isBool Tryd.prog 116 = false := by kernel_rfl
theorem isPtr_116 : isPtr Tryd.prog 116 = false := by kernel_rfl
theorem isU8_116 : isU8 Tryd.prog 116 = false := by kernel_rfl
theorem isIfc_116 : isIfc Tryd.prog 116 = false := by kernel_rfl
theorem ifcT_116 : ifcT Tryd.prog 116 = false := by kernel_rfl
theorem fieldsOk_116 : fieldsOk Tryd.prog 116 = true := by kernel_rfl
theorem seqT_116 : seqT Tryd.prog 116 = false := by kernel_rfl
theorem sliceable_116 : sliceable Tryd.prog 116 = false := by kernel_rfl
theorem szOf_117 : szOf Tryd.prog 117 = 2 := by kernel_rfl
theorem aggT_117 : aggT Tryd.prog 117 = some true := by kernel_rfl
theorem elemT_117 : elemT Tryd.prog 117 = none := by kernel_rfl
theorem bytesOf_117 : bytesOf Tryd.prog 117 = some 2 := by kernel_rfl
theorem zeroOf_117 : zeroOf Tryd.prog 117 = some [A.int .u8 0, A.int .u8 0] := by kernel_rfl
theorem arrT_117 : arrT Tryd.prog 117 = none := by kernel_rfl
theorem fieldT_117_0 : fieldT Tryd.prog 117 0 = some (0, 5) := by kernel_rfl
theorem fieldT_117_1 : fieldT Tryd.prog 117 1 = some (1, 5) := by kernel_rfl
theorem isStr_117 : isStr Tryd.prog 117 = false := by kernel_rfl
theorem isBool_117 : isBool Tryd.prog 117 = false := by kernel_rfl
theorem isPtr_117 : isPtr Tryd.prog 117 = false := by kernel_rfl
theorem isU8_117 : isU8 Tryd.prog 117 = false := by kernel_rfl
theorem isIfc_117 : isIfc Tryd.prog 117 = false := by kernel_rfl
theorem ifcT_117 : ifcT Tryd.prog 117 = false := by kernel_rfl
theorem fieldsOk_117 : fieldsOk Tryd.prog 117 = true := by kernel_rfl
theorem seqT_117 : seqT Tryd.prog 117 = false := by kernel_rfl
theorem sliceable_117 : sliceable Tryd.prog 117 = false := by kernel_rfl
theorem szOf_118 : szOf Tryd.prog 118 = 32 := by kernel_rfl
theorem aggT_118 : aggT Tryd.prog 118 = some true := by kernel_rfl
theorem elemT_118 : elemT Tryd.prog 118 = none := by kernel_rfl
theorem bytesOf_118 : bytesOf Tryd.prog 118 = some 32 := by kernel_rfl
theorem zeroOf_118 : zeroOf Tryd.prog 118 = some [A.int .u8 0, A.int .u8 0, A.int .u8 0, A.int .u8 0, A.int .u8 0, A.int .u8 0, A.int .u8 0, A.int .u8 0, A.int .u8 0, A.int .u8 0, A.int .u8 0, A.int .u8 0, A.int .u8 0, A.int .u8 0, A.int .u8 0, A.int .u8 0, A.int .u8 0, A.int .u8 0, A.int .u8 0, A.int .u8 0, A.int .u8 0, A.int .u8 0, A.int .u8 0, A.int .u8 0, A.int .u8 0, A.int .u8 0, A.int .u8 0, A.int .u8 0, A.int .u8 0, A.int .u8 0, A.int .u8 0, A.int .u8 0] := by kernel_rfl
theorem arrT_118 : arrT Tryd.prog 118 = some (16, 117) := by kernel_rfl
theorem isStr_118 : isStr Tryd.prog 118 = false := by kernel_rfl
theorem isBool_118 : isBool Tryd.prog 118 = false := by kernel_rfl
theorem isPtr_118 : isPtr Tryd.prog 118 = false := by kernel_rfl
theorem isU8_118 : isU8 Tryd.prog 118 = false := by kernel_rfl
theorem isIfc_118 : isIfc Tryd.prog 118 = false := by kernel_rfl
theorem ifcT_118 : ifcT Tryd.prog 118 = false := by kernel_rfl
theorem fieldsOk_118 : fieldsOk Tryd.prog 118 = true := by kernel_rfl
theorem seqT_118 : seqT Tryd.prog 118 = false := by kernel_rfl
theorem sliceable_118 : sliceable Tryd.prog 118 = false := by kernel_rfl
theorem szOf_119 : szOf Tryd.prog 119 = 1 := by kernel_rfl
theorem aggT_119 : aggT Tryd.prog 119 = some false := by kernel_rfl
theorem elemT_119 : elemT Tryd.prog 119 = none := by kernel_rfl
theorem bytesOf_119 : bytesOf Tryd.prog 119 = some 8 := by kernel_rfl
theorem zeroOf_119 : zeroOf Tryd.prog 119 = some [A.nilf] := by kernel_rfl
theorem arrT_119 : arrT Tryd.prog 119 = none := by kernel_rfl
theorem isStr_119 : isStr Tryd.prog 119 = false := by kernel_rfl
theorem isBool_119 : isBool Tryd.prog 119 = false := by kernel_rfl
theorem isPtr_119 : isPtr Tryd.prog 119 = false := by kernel_rfl
theorem isU8_119 : isU8 Tryd.prog 119 = false := by kernel_rfl
theorem isIfc_119 : isIfc Tryd.prog 119 = false := by kernel_rfl
theorem ifcT_119 : ifcT Tryd.prog 119 = false := by kernel_rfl
theorem seqT_119 : seqT Tryd.prog 119 = false := by kernel_rfl
theorem sliceable_119 : sliceable Tryd.prog 119 = false := by kernel_rfl
theorem szOf_120 : szOf Tryd.prog 120 = 1 := by kernel_rfl
theorem aggT_120 : aggT Tryd.prog 120 = some false := by kernel_rfl
theorem elemT_120 : elemT Tryd.prog 120 = none := by kernel_rfl
theorem bytesOf_120 : bytesOf Tryd.prog 120 = some 8 := by kernel_rfl
theorem zeroOf_120 : zeroOf Tryd.prog 120 = some [A.nilf] := by kernel_rfl
theorem arrT_120 : arrT Tryd.prog 120 = none := by kernel_rfl
theorem isStr_120 : isStr Tryd.prog 120 = false := by kernel_rfl
theorem isBool_120 : isBool Tryd.prog 120 = false := by kernel_rfl
theorem isPtr_120 : isPtr Tryd.prog 120 = false := by kernel_rfl
theorem isU8_120 : isU8 Tryd.prog 120 = false := by kernel_rfl
theorem isIfc_120 : isIfc Tryd.prog 120 = false := by kernel_rfl
theorem ifcT_120 : ifcT Tryd.prog 120 = false := by kernel_rfl
theorem seqT_120 : seqT Tryd.prog 120 = false := by kernel_rfl
theorem sliceable_120 : sliceable Tryd.prog 120 = false := by kernel_rfl
theorem szOf_121 : szOf Tryd.prog 121 = 1 := by kernel_rfl
theorem aggT_121 : aggT Tryd.prog 121 = some false := by kernel_rfl
theorem elemT_121 : elemT Tryd.prog 121 = none := by kernel_rfl
theorem bytesOf_121 : bytesOf Tryd.prog 121 = some 8 := by kernel_rfl
theorem zeroOf_121 : zeroOf Tryd.prog 121 = some [A.nilf] := by kernel_rfl
theorem arrT_121 : arrT Tryd.prog 121 = none := by kernel_rfl
theorem isStr_121 : isStr Tryd.prog 121 = false := by kernel_rfl
theorem isBool_121 : isBool Tryd.prog 121 = false := by kernel_rfl
theorem isPtr_121 : isPtr Tryd.prog 121 = false := by kernel_rfl
theorem isU8_121 : isU8 Tryd.prog 121 = false := by kernel_rfl
theorem isIfc_121 : isIfc Tryd.prog 121 = false := by kernel_rfl
theorem ifcT_121 : ifcT Tryd.prog 121 = false := by kernel_rfl
theorem seqT_121 : seqT Tryd.prog 121 = false := by kernel_rfl
theorem sliceable_121 : sliceable Tryd.prog 121 = false := by kernel_rfl
theorem szOf_122 : szOf Tryd.prog 122 = 1 := by kernel_rfl
theorem aggT_122 : aggT Tryd.prog 122 = some false := by kernel_rfl
theorem elemT_122 : elemT Tryd.prog 122 = none := by kernel_rfl
theorem bytesOf_122 : bytesOf Tryd.prog 122 = some 8 := by kernel_rfl
theorem zeroOf_122 : zeroOf Tryd.prog 122 = some [A.nilf] := by kernel_rfl
theorem arrT_122 : arrT Tryd.prog 122 = none := by kernel_rfl
theorem isStr_122 : isStr Tryd.prog 122 = false := by kernel_rfl
theorem isBool_122 : isBool Tryd.prog 122 = false := by kernel_rfl
theorem isPtr_122 : isPtr Tryd.prog 122 = false := by kernel_rfl
theorem isU8_122 : isU8 Tryd.prog 122 = false := by kernel_rfl
theorem isIfc_122 : isIfc Tryd.prog 122 = false := by kernel_rfl
theorem ifcT_122 : ifcT Tryd.prog 122 = false := by kernel_rfl
theorem seqT_122 : seqT Tryd.prog 122 = false := by kernel_rfl
theorem sliceable_122 : sliceable Tryd.prog 122 = false := by kernel_rfl
theorem szOf_124 : szOf Tryd.prog 124 = 1 := by kernel_rfl
theorem aggT_124 : aggT Tryd.prog 124 = some false := by kernel_rfl
theorem elemT_124 : elemT Tryd.prog 124 = none := by kernel_rfl
theorem bytesOf_124 : bytesOf Tryd.prog 124 = some 8 := by kernel_rfl
theorem zeroOf_124 : zeroOf Tryd.prog 124 = some [A.nilf] := by kernel_rfl
theorem arrT_124 : arrT Tryd.prog 124 = none := by kernel_rfl
theorem isStr_124 : isStr Tryd.prog 124 = false := by kernel_rfl
theorem isBool_124 : isBool Tryd.prog 124 = false := by kernel_rfl
theorem isPtr_124 : isPtr Tryd.prog 124 = false := by kernel_rfl
theorem isU8_124 : isU8 Tryd.prog 124 = false := by kernel_rfl
theorem isIfc_124 : isIfc Tryd.prog 124 = false := by kernel_rfl
theorem ifcT_124 : ifcT Tryd.prog 124 = false := by kernel_rfl
theorem seqT_124 : seqT Tryd.prog 124 = false := by kernel_rfl
theorem sliceable_124 : sliceable Tryd.prog 124 = false := by kernel_rfl
theorem szOf_125 : szOf Tryd.prog 125 = 1 := by kernel_rfl
theorem aggT_125 : aggT Tryd.prog 125 = some false := by kernel_rfl
theorem elemT_125 : elemT Tryd.prog 125 = none := by kernel_rfl
theorem bytesOf_125 : bytesOf Tryd.prog 125 = some 8 := by kernel_rfl
theorem zeroOf_125 : zeroOf Tryd.prog 125 = some [A.nilf] := by kernel_rfl
theorem arrT_125 : arrT Tryd.prog 125 = none := by kernel_rfl
theorem isStr_125 : isStr Tryd.prog 125 = false := by kernel_rfl
theorem isBool_125 : isBool Tryd.prog 125 = false := by kernel_rfl
theorem isPtr_125 : isPtr Tryd.prog 125 = false := by kernel_rfl
theorem isU8_125 : isU8 Tryd.prog 125 = false := by kernel_rfl
theorem isIfc_125 : isIfc Tryd.prog 125 = false := by kernel_rfl
theorem ifcT_125 : ifcT Tryd.prog 125 = false := by kernel_rfl
theorem seqT_125 : seqT Tryd.prog 125 = false := by kernel_rfl
theorem sliceable_125 : sliceable Tryd.prog 125 = false := by kernel_rfl
theorem szOf_126 : szOf Tryd.prog 126 = 3 := by kernel_rfl
theorem aggT_126 : aggT Tryd.prog 126 = some true := by kernel_rfl
theorem elemT_126 : elemT Tryd.prog 126 = none := by kernel_rfl
theorem bytesOf_126 : bytesOf Tryd.prog 126 = some 48 := by kernel_rfl
theorem zeroOf_126 : zeroOf Tryd.prog 126 = some [A.str [], A.str [], A.nili] := by kernel_rfl
theorem arrT_126 : arrT Tryd.prog 126 = none := by kernel_rfl
theorem fieldT_126_0 : fieldT Tryd.prog 126 0 = some (0, 9) := by kernel_rfl
theorem fieldT_126_1 : fieldT Tryd.prog 126 1 = some (1, 9) := by kernel_rfl
theorem fieldT_126_2 : fieldT Tryd.prog 126 2 = some (2, 89) := by kernel_rfl
theorem isStr_126 : isStr Tryd.prog 126 = false := by kernel_rfl
theorem isBool_126 : isBool Tryd.prog 126 = false := by kernel_rfl
theorem isPtr_126 : isPtr Tryd.prog 126 = false := by kernel_rfl
theorem isU8_126 : isU8 Tryd.prog 126 = false := by kernel_rfl
theorem isIfc_126 : isIfc Tryd.prog 126 = false := by kernel_rfl
theorem ifcT_126 : ifcT Tryd.prog 126 = false := by kernel_rfl
theorem fieldsOk_126 : fieldsOk Tryd.prog 126 = true := by kernel_rfl
theorem seqT_126 : seqT Tryd.prog 126 = false := by kernel_rfl
theorem sliceable_126 : sliceable Tryd.prog 126 = false := by kernel_rfl
theorem szOf_127 : szOf Tryd.prog 127 = 3 := by kernel_rfl
theorem aggT_127 : aggT Tryd.prog 127 = some true := by kernel_rfl
theorem elemT_127 : elemT Tryd.prog 127 = none := by kernel_rfl
theorem bytesOf_127 : bytesOf Tryd.prog 127 = some 48 := by kernel_rfl
theorem zeroOf_127 : zeroOf Tryd.prog 127 = some [A.str [], A.str [], A.nili] := by kernel_rfl
theorem arrT_127 : arrT Tryd.prog 127 = none := by kernel_rfl
theorem fieldT_127_0 : fieldT Tryd.prog 127 0 = some (0, 9) := by kernel_rfl
theorem fieldT_127_1 : fieldT Tryd.prog 127 1 = some (1, 9) := by kernel_rfl
theorem fieldT_127_2 : fieldT Tryd.prog 127 2 = some (2, 89) := by kernel_rfl
theorem isStr_127 : isStr Tryd.prog 127 = false := by kernel_rfl
theorem isBool_127 : isBool Tryd.prog 127 = false := by kernel_rfl
theorem isPtr_127 : isPtr Tryd.prog 127 = false := by kernel_rfl
theorem isU8_127 : isU8 Tryd.prog 127 = false := by kernel_rfl
theorem isIfc_127 : isIfc Tryd.prog 127 = false := by kernel_rfl
theorem ifcT_127 : ifcT Tryd.prog 127 = false := by kernel_rfl
theorem fieldsOk_127 : fieldsOk Tryd.prog 127 = true := by kernel_rfl
theorem seqT_127 : seqT Tryd.prog 127 = false := by kernel_rfl
theorem sliceable_127 : sliceable Tryd.prog 127 = false := by kernel_rfl
theorem szOf_128 : szOf Tryd.prog 128 = 1 := by kernel_rfl
theorem aggT_128 : aggT Tryd.prog 128 = some false := by kernel_rfl
theorem elemT_128 : elemT Tryd.prog 128 = none := by kernel_rfl
theorem bytesOf_128 : bytesOf Tryd.prog 128 = some 8 := by kernel_rfl
theorem zeroOf_128 : zeroOf Tryd.prog 128 = some [A.nilf] := by kernel_rfl
theorem arrT_128 : arrT Tryd.prog 128 = none := by kernel_rfl
theorem isStr_128 : isStr Tryd.prog 128 = false := by kernel_rfl
theorem isBool_128 : isBool Tryd.prog 128 = false := by kernel_rfl
theorem isPtr_128 : isPtr Tryd.prog 128 = false := by kernel_rfl
theorem isU8_128 : isU8 Tryd.prog 128 = false := by kernel_rfl
theorem isIfc_128 : isIfc Tryd.prog 128 = false := by kernel_rfl
theorem ifcT_128 : ifcT Tryd.prog 128 = false := by kernel_rfl
theorem seqT_128 : seqT Tryd.prog 128 = false := by kernel_rfl
theorem sliceable_128 : sliceable Tryd.prog 128 = false := by kernel_rfl
theorem szOf_129 : szOf Tryd.prog 129 = 32 := by kernel_rfl
theorem aggT_129 : aggT Tryd.prog 129 = some true := by kernel_rfl
theorem elemT_129 : elemT Tryd.prog 129 = none := by kernel_rfl
theorem bytesOf_129 : bytesOf Tryd.prog 129 = some 32 := by kernel_rfl
theorem zeroOf_129 : zeroOf Tryd.prog 129 = some [A.int .u8 0, A.int .u8 0, A.int .u8 0, A.int .u8 0, A.int .u8 0, A.int .u8 0, A.int .u8 0, A.int .u8 0, A.int .u8 0, A.int .u8 0, A.int .u8 0, A.int .u8 0, A.int .u8 0, A.int .u8 0, A.int .u8 0, A.int .u8 0, A.int .u8 0, A.int .u8 0, A.int .u8 0, A.int .u8 0, A.int .u8 0, A.int .u8 0, A.int .u8 0, A.int .u8 0, A.int .u8 0, A.int .u8 0, A.int .u8 0, A.int .u8 0, A.int .u8 0, A.int .u8 0, A.int .u8 0, A.int .u8 0] := by kernel_rfl
theorem arrT_129 : arrT Tryd.prog 129 = some (32, 5) := by kernel_rfl
theorem isStr_129 : isStr Tryd.prog 129 = false := by kernel_rfl
theorem isBool_129 : isBool Tryd.prog 129 = false := by kernel_rfl
theorem isPtr_129 : isPtr Tryd.prog 129 = false := by kernel_rfl
theorem isU8_129 : isU8 Tryd.prog 129 = false := by kernel_rfl
theorem isIfc_129 : isIfc Tryd.prog 129 = false := by kernel_rfl
theorem ifcT_129 : ifcT Tryd.prog 129 = false := by kernel_rfl
theorem fieldsOk_129 : fieldsOk Tryd.prog 129 = true := by kernel_rfl
theorem seqT_129 : seqT Tryd.prog 129 = false := by kernel_rfl
theorem sliceable_129 : sliceable Tryd.prog 129 = false := by kernel_rfl
theorem szOf_130 : szOf Tryd.prog 130 = 64 := by kernel_rfl
theorem aggT_130 : aggT Tryd.prog 130 = some true := by kernel_rfl
theorem elemT_130 : elemT Tryd.prog 130 = none := by kernel_rfl
theorem bytesOf_130 : bytesOf Tryd.prog 130 = some 64 := by kernel_rfl
theorem zeroOf_130 : zeroOf Tryd.prog 130 = some [A.int .u8 0, A.int .u8 0, A.int .u8 0, A.int .u8 0, A.int .u8 0, A.int .u8 0, A.int .u8 0, A.int .u8 0, A.int .u8 0, A.int .u8 0, A.int .u8 0, A.int .u8 0, A.int .u8 0, A.int .u8 0, A.int .u8 0, A.int .u8 0, A.int .u8 0, A.int .u8 0, A.int .u8 0, A.int .u8 0, A.int .u8 0, A.int .u8 0, A.int .u8 0, A.int .u8 0, A.int .u8 0, A.int .u8 0, A.int .u8 0, A.int .u8 0, A.int .u8 0, A.int .u8 0, A.int .u8 0, A.int .u8 0, A.int .u8 0, A.int .u8 0, A.int .u8 0, A.int .u8 0, A.int .u8 0, A.int .u8 0, A.int .u8 0, A.int .u8 0, A.int .u8 0, A.int .u8 0, A.int .u8 0, A.int .u8 0, A.int .u8 0, A.int .u8 0, A.int .u8 0, A.int .u8 0, A.int .u8 0, A.int .u8 0, A.int .u8 0, A.int .u8 0, A.int .u8 0, A.int .u8 0, A.int .u8 0, A.int .u8 0, A.int .u8 0, A.int .u8 0, A.int .u8 0, A.int .u8 0, A.int .u8 0, A.int .u8 0, A.int .u8 0, A.int .u8 0] := by kernel_rfl
theorem arrT_130 : arrT Tryd.prog 130 = some (64, 5) := by kernel_rfl
theorem isStr_130 : isStr Tryd.prog 130 = false := by kernel_rfl
theorem isBool_130 : isBool Tryd.prog 130 = false := by kernel_rfl
theorem isPtr_130 : isPtr Tryd.prog 130 = false := by kernel_rfl
theorem isU8_130 : isU8 Tryd.prog 130 = false := by kernel_rfl
theorem isIfc_130 : isIfc Tryd.prog 130 = false := by kernel_rfl
theorem ifcT_130 : ifcT Tryd.prog 130 = false := by kernel_rfl
theorem fieldsOk_130 : fieldsOk Tryd.prog 130 = true := by kernel_rfl
theorem seqT_130 : seqT Tryd.prog 130 = false := by kernel_rfl
theorem sliceable_130 : sliceable Tryd.prog 130 = false := by kernel_rfl
theorem szOf_131 : szOf Tryd.prog 131 = 1 := by kernel_rfl
theorem aggT_131 : aggT Tryd.prog 131 = some false := by kernel_rfl
theorem elemT_131 : elemT Tryd.prog 131 = none := by kernel_rfl
theorem bytesOf_131 : bytesOf Tryd.prog 131 = some 8 := by kernel_rfl
theorem zeroOf_131 : zeroOf Tryd.prog 131 = some [A.nilf] := by kernel_rfl
theorem arrT_131 : arrT Tryd.prog 131 = none := by kernel_rfl
theorem isStr_131 : isStr Tryd.prog 131 = false := by kernel_rfl
theorem isBool_131 : isBool Tryd.prog 131 = false := by kernel_rfl
theorem isPtr_131 : isPtr Tryd.prog 131 = false := by kernel_rfl
theorem isU8_131 : isU8 Tryd.prog 131 = false := by kernel_rfl
theorem isIfc_131 : isIfc Tryd.prog 131 = false := by kernel_rfl
theorem ifcT_131 : ifcT Tryd.prog 131 = false := by kernel_rfl
theorem seqT_131 : seqT Tryd.prog 131 = false := by kernel_rfl
theorem sliceable_131 : sliceable Tryd.prog 131 = false := by kernel_rfl
theorem szOf_132 : szOf Tryd.prog 132 = 1 := by kernel_rfl
theorem aggT_132 : aggT Tryd.prog 132 = some false := by kernel_rfl
theorem elemT_132 : elemT Tryd.prog 132 = none := by kernel_rfl
theorem bytesOf_132 : bytesOf Tryd.prog 132 = some 8 := by kernel_rfl
theorem zeroOf_132 : zeroOf Tryd.prog 132 = some [A.nilp] := by kernel_rfl
theorem arrT_132 : arrT Tryd.prog 132 = none := by kernel_rfl
theorem isStr_132 : isStr Tryd.prog 132 = false := by kernel_rfl
theorem isBool_132 : isBool Tryd.prog 132 = false := by kernel_rfl
theorem isPtr_132 : isPtr Tryd.prog 132 = true := by kernel_rfl
theorem isU8_132 : isU8 Tryd.prog 132 = false := by kernel_rfl
theorem isIfc_132 : isIfc Tryd.prog 132 = false := by kernel_rfl
theorem ifcT_132 : ifcT Tryd.prog 132 = false := by kernel_rfl
theorem seqT_132 : seqT Tryd.prog 132 = false := by kernel_rfl
theorem sliceable_132 : sliceable Tryd.prog 132 = false := by kernel_rfl
theorem szOf_133 : szOf Tryd.prog 133 = 1 := by kernel_rfl
theorem aggT_133 : aggT Tryd.prog 133 = some false := by kernel_rfl
theorem elemT_133 : elemT Tryd.prog 133 = none := by kernel_rfl
theorem bytesOf_133 : bytesOf Tryd.prog 133 = some 8 := by kernel_rfl
theorem zeroOf_133 : zeroOf Tryd.prog 133 = some [A.nilp] := by kernel_rfl
theorem arrT_133 : arrT Tryd.prog 133 = none := by kernel_rfl
theorem isStr_133 : isStr Tryd.prog 133 = false := by kernel_rfl
theorem isBool_133 : isBool Tryd.prog 133 = false := by kernel_rfl
theorem isPtr_133 : isPtr Tryd.prog 133 = true := by kernel_rfl
theorem isU8_133 : isU8 Tryd.prog 133 = false := by kernel_rfl
theorem isIfc_133 : isIfc Tryd.prog 133 = false := by kernel_rfl
theorem ifcT_133 : ifcT Tryd.prog 133 = false := by kernel_rfl
theorem seqT_133 : seqT Tryd.prog 133 = false := by kernel_rfl
theorem sliceable_133 : sliceable Tryd.prog 133 = false := by kernel_rfl
theorem szOf_134 : szOf Tryd.prog 134 = 1 := by kernel_rfl
theorem aggT_134 : aggT Tryd.prog 134 = some true := by kernel_rfl
theorem elemT_134 : elemT Tryd.prog 134 = none := by kernel_rfl
theorem bytesOf_134 : bytesOf Tryd.prog 134 = some 16 := by kernel_rfl
theorem zeroOf_134 : zeroOf Tryd.prog 134 = some [A.str []] := by kernel_rfl
theorem arrT_134 : arrT Tryd.prog 134 = none := by kernel_rfl
theorem fieldT_134_0 : fieldT Tryd.prog 134 0 = some (0, 9) := by kernel_rfl
theorem isStr_134 : isStr Tryd.prog 134 = false := by kernel_rfl
theorem isBool_134 : isBool Tryd.prog 134 = false := by kernel_rfl
theorem isPtr_134 : isPtr Tryd.prog 134 = false := by kernel_rfl
theorem isU8_134 : isU8 Tryd.prog 134 = false := by kernel_rfl
theorem isIfc_134 : isIfc Tryd.prog 134 = false := by kernel_rfl
theorem ifcT_134 : ifcT Tryd.prog 134 = false := by kernel_rfl
theorem fieldsOk_134 : fieldsOk Tryd.prog 134 = true := by kernel_rfl
theorem seqT_134 : seqT Tryd.prog 134 = false := by kernel_rfl
theorem sliceable_134 : sliceable Tryd.prog 134 = false := by kernel_rfl
theorem szOf_135 : szOf Tryd.prog 135 = 1 := by kernel_rfl
theorem aggT_135 : aggT Tryd.prog 135 = some true := by kernel_rfl
theorem elemT_135 : elemT Tryd.prog 135 = none := by kernel_rfl
theorem bytesOf_135 : bytesOf Tryd.prog 135 = some 16 := by kernel_rfl
theorem zeroOf_135 : zeroOf Tryd.prog 135 = some [A.str []] := by kernel_rfl
theorem arrT_135 : arrT Tryd.prog 135 = none := by kernel_rfl
theorem fieldT_135_0 : fieldT Tryd.prog 135 0 = some (0, 9) := by kernel_rfl
theorem isStr_135 : isStr Tryd.prog 135 = false := by kernel_rfl
theorem isBool_135 : isBool Tryd.prog 135 = false := by kernel_rfl
theorem isPtr_135 : isPtr Tryd.prog 135 = false := by kernel_rfl
theorem isU8_135 : isU8 Tryd.prog 135 = false := by kernel_rfl
theorem isIfc_135 : isIfc Tryd.prog 135 = false := by kernel_rfl
theorem ifcT_135 : ifcT Tryd.prog 135 = false := by kernel_rfl
theorem fieldsOk_135 : fieldsOk Tryd.prog 135 = true := by kernel_rfl
theorem seqT_135 : seqT Tryd.prog 135 = false := by kernel_rfl
theorem sliceable_135 : sliceable Tryd.prog 135 = false := by kernel_rfl
theorem szOf_136 : szOf Tryd.prog 136 = 4 := by kernel_rfl
theorem aggT_136 : aggT Tryd.prog 136 = some true := by kernel_rfl
theorem elemT_136 : elemT Tryd.prog 136 = none := by kernel_rfl
theorem bytesOf_136 : bytesOf Tryd.prog 136 = some 40 := by kernel_rfl
theorem zeroOf_136 : zeroOf Tryd.prog 136 = some [A.nilp, A.nilp, A.nilp, A.str []] := by kernel_rfl
theorem arrT_136 : arrT Tryd.prog 136 = none := by kernel_rfl
theorem fieldT_136_0 : fieldT Tryd.prog 136 0 = some (0, 17) := by kernel_rfl
theorem fieldT_136_1 : fieldT Tryd.prog 136 1 = some (1, 17) := by kernel_rfl
theorem fieldT_136_2 : fieldT Tryd.prog 136 2 = some (2, 17) := by kernel_rfl
theorem fieldT_136_3 : fieldT Tryd.prog 136 3 = some (3, 9) := by kernel_rfl
theorem isStr_136 : isStr Tryd.prog 136 = false := by kernel_rfl
theorem isBool_136 : isBool Tryd.prog 136 = false := by kernel_rfl
theorem isPtr_136 : isPtr Tryd.prog 136 = false := by kernel_rfl
theorem isU8_136 : isU8 Tryd.prog 136 = false := by kernel_rfl
theorem isIfc_136 : isIfc Tryd.prog 136 = false := by kernel_rfl
theorem ifcT_136 : ifcT Tryd.prog 136 = false := by kernel_rfl
theorem fieldsOk_136 : fieldsOk Tryd.prog 136 = true := by kernel_rfl
theorem seqT_136 : seqT Tryd.prog 136 = false := by kernel_rfl
theorem sliceable_136 : sliceable Tryd.prog 136 = false := by kernel_rfl
theorem szOf_137 : szOf Tryd.prog 137 = 4 := by kernel_rfl
theorem aggT_137 : aggT Tryd.prog 137 = some true := by kernel_rfl
theorem elemT_137 : elemT Tryd.prog 137 = none := by kernel_rfl
theorem bytesOf_137 : bytesOf Tryd.prog 137 = some 40 := by kernel_rfl
theorem zeroOf_137 : zeroOf Tryd.prog 137 = some [A.nilp, A.nilp, A.nilp, A.str []] := by kernel_rfl
theorem arrT_137 : arrT Tryd.prog 137 = none := by kernel_rfl
theorem fieldT_137_0 : fieldT Tryd.prog 137 0 = some (0, 17) := by kernel_rfl
theorem fieldT_137_1 : fieldT Tryd.prog 137 1 = some (1, 17) := by kernel_rfl
theorem fieldT_137_2 : fieldT Tryd.prog 137 2 = some (2, 17) := by kernel_rfl
theorem fieldT_137_3 : fieldT Tryd.prog 137 3 = some (3, 9) := by kernel_rfl
theorem isStr_137 : isStr Tryd.prog 137 = false := by kernel_rfl
theorem isBool_137 : isBool Tryd.prog 137 = false := by kernel_rfl
theorem isPtr_137 : isPtr Tryd.prog 137 = false := by kernel_rfl
theorem isU8_137 : isU8 Tryd.prog 137 = false := by kernel_rfl
theorem isIfc_137 : isIfc Tryd.prog 137 = false := by kernel_rfl
theorem ifcT_137 : ifcT Tryd.prog 137 = false := by kernel_rfl
theorem fieldsOk_137 : fieldsOk Tryd.prog 137 = true := by kernel_rfl
theorem seqT_137 : seqT Tryd.prog 137 = false := by kernel_rfl
theorem sliceable_137 : sliceable Tryd.prog 137 = false := by kernel_rfl
theorem szOf_138 : szOf Tryd.prog 138 = 0 := by kernel_rfl
theorem aggT_138 : aggT Tryd.prog 138 = some true := by kernel_rfl
theorem elemT_138 : elemT Tryd.prog 138 = none := by kernel_rfl
theorem bytesOf_138 : bytesOf Tryd.prog 138 = some 0 := by kernel_rfl
theorem zeroOf_138 : zeroOf Tryd.prog 138 = some [] := by kernel_rfl
theorem arrT_138 : arrT Tryd.prog 138 = some (0, 16) := by kernel_rfl
theorem isStr_138 : isStr Tryd.prog 138 = false := by kernel_rfl
theorem isBool_138 : isBool Tryd.prog 138 = false := by kernel_rfl
theorem isPtr_138 : isPtr Tryd.prog 138 = false := by kernel_rfl
theorem isU8_138 : isU8 Tryd.prog 138 = false := by kernel_rfl
theorem isIfc_138 : isIfc Tryd.prog 138 = false := by kernel_rfl
theorem ifcT_138 : ifcT Tryd.prog 138 = false := by kernel_rfl
theorem fieldsOk_138 : fieldsOk Tryd.prog 138 = true := by kernel_rfl
theorem seqT_138 : seqT Tryd.prog 138 = false := by kernel_rfl
theorem sliceable_138 : sliceable Tryd.prog 138 = false := by kernel_rfl
theorem szOf_139 : szOf Tryd.prog 139 = 0 := by kernel_rfl
theorem aggT_139 : aggT Tryd.prog 139 = some true := by kernel_rfl
theorem elemT_139 : elemT Tryd.prog 139 = none := by kernel_rfl
theorem bytesOf_139 : bytesOf Tryd.prog 139 = some 0 := by kernel_rfl
theorem zeroOf_139 : zeroOf Tryd.prog 139 = some [] := by kernel_rfl
theorem arrT_139 : arrT Tryd.prog 139 = none := by kernel_rfl
theorem fieldT_139_0 : fieldT Tryd.prog 139 0 = some (0, 138) := by kernel_rfl
theorem isStr_139 : isStr Tryd.prog 139 = false := by kernel_rfl
theorem isBool_139 : isBool Tryd.prog 139 = false := by kernel_rfl
theorem isPtr_139 : isPtr Tryd.prog 139 = false := by kernel_rfl
theorem isU8_139 : isU8 Tryd.prog 139 = false := by kernel_rfl
theorem isIfc_139 : isIfc Tryd.prog 139 = false := by kernel_rfl
theorem ifcT_139 : ifcT Tryd.prog 139 = false := by kernel_rfl
theorem fieldsOk_139 : fieldsOk Tryd.prog 139 = true := by kernel_rfl
theorem seqT_139 : seqT Tryd.prog 139 = false := by kernel_rfl
theorem sliceable_139 : sliceable Tryd.prog 139 = false := by kernel_rfl
theorem szOf_140 : szOf Tryd.prog 140 = 0 := by kernel_rfl
theorem aggT_140 : aggT Tryd.prog 140 = some true := by kernel_rfl
theorem elemT_140 : elemT Tryd.prog 140 = none := by kernel_rfl
theorem bytesOf_140 : bytesOf Tryd.prog 140 = some 0 := by kernel_rfl
theorem zeroOf_140 : zeroOf Tryd.prog 140 = some [] := by kernel_rfl
theorem arrT_140 : arrT Tryd.prog 140 = none := by kernel_rfl
theorem fieldT_140_0 : fieldT Tryd.prog 140 0 = some (0, 138) := by kernel_rfl
theorem isStr_140 : isStr Tryd.prog 140 = false := by kernel_rfl
theorem isBool_140 : isBool Tryd.prog 140 = false := by kernel_rfl
theorem isPtr_140 : isPtr Tryd.prog 140 = false := by kernel_rfl
theorem isU8_140 : isU8 Tryd.prog 140 = false := by kernel_rfl
theorem isIfc_140 : isIfc Tryd.prog 140 = false := by kernel_rfl
theorem ifcT_140 : ifcT Tryd.prog 140 = false := by kernel_rfl
theorem fieldsOk_140 : fieldsOk Tryd.prog 140 = true := by kernel_rfl
theorem seqT_140 : seqT Tryd.prog 140 = false := by kernel_rfl
theorem sliceable_140 : sliceable Tryd.prog 140 = false := by kernel_rfl
theorem szOf_141 : szOf Tryd.prog 141 = 1 := by kernel_rfl
theorem aggT_141 : aggT Tryd.prog 141 = some false := by kernel_rfl
theorem elemT_141 : elemT Tryd.prog 141 = none := by kernel_rfl
theorem bytesOf_141 : bytesOf Tryd.prog 141 = some 1 := by kernel_rfl
theorem zeroOf_141 : zeroOf Tryd.prog 141 = some [A.int .u8 0] := by kernel_rfl
theorem arrT_141 : arrT Tryd.prog 141 = none := by kernel_rfl
theorem isStr_141 : isStr Tryd.prog 141 = false := by kernel_rfl
theorem isBool_141 : isBool Tryd.prog 141 = false := by kernel_rfl
theorem isPtr_141 : isPtr Tryd.prog 141 = false := by kernel_rfl
theorem isU8_141 : isU8 Tryd.prog 141 = true := by kernel_rfl
theorem isIfc_141 : isIfc Tryd.prog 141 = false := by kernel_rfl
theorem ifcT_141 : ifcT Tryd.prog 141 = false := by kernel_rfl
theorem seqT_141 : seqT Tryd.prog 141 = false := by kernel_rfl
theorem sliceable_141 : sliceable Tryd.prog 141 = false := by kernel_rfl
theorem szOf_142 : szOf Tryd.prog 142 = 1 := by kernel_rfl
theorem aggT_142 : aggT Tryd.prog 142 = some false := by kernel_rfl
theorem elemT_142 : elemT Tryd.prog 142 = none := by kernel_rfl
theorem bytesOf_142 : bytesOf Tryd.prog 142 = some 1 := by kernel_rfl
theorem zeroOf_142 : zeroOf Tryd.prog 142 = some [A.int .u8 0] := by kernel_rfl
theorem arrT_142 : arrT Tryd.prog 142 = none := by kernel_rfl
theorem isStr_142 : isStr Tryd.prog 142 = false := by kernel_rfl
theorem isBool_142 : isBool Tryd.prog 142 = false := by kernel_rfl
theorem isPtr_142 : isPtr Tryd.prog 142 = false := by kernel_rfl
theorem isU8_142 : isU8 Tryd.prog 142 = true := by kernel_rfl
theorem isIfc_142 : isIfc Tryd.prog 142 = false := by kernel_rfl
theorem ifcT_142 : ifcT Tryd.prog 142 = false := by kernel_rfl
theorem seqT_142 : seqT Tryd.prog 142 = false := by kernel_rfl
theorem sliceable_142 : sliceable Tryd.prog 142 = false := by kernel_rfl
theorem szOf_143 : szOf Tryd.prog 143 = 1 := by kernel_rfl
theorem aggT_143 : aggT Tryd.prog 143 = some false := by kernel_rfl
theorem elemT_143 : elemT Tryd.prog 143 = none := by kernel_rfl
theorem bytesOf_143 : bytesOf Tryd.prog 143 = some 8 := by kernel_rfl
theorem zeroOf_143 : zeroOf Tryd.prog 143 = some [A.nilf] := by kernel_rfl
theorem arrT_143 : arrT Tryd.prog 143 = none := by kernel_rfl
theorem isStr_143 : isStr Tryd.prog 143 = false := by kernel_rfl
theorem isBool_143 : isBool Tryd.prog 143 = false := by kernel_rfl
theorem isPtr_143 : isPtr Tryd.prog 143 = false := by kernel_rfl
theorem isU8_143 : isU8 Tryd.prog 143 = false := by kernel_rfl
theorem isIfc_143 : isIfc Tryd.prog 143 = false := by kernel_rfl
theorem ifcT_143 : ifcT Tryd.prog 143 = false := by kernel_rfl
theorem seqT_143 : seqT Tryd.prog 143 = false := by kernel_rfl
theorem sliceable_143 : sliceable Tryd.prog 143 = false := by kernel_rfl
theorem szOf_144 : szOf Tryd.prog 144 = 1 := by kernel_rfl
theorem aggT_144 : aggT Tryd.prog 144 = some false := by kernel_rfl
theorem elemT_144 : elemT Tryd.prog 144 = none := by kernel_rfl
theorem bytesOf_144 : bytesOf Tryd.prog 144 = some 4 := by kernel_rfl
theorem zeroOf_144 : zeroOf Tryd.prog 144 = some [A.int .i32 0] := by kernel_rfl
theorem arrT_144 : arrT Tryd.prog 144 = none := by kernel_rfl
theorem isStr_144 : isStr Tryd.prog 144 = false := by kernel_rfl
theorem isBool_144 : isBool Tryd.prog 144 = false := by kernel_rfl
theorem isPtr_144 : isPtr Tryd.prog 144 = false := by kernel_rfl
theorem isU8_144 : isU8 Tryd.prog 144 = false := by kernel_rfl
theorem isIfc_144 : isIfc Tryd.prog 144 = false := by kernel_rfl
theorem ifcT_144 : ifcT Tryd.prog 144 = false := by kernel_rfl
theorem seqT_144 : seqT Tryd.prog 144 = false := by kernel_rfl
theorem sliceable_144 : sliceable Tryd.prog 144 = false := by kernel_rfl
theorem szOf_145 : szOf Tryd.prog 145 = 1 := by kernel_rfl
theorem aggT_145 : aggT Tryd.prog 145 = some false := by kernel_rfl
theorem elemT_145 : elemT Tryd.prog 145 = none := by kernel_rfl
theorem bytesOf_145 : bytesOf Tryd.prog 145 = some 4 := by kernel_rfl
theorem zeroOf_145 : zeroOf Tryd.prog 145 = some [A.int .i32 0] := by kernel_rfl
theorem arrT_145 : arrT Tryd.prog 145 = none := by kernel_rfl
theorem isStr_145 : isStr Tryd.prog 145 = false := by kernel_rfl
theorem isBool_145 : isBool Tryd.prog 145 = false := by kernel_rfl
theorem isPtr_145 : isPtr Tryd.prog 145 = false := by kernel_rfl
theorem isU8_145 : isU8 Tryd.prog 145 = false := by kernel_rfl
theorem isIfc_145 : isIfc Tryd.prog 145 = false := by kernel_rfl
theorem ifcT_145 : ifcT Tryd.prog 145 = false := by kernel_rfl
theorem seqT_145 : seqT Tryd.prog 145 = false := by kernel_rfl
theorem sliceable_145 : sliceable Tryd.prog 145 = false := by kernel_rfl
theorem szOf_146 : szOf Tryd.prog 146 = 11 := by kernel_rfl
theorem aggT_146 : aggT Tryd.prog 146 = some true := by kernel_rfl
theorem elemT_146 : elemT Tryd.prog 146 = none := by kernel_rfl
theorem bytesOf_146 : bytesOf Tryd.prog 146 = some 48 := by kernel_rfl
theorem zeroOf_146 : zeroOf Tryd.prog 146 = some [A.int .u64 0, A.int .u64 0, A.int .u32 0, A.int .u8 0, A.int .u8 0, A.int .u8 0, A.int .u8 0, A.nilf, A.nilp, A.int .i32 0, A.int .i32 0] := by kernel_rfl
theorem arrT_146 : arrT Tryd.prog 146 = none := by kernel_rfl
theorem fieldT_146_0 : fieldT Tryd.prog 146 0 = some (0, 12) := by kernel_rfl
theorem fieldT_146_1 : fieldT Tryd.prog 146 1 = some (1, 12) := by kernel_rfl
theorem fieldT_146_2 : fieldT Tryd.prog 146 2 = some (2, 105) := by kernel_rfl
theorem fieldT_146_3 : fieldT Tryd.prog 146 3 = some (3, 141) := by kernel_rfl
theorem fieldT_146_4 : fieldT Tryd.prog 146 4 = some (4, 5) := by kernel_rfl
theorem fieldT_146_5 : fieldT Tryd.prog 146 5 = some (5, 5) := by kernel_rfl
theorem fieldT_146_6 : fieldT Tryd.prog 146 6 = some (6, 142) := by kernel_rfl
theorem fieldT_146_7 : fieldT Tryd.prog 146 7 = some (7, 143) := by kernel_rfl
theorem fieldT_146_8 : fieldT Tryd.prog 146 8 = some (8, 132) := by kernel_rfl
theorem fieldT_146_9 : fieldT Tryd.prog 146 9 = some (9, 144) := by kernel_rfl
theorem fieldT_146_10 : fieldT Tryd.prog 146 10 = some (10, 145) := by kernel_rfl
theorem isStr_146 : isStr Tryd.prog 146 = false := by kernel_rfl
theorem isBool_146 : isBool Tryd.prog 146 = false := by kernel_rfl
theorem isPtr_146 : isPtr Tryd.prog 146 = false := by kernel_rfl
theorem isU8_146 : isU8 Tryd.prog 146 = false := by kernel_rfl
theorem isIfc_146 : isIfc Tryd.prog 146 = false := by kernel_rfl
theorem ifcT_146 : ifcT Tryd.prog 146 = false := by kernel_rfl
theorem fieldsOk_146 : fieldsOk Tryd.prog 146 = true := by kernel_rfl
theorem seqT_146 : seqT Tryd.prog 146 = false := by kernel_rfl
theorem sliceable_146 : sliceable Tryd.prog 146 = false := by kernel_rfl
theorem szOf_147 : szOf Tryd.prog 147 = 11 := by kernel_rfl
theorem aggT_147 : aggT Tryd.prog 147 = some true := by kernel_rfl
theorem elemT_147 : elemT Tryd.prog 147 = none := by kernel_rfl
theorem bytesOf_147 : bytesOf Tryd.prog 147 = some 48 := by kernel_rfl
theorem zeroOf_147 : zeroOf Tryd.prog 147 = some [A.int .u64 0, A.int .u64 0, A.int .u32 0, A.int .u8 0, A.int .u8 0, A.int .u8 0, A.int .u8 0, A.nilf, A.nilp, A.int .i32 0, A.int .i32 0] := by kernel_rfl
theorem arrT_147 : arrT Tryd.prog 147 = none := by kernel_rfl
theorem fieldT_147_0 : fieldT Tryd.prog 147 0 = some (0, 12) := by kernel_rfl
theorem fieldT_147_1 : fieldT Tryd.prog 147 1 = some (1, 12) := by kernel_rfl
theorem fieldT_147_2 : fieldT Tryd.prog 147 2 = some (2, 105) := by kernel_rfl
theorem fieldT_147_3 : fieldT Tryd.prog 147 3 = some (3, 141) := by kernel_rfl
theorem fieldT_147_4 : fieldT Tryd.prog 147 4 = some (4, 5) := by kernel_rfl
theorem fieldT_147_5 : fieldT Tryd.prog 147 5 = some (5, 5) := by kernel_rfl
theorem fieldT_147_6 : fieldT Tryd.prog 147 6 = some (6, 142) := by kernel_rfl
theorem fieldT_147_7 : fieldT Tryd.prog 147 7 = some (7, 143) := by kernel_rfl
theorem fieldT_147_8 : fieldT Tryd.prog 147 8 = some (8, 132) := by kernel_rfl
theorem fieldT_147_9 : fieldT Tryd.prog 147 9 = some (9, 144) := by kernel_rfl
theorem fieldT_147_10 : fieldT Tryd.prog 147 10 = some (10, 145) := by kernel_rfl
theorem isStr_147 : isStr Tryd.prog 147 = false := by kernel_rfl
theorem isBool_147 : isBool Tryd.prog 147 = false := by kernel_rfl
theorem isPtr_147 : isPtr Tryd.prog 147 = false := by kernel_rfl
theorem isU8_147 : isU8 Tryd.prog 147 = false := by kernel_rfl
theorem isIfc_147 : isIfc Tryd.prog 147 = false := by kernel_rfl
theorem ifcT_147 : ifcT Tryd.prog 147 = false := by kernel_rfl
theorem fieldsOk_147 : fieldsOk Tryd.prog 147 = true := by kernel_rfl
theorem seqT_147 : seqT Tryd.prog 147 = false := by kernel_rfl
theorem sliceable_147 : sliceable Tryd.prog 147 = false := by kernel_rfl
theorem szOf_148 : szOf Tryd.prog 148 = 1 := by kernel_rfl
theorem aggT_148 : aggT Tryd.prog 148 = some false := by kernel_rfl
theorem elemT_148 : elemT Tryd.prog 148 = none := by kernel_rfl
theorem bytesOf_148 : bytesOf Tryd.prog 148 = some 8 := by kernel_rfl
theorem zeroOf_148 : zeroOf Tryd.prog 148 = some [A.nilp] := by kernel_rfl
theorem arrT_148 : arrT Tryd.prog 148 = none := by kernel_rfl
theorem isStr_148 : isStr Tryd.prog 148 = false := by kernel_rfl
theorem isBool_148 : isBool Tryd.prog 148 = false := by kernel_rfl
theorem isPtr_148 : isPtr Tryd.prog 148 = false := by kernel_rfl
theorem isU8_148 : isU8 Tryd.prog 148 = false := by kernel_rfl
theorem isIfc_148 : isIfc Tryd.prog 148 = false := by kernel_rfl
theorem ifcT_148 : ifcT Tryd.prog 148 = false := by kernel_rfl
theorem seqT_148 : seqT Tryd.prog 148 = false := by kernel_rfl
theorem sliceable_148 : sliceable Tryd.prog 148 = false := by kernel_rfl
attribute [simp] szOf_1 aggT_1 elemT_1 bytesOf_1 zeroOf_1 arrT_1 isStr_1 isBool_1 isPtr_1 isU8_1 isIfc_1 ifcT_1 seqT_1 sliceable_1 szOf_2 aggT_2 elemT_2 bytesOf_2 zeroOf_2 arrT_2 isStr_2 isBool_2 isPtr_2 isU8_2 isIfc_2 ifcT_2 seqT_2 sliceable_2 szOf_3 aggT_3 elemT_3 bytesOf_3 zeroOf_3 arrT_3 isStr_3 isBool_3 isPtr_3 isU8_3 isIfc_3 ifcT_3 seqT_3 sliceable_3 szOf_4 aggT_4 elemT_4 bytesOf_4 zeroOf_4 arrT_4 isStr_4 isBool_4 isPtr_4 isU8_4 isIfc_4 ifcT_4 seqT_4 sliceable_4 szOf_5 aggT_5 elemT_5 bytesOf_5 zeroOf_5 arrT_5 isStr_5 isBool_5 isPtr_5 isU8_5 isIfc_5 ifcT_5 seqT_5 sliceable_5 szOf_6 aggT_6 elemT_6 bytesOf_6 zeroOf_6 arrT_6 isStr_6 isBool_6 isPtr_6 isU8_6 isIfc_6 ifcT_6 seqT_6 sliceable_6 szOf_7 aggT_7 elemT_7 bytesOf_7 zeroOf_7 arrT_7 fieldT_7_0 fieldT_7_1 fieldT_7_2 fieldT_7_3 isStr_7 isBool_7 isPtr_7 isU8_7 isIfc_7 ifcT_7 fieldsOk_7 seqT_7 sliceable_7 szOf_8 aggT_8 elemT_8 bytesOf_8 zeroOf_8 arrT_8 fieldT_8_0 fieldT_8_1 fieldT_8_2 fieldT_8_3 isStr_8 isBool_8 isPtr_8 isU8_8 isIfc_8 ifcT_8 fieldsOk_8 seqT_8 sliceable_8 szOf_9 aggT_9 elemT_9 bytesOf_9 zeroOf_9 arrT_9 isStr_9 isBool_9 isPtr_9 isU8_9 isIfc_9 ifcT_9 seqT_9 sliceable_9 szOf_10 aggT_10 elemT_10 bytesOf_10 zeroOf_10 arrT_10 isStr_10 isBool_10 isPtr_10 isU8_10 isIfc_10 ifcT_10 seqT_10 sliceable_10 szOf_11 aggT_11 elemT_11 bytesOf_11 zeroOf_11 arrT_11 isStr_11 isBool_11 isPtr_11 isU8_11 isIfc_11 ifcT_11 seqT_11 sliceable_11 szOf_12 aggT_12 elemT_12 bytesOf_12 zeroOf_12 arrT_12 isStr_12 isBool_12 isPtr_12 isU8_12 isIfc_12 ifcT_12 seqT_12 sliceable_12 szOf_13 aggT_13 elemT_13 bytesOf_13 zeroOf_13 arrT_13 fieldT_13_0 fieldT_13_1 isStr_13 isBool_13 isPtr_13 isU8_13 isIfc_13 ifcT_13 fieldsOk_13 seqT_13 sliceable_13 szOf_14 aggT_14 elemT_14 bytesOf_14 zeroOf_14 arrT_14 fieldT_14_0 fieldT_14_1 isStr_14 isBool_14 isPtr_14 isU8_14 isIfc_14 ifcT_14 fieldsOk_14 seqT_14 sliceable_14 szOf_15 aggT_15 elemT_15 bytesOf_15 zeroOf_15 arrT_15 isStr_15 isBool_15 isPtr_15 isU8_15 isIfc_15 ifcT_15 seqT_15 sliceable_15 szOf_16 aggT_16 elemT_16 bytesOf_16 zeroOf_16 arrT_16 isStr_16 isBool_16 isPtr_16 isU8_16 isIfc_16 ifcT_16 seqT_16 sliceable_16 szOf_17 aggT_17 elemT_17 bytesOf_17 zeroOf_17 arrT_17 isStr_17 isBool_17 isPtr_17 isU8_17 isIfc_17 ifcT_17 seqT_17 sliceable_17 szOf_18 aggT_18 elemT_18 bytesOf_18 zeroOf_18 arrT_18 fieldT_18_0 isStr_18 isBool_18 isPtr_18 isU8_18 isIfc_18 ifcT_18 fieldsOk_18 seqT_18 sliceable_18 szOf_19 aggT_19 elemT_19 bytesOf_19 zeroOf_19 arrT_19 fieldT_19_0 isStr_19 isBool_19 isPtr_19 isU8_19 isIfc_19 ifcT_19 fieldsOk_19 seqT_19 sliceable_19 szOf_20 aggT_20 elemT_20 bytesOf_20 zeroOf_20 arrT_20 isStr_20 isBool_20 isPtr_20 isU8_20 isIfc_20 ifcT_20 seqT_20 sliceable_20 szOf_21 aggT_21 elemT_21 bytesOf_21 zeroOf_21 arrT_21 isStr_21 isBool_21 isPtr_21 isU8_21 isIfc_21 ifcT_21 seqT_21 sliceable_21 szOf_22 aggT_22 elemT_22 bytesOf_22 zeroOf_22 arrT_22 isStr_22 isBool_22 isPtr_22 isU8_22 isIfc_22 ifcT_22 seqT_22 sliceable_22 szOf_23 aggT_23 elemT_23 bytesOf_23 zeroOf_23 arrT_23 fieldT_23_0 fieldT_23_1 fieldT_23_2 isStr_23 isBool_23 isPtr_23 isU8_23 isIfc_23 ifcT_23 fieldsOk_23 seqT_23 sliceable_23 szOf_24 aggT_24 elemT_24 bytesOf_24 zeroOf_24 arrT_24 fieldT_24_0 fieldT_24_1 fieldT_24_2 isStr_24 isBool_24 isPtr_24 isU8_24 isIfc_24 ifcT_24 fieldsOk_24 seqT_24 sliceable_24 szOf_25 aggT_25 elemT_25 bytesOf_25 zeroOf_25 arrT_25 isStr_25 isBool_25 isPtr_25 isU8_25 isIfc_25 ifcT_25 seqT_25 sliceable_25 szOf_26 aggT_26 elemT_26 bytesOf_26 zeroOf_26 arrT_26 isStr_26 isBool_26 isPtr_26 isU8_26 isIfc_26 ifcT_26 seqT_26 sliceable_26 szOf_27 aggT_27 elemT_27 bytesOf_27 zeroOf_27 arrT_27 isStr_27 isBool_27 isPtr_27 isU8_27 isIfc_27 ifcT_27 seqT_27 sliceable_27 szOf_28 aggT_28 elemT_28 bytesOf_28 zeroOf_28 arrT_28 isStr_28 isBool_28 isPtr_28 isU8_28 isIfc_28 ifcT_28 seqT_28 sliceable_28 szOf_30 aggT_30 elemT_30 bytesOf_30 zeroOf_30 arrT_30 isStr_30 isBool_30 isPtr_30 isU8_30 isIfc_30 ifcT_30 seqT_30 sliceable_30 szOf_31 aggT_31 elemT_31 bytesOf_31 zeroOf_31 arrT_31 isStr_31 isBool_31 isPtr_31 isU8_31 isIfc_31 ifcT_31 seqT_31 sliceable_31 szOf_32 aggT_32 elemT_32 bytesOf_32 zeroOf_32 arrT_32 isStr_32 isBool_32 isPtr_32 isU8_32 isIfc_32 ifcT_32 seqT_32 sliceable_32 szOf_34 aggT_34 elemT_34 bytesOf_34 zeroOf_34 arrT_34 isStr_34 isBool_34 isPtr_34 isU8_34 isIfc_34 ifcT_34 seqT_34 sliceable_34 szOf_35 aggT_35 elemT_35 bytesOf_35 zeroOf_35 arrT_35 isStr_35 isBool_35 isPtr_35 isU8_35 isIfc_35 ifcT_35 seqT_35 sliceable_35 szOf_36 aggT_36 elemT_36 bytesOf_36 zeroOf_36 arrT_36 isStr_36 isBool_36 isPtr_36 isU8_36 isIfc_36 ifcT_36 seqT_36 sliceable_36 szOf_37 aggT_37 elemT_37 bytesOf_37 zeroOf_37 arrT_37 isStr_37 isBool_37 isPtr_37 isU8_37 isIfc_37 ifcT_37 seqT_37 sliceable_37 szOf_39 aggT_39 elemT_39 bytesOf_39 zeroOf_39 arrT_39 isStr_39 isBool_39 isPtr_39 isU8_39 isIfc_39 ifcT_39 seqT_39 sliceable_39 szOf_40 aggT_40 elemT_40 bytesOf_40 zeroOf_40 arrT_40 isStr_40 isBool_40 isPtr_40 isU8_40 isIfc_40 ifcT_40 seqT_40 sliceable_40 szOf_41 aggT_41 elemT_41 bytesOf_41 zeroOf_41 arrT_41 isStr_41 isBool_41 isPtr_41 isU8_41 isIfc_41 ifcT_41 seqT_41 sliceable_41 szOf_42 aggT_42 elemT_42 bytesOf_42 zeroOf_42 arrT_42 isStr_42 isBool_42 isPtr_42 isU8_42 isIfc_42 ifcT_42 fieldsOk_42 seqT_42 sliceable_42 szOf_43 aggT_43 elemT_43 bytesOf_43 zeroOf_43 arrT_43 isStr_43 isBool_43 isPtr_43 isU8_43 isIfc_43 ifcT_43 fieldsOk_43 seqT_43 sliceable_43 szOf_45 aggT_45 elemT_45 bytesOf_45 zeroOf_45 arrT_45 isStr_45 isBool_45 isPtr_45 isU8_45 isIfc_45 ifcT_45 seqT_45 sliceable_45 szOf_46 aggT_46 elemT_46 bytesOf_46 zeroOf_46 arrT_46 fieldT_46_0 isStr_46 isBool_46 isPtr_46 isU8_46 isIfc_46 ifcT_46 fieldsOk_46 seqT_46 sliceable_46 szOf_47 aggT_47 elemT_47 bytesOf_47 zeroOf_47 arrT_47 fieldT_47_0 isStr_47 isBool_47 isPtr_47 isU8_47 isIfc_47 ifcT_47 fieldsOk_47 seqT_47 sliceable_47 szOf_48 aggT_48 elemT_48 bytesOf_48 zeroOf_48 arrT_48 isStr_48 isBool_48 isPtr_48 isU8_48 isIfc_48 ifcT_48 seqT_48 sliceable_48 szOf_49 aggT_49 elemT_49 bytesOf_49 zeroOf_49 arrT_49 isStr_49 isBool_49 isPtr_49 isU8_49 isIfc_49 ifcT_49 seqT_49 sliceable_49 szOf_50 aggT_50 elemT_50 bytesOf_50 zeroOf_50 arrT_50 isStr_50 isBool_50 isPtr_50 isU8_50 isIfc_50 ifcT_50 seqT_50 sliceable_50 szOf_52 aggT_52 elemT_52 bytesOf_52 zeroOf_52 arrT_52 isStr_52 isBool_52 isPtr_52 isU8_52 isIfc_52 ifcT_52 seqT_52 sliceable_52 szOf_53 aggT_53 elemT_53 bytesOf_53 zeroOf_53 arrT_53 isStr_53 isBool_53 isPtr_53 isU8_53 isIfc_53 ifcT_53 seqT_53 sliceable_53 szOf_54 aggT_54 elemT_54 bytesOf_54 zeroOf_54 arrT_54 fieldT_54_0 fieldT_54_1 isStr_54 isBool_54 isPtr_54 isU8_54 isIfc_54 ifcT_54 fieldsOk_54 seqT_54 sliceable_54 szOf_55 aggT_55 elemT_55 bytesOf_55 zeroOf_55 arrT_55 fieldT_55_0 fieldT_55_1 isStr_55 isBool_55 isPtr_55 isU8_55 isIfc_55 ifcT_55 fieldsOk_55 seqT_55 sliceable_55 szOf_56 aggT_56 elemT_56 bytesOf_56 zeroOf_56 arrT_56 isStr_56 isBool_56 isPtr_56 isU8_56 isIfc_56 ifcT_56 seqT_56 sliceable_56 szOf_57 aggT_57 elemT_57 bytesOf_57 zeroOf_57 arrT_57 isStr_57 isBool_57 isPtr_57 isU8_57 isIfc_57 ifcT_57 seqT_57 sliceable_57 szOf_58 aggT_58 elemT_58 bytesOf_58 zeroOf_58 arrT_58 isStr_58 isBool_58 isPtr_58 isU8_58 isIfc_58 ifcT_58 seqT_58 sliceable_58 szOf_59 aggT_59 elemT_59 bytesOf_59 zeroOf_59 arrT_59 isStr_59 isBool_59 isPtr_59 isU8_59 isIfc_59 ifcT_59 seqT_59 sliceable_59 szOf_60 aggT_60 elemT_60 bytesOf_60 zeroOf_60 arrT_60 isStr_60 isBool_60 isPtr_60 isU8_60 isIfc_60 ifcT_60 seqT_60 sliceable_60 szOf_62 aggT_62 elemT_62 bytesOf_62 zeroOf_62 arrT_62 isStr_62 isBool_62 isPtr_62 isU8_62 isIfc_62 ifcT_62 seqT_62 sliceable_62 szOf_63 aggT_63 elemT_63 bytesOf_63 zeroOf_63 arrT_63 isStr_63 isBool_63 isPtr_63 isU8_63 isIfc_63 ifcT_63 seqT_63 sliceable_63 szOf_64 aggT_64 elemT_64 bytesOf_64 zeroOf_64 arrT_64 isStr_64 isBool_64 isPtr_64 isU8_64 isIfc_64 ifcT_64 seqT_64 sliceable_64 szOf_65 aggT_65 elemT_65 bytesOf_65 zeroOf_65 arrT_65 isStr_65 isBool_65 isPtr_65 isU8_65 isIfc_65 ifcT_65 seqT_65 sliceable_65 szOf_66 aggT_66 elemT_66 bytesOf_66 zeroOf_66 arrT_66 isStr_66 isBool_66 isPtr_66 isU8_66 isIfc_66 ifcT_66 seqT_66 sliceable_66 szOf_67 aggT_67 elemT_67 bytesOf_67 zeroOf_67 arrT_67 isStr_67 isBool_67 isPtr_67 isU8_67 isIfc_67 ifcT_67 seqT_67 sliceable_67 szOf_68 aggT_68 elemT_68 bytesOf_68 zeroOf_68 arrT_68 isStr_68 isBool_68 isPtr_68 isU8_68 isIfc_68 ifcT_68 seqT_68 sliceable_68 szOf_69 aggT_69 elemT_69 bytesOf_69 zeroOf_69 arrT_69 isStr_69 isBool_69 isPtr_69 isU8_69 isIfc_69 ifcT_69 seqT_69 sliceable_69 szOf_70 aggT_70 elemT_70 bytesOf_70 zeroOf_70 arrT_70 fieldT_70_0 fieldT_70_1 isStr_70 isBool_70 isPtr_70 isU8_70 isIfc_70 ifcT_70 fieldsOk_70 seqT_70 sliceable_70 szOf_71 aggT_71 elemT_71 bytesOf_71 zeroOf_71 arrT_71 fieldT_71_0 fieldT_71_1 isStr_71 isBool_71 isPtr_71 isU8_71 isIfc_71 ifcT_71 fieldsOk_71 seqT_71 sliceable_71 szOf_72 aggT_72 elemT_72 bytesOf_72 zeroOf_72 arrT_72 isStr_72 isBool_72 isPtr_72 isU8_72 isIfc_72 ifcT_72 fieldsOk_72 seqT_72 sliceable_72 szOf_73 aggT_73 elemT_73 bytesOf_73 zeroOf_73 arrT_73 isStr_73 isBool_73 isPtr_73 isU8_73 isIfc_73 ifcT_73 seqT_73 sliceable_73 szOf_74 aggT_74 elemT_74 bytesOf_74 zeroOf_74 arrT_74 isStr_74 isBool_74 isPtr_74 isU8_74 isIfc_74 ifcT_74 seqT_74 sliceable_74 szOf_75 aggT_75 elemT_75 bytesOf_75 zeroOf_75 arrT_75 isStr_75 isBool_75 isPtr_75 isU8_75 isIfc_75 ifcT_75 seqT_75 sliceable_75 szOf_76 aggT_76 elemT_76 bytesOf_76 arrT_76 isStr_76 isBool_76 isPtr_76 isU8_76 isIfc_76 ifcT_76 fieldsOk_76 seqT_76 sliceable_76 szOf_77 aggT_77 elemT_77 bytesOf_77 arrT_77 isStr_77 isBool_77 isPtr_77 isU8_77 isIfc_77 ifcT_77 fieldsOk_77 seqT_77 sliceable_77 szOf_79 aggT_79 elemT_79 bytesOf_79 zeroOf_79 arrT_79 isStr_79 isBool_79 isPtr_79 isU8_79 isIfc_79 ifcT_79 seqT_79 sliceable_79 szOf_80 aggT_80 elemT_80 bytesOf_80 zeroOf_80 arrT_80 isStr_80 isBool_80 isPtr_80 isU8_80 isIfc_80 ifcT_80 seqT_80 sliceable_80 szOf_81 aggT_81 elemT_81 bytesOf_81 zeroOf_81 arrT_81 isStr_81 isBool_81 isPtr_81 isU8_81 isIfc_81 ifcT_81 seqT_81 sliceable_81 szOf_82 aggT_82 elemT_82 bytesOf_82 zeroOf_82 arrT_82 isStr_82 isBool_82 isPtr_82 isU8_82 isIfc_82 ifcT_82 seqT_82 sliceable_82 szOf_83 aggT_83 elemT_83 bytesOf_83 zeroOf_83 arrT_83 isStr_83 isBool_83 isPtr_83 isU8_83 isIfc_83 ifcT_83 seqT_83 sliceable_83 szOf_84 aggT_84 elemT_84 bytesOf_84 zeroOf_84 arrT_84 isStr_84 isBool_84 isPtr_84 isU8_84 isIfc_84 ifcT_84 seqT_84 sliceable_84 szOf_85 aggT_85 elemT_85 bytesOf_85 zeroOf_85 arrT_85 isStr_85 isBool_85 isPtr_85 isU8_85 isIfc_85 ifcT_85 seqT_85 sliceable_85 szOf_86 aggT_86 elemT_86 bytesOf_86 zeroOf_86 arrT_86 isStr_86 isBool_86 isPtr_86 isU8_86 isIfc_86 ifcT_86 seqT_86 sliceable_86 szOf_87 aggT_87 elemT_87 bytesOf_87 zeroOf_87 arrT_87 isStr_87 isBool_87 isPtr_87 isU8_87 isIfc_87 ifcT_87 seqT_87 sliceable_87 szOf_88 aggT_88 elemT_88 bytesOf_88 zeroOf_88 arrT_88 isStr_88 isBool_88 isPtr_88 isU8_88 isIfc_88 ifcT_88 seqT_88 sliceable_88 szOf_89 aggT_89 elemT_89 bytesOf_89 zeroOf_89 arrT_89 isStr_89 isBool_89 isPtr_89 isU8_89 isIfc_89 ifcT_89 seqT_89 sliceable_89 szOf_91 aggT_91 elemT_91 bytesOf_91 zeroOf_91 arrT_91 isStr_91 isBool_91 isPtr_91 isU8_91 isIfc_91 ifcT_91 seqT_91 sliceable_91 szOf_93 aggT_93 elemT_93 bytesOf_93 zeroOf_93 arrT_93 isStr_93 isBool_93 isPtr_93 isU8_93 isIfc_93 ifcT_93 seqT_93 sliceable_93 szOf_94 aggT_94 elemT_94 bytesOf_94 zeroOf_94 arrT_94 isStr_94 isBool_94 isPtr_94 isU8_94 isIfc_94 ifcT_94 seqT_94 sliceable_94 szOf_95 aggT_95 elemT_95 bytesOf_95 zeroOf_95 arrT_95 isStr_95 isBool_95 isPtr_95 isU8_95 isIfc_95 ifcT_95 fieldsOk_95 seqT_95 sliceable_95 szOf_96 aggT_96 elemT_96 bytesOf_96 zeroOf_96 arrT_96 isStr_96 isBool_96 isPtr_96 isU8_96 isIfc_96 ifcT_96 seqT_96 sliceable_96 szOf_97 aggT_97 elemT_97 bytesOf_97 zeroOf_97 arrT_97 isStr_97 isBool_97 isPtr_97 isU8_97 isIfc_97 ifcT_97 seqT_97 sliceable_97 szOf_98 aggT_98 elemT_98 bytesOf_98 zeroOf_98 arrT_98 isStr_98 isBool_98 isPtr_98 isU8_98 isIfc_98 ifcT_98 seqT_98 sliceable_98 szOf_100 aggT_100 elemT_100 bytesOf_100 zeroOf_100 arrT_100 isStr_100 isBool_100 isPtr_100 isU8_100 isIfc_100 ifcT_100 seqT_100 sliceable_100 szOf_101 aggT_101 elemT_101 bytesOf_101 zeroOf_101 arrT_101 isStr_101 isBool_101 isPtr_101 isU8_101 isIfc_101 ifcT_101 seqT_101 sliceable_101 szOf_102 aggT_102 elemT_102 bytesOf_102 zeroOf_102 arrT_102 isStr_102 isBool_102 isPtr_102 isU8_102 isIfc_102 ifcT_102 seqT_102 sliceable_102 szOf_103 aggT_103 elemT_103 bytesOf_103 zeroOf_103 arrT_103 isStr_103 isBool_103 isPtr_103 isU8_103 isIfc_103 ifcT_103 seqT_103 sliceable_103 szOf_104 aggT_104 elemT_104 bytesOf_104 zeroOf_104 arrT_104 isStr_104 isBool_104 isPtr_104 isU8_104 isIfc_104 ifcT_104 fieldsOk_104 seqT_104 sliceable_104 szOf_105 aggT_105 elemT_105 bytesOf_105 zeroOf_105 arrT_105 isStr_105 isBool_105 isPtr_105 isU8_105 isIfc_105 ifcT_105 seqT_105 sliceable_105 szOf_106 aggT_106 elemT_106 bytesOf_106 arrT_106 isStr_106 isBool_106 isPtr_106 isU8_106 isIfc_106 ifcT_106 fieldsOk_106 seqT_106 sliceable_106 szOf_107 aggT_107 elemT_107 bytesOf_107 zeroOf_107 arrT_107 isStr_107 isBool_107 isPtr_107 isU8_107 isIfc_107 ifcT_107 seqT_107 sliceable_107 szOf_108 aggT_108 elemT_108 bytesOf_108 zeroOf_108 arrT_108 isStr_108 isBool_108 isPtr_108 isU8_108 isIfc_108 ifcT_108 seqT_108 sliceable_108 szOf_109 aggT_109 elemT_109 bytesOf_109 zeroOf_109 arrT_109 isStr_109 isBool_109 isPtr_109 isU8_109 isIfc_109 ifcT_109 seqT_109 sliceable_109 szOf_111 aggT_111 elemT_111 bytesOf_111 zeroOf_111 arrT_111 isStr_111 isBool_111 isPtr_111 isU8_111 isIfc_111 ifcT_111 seqT_111 sliceable_111 szOf_112 aggT_112 elemT_112 bytesOf_112 zeroOf_112 arrT_112 isStr_112 isBool_112 isPtr_112 isU8_112 isIfc_112 ifcT_112 seqT_112 sliceable_112 szOf_113 aggT_113 elemT_113 bytesOf_113 zeroOf_113 arrT_113 isStr_113 isBool_113 isPtr_113 isU8_113 isIfc_113 ifcT_113 seqT_113 sliceable_113 szOf_114 aggT_114 elemT_114 bytesOf_114 zeroOf_114 arrT_114 isStr_114 isBool_114 isPtr_114 isU8_114 isIfc_114 ifcT_114 seqT_114 sliceable_114 szOf_115 aggT_115 elemT_115 bytesOf_115 arrT_115 isStr_115 isBool_115 isPtr_115 isU8_115 isIfc_115 ifcT_115 fieldsOk_115 seqT_115 sliceable_115 szOf_116 aggT_116 elemT_116 bytesOf_116 zeroOf_116 arrT_116 fieldT_116_0 fieldT_116_1 isStr_116 isBool_116 isPtr_116 isU8_116 isIfc_116 ifcT_116 fieldsOk_116 seqT_116 sliceable_116 szOf_117 aggT_117 elemT_117 bytesOf_117 zeroOf_117 arrT_117 fieldT_117_0 fieldT_117_1 isStr_117 isBool_117 isPtr_117 isU8_117 isIfc_117 ifcT_117 fieldsOk_117 seqT_117 sliceable_117 szOf_118 aggT_118 elemT_118 bytesOf_118 zeroOf_118 arrT_118 isStr_118 isBool_118 isPtr_118 isU8_118 isIfc_118 ifcT_118 fieldsOk_118 seqT_118 sliceable_118 szOf_119 aggT_119 elemT_119 bytesOf_119 zeroOf_119 arrT_119 isStr_119 isBool_119 isPtr_119 isU8_119 isIfc_119 ifcT_119 seqT_119 sliceable_119 szOf_120 aggT_120 elemT_120 bytesOf_120 zeroOf_120 arrT_120 isStr_120 isBool_120 isPtr_120 isU8_120 isIfc_120 ifcT_120 seqT_120 sliceable_120 szOf_121 aggT_121 elemT_121 bytesOf_121 zeroOf_121 arrT_121 isStr_121 isBool_121 isPtr_121 isU8_121 isIfc_121 ifcT_121 seqT_121 sliceable_121 szOf_122 aggT_122 elemT_122 bytesOf_122 zeroOf_122 arrT_122 isStr_122 isBool_122 isPtr_122 isU8_122 isIfc_122 ifcT_122 seqT_122 sliceable_122 szOf_124 aggT_124 elemT_124 bytesOf_124 zeroOf_124 arrT_124 isStr_124 isBool_124 isPtr_124 isU8_124 isIfc_124 ifcT_124 seqT_124 sliceable_124 szOf_125 aggT_125 elemT_125 bytesOf_125 zeroOf_125 arrT_125 isStr_125 isBool_125 isPtr_125 isU8_125 isIfc_125 ifcT_125 seqT_125 sliceable_125 szOf_126 aggT_126 elemT_126 bytesOf_126 zeroOf_126 arrT_126 fieldT_126_0 fieldT_126_1 fieldT_126_2 isStr_126 isBool_126 isPtr_126 isU8_126 isIfc_126 ifcT_126 fieldsOk_126 seqT_126 sliceable_126 szOf_127 aggT_127 elemT_127 bytesOf_127 zeroOf_127 arrT_127 fieldT_127_0 fieldT_127_1 fieldT_127_2 isStr_127 isBool_127 isPtr_127 isU8_127 isIfc_127 ifcT_127 fieldsOk_127 seqT_127 sliceable_127 szOf_128 aggT_128 elemT_128 bytesOf_128 zeroOf_128 arrT_128 isStr_128 isBool_128 isPtr_128 isU8_128 isIfc_128 ifcT_128 seqT_128 sliceable_128 szOf_129 aggT_129 elemT_129 bytesOf_129 zeroOf_129 arrT_129 isStr_129 isBool_129 isPtr_129 isU8_129 isIfc_129 ifcT_129 fieldsOk_129 seqT_129 sliceable_129 szOf_130 aggT_130 elemT_130 bytesOf_130 zeroOf_130 arrT_130 isStr_130 isBool_130 isPtr_130 isU8_130 isIfc_130 ifcT_130 fieldsOk_130 seqT_130 sliceable_130 szOf_131 aggT_131 elemT_131 bytesOf_131 zeroOf_131 arrT_131 isStr_131 isBool_131 isPtr_131 isU8_131 isIfc_131 ifcT_131 seqT_131 sliceable_131 szOf_132 aggT_132 elemT_132 bytesOf_132 zeroOf_132 arrT_132 isStr_132 isBool_132 isPtr_132 isU8_132 isIfc_132 ifcT_132 seqT_132 sliceable_132 szOf_133 aggT_133 elemT_133 bytesOf_133 zeroOf_133 arrT_133 isStr_133 isBool_133 isPtr_133 isU8_133 isIfc_133 ifcT_133 seqT_133 sliceable_133 szOf_134 aggT_134 elemT_134 bytesOf_134 zeroOf_134 arrT_134 fieldT_134_0 isStr_134 isBool_134 isPtr_134 isU8_134 isIfc_134 ifcT_134 fieldsOk_134 seqT_134 sliceable_134 szOf_135 aggT_135 elemT_135 bytesOf_135 zeroOf_135 arrT_135 fieldT_135_0 isStr_135 isBool_135 isPtr_135 isU8_135 isIfc_135 ifcT_135 fieldsOk_135 seqT_135 sliceable_135 szOf_136 aggT_136 elemT_136 bytesOf_136 zeroOf_136 arrT_136 fieldT_136_0 fieldT_136_1 fieldT_136_2 fieldT_136_3 isStr_136 isBool_136 isPtr_136 isU8_136 isIfc_136 ifcT_136 fieldsOk_136 seqT_136 sliceable_136 szOf_137 aggT_137 elemT_137 bytesOf_137 zeroOf_137 arrT_137 fieldT_137_0 fieldT_137_1 fieldT_137_2 fieldT_137_3 isStr_137 isBool_137 isPtr_137 isU8_137 isIfc_137 ifcT_137 fieldsOk_137 seqT_137 sliceable_137 szOf_138 aggT_138 elemT_138 bytesOf_138 zeroOf_138 arrT_138 isStr_138 isBool_138 isPtr_138 isU8_138 isIfc_138 ifcT_138 fieldsOk_138 seqT_138 sliceable_138 szOf_139 aggT_139 elemT_139 bytesOf_139 zeroOf_139 arrT_139 fieldT_139_0 isStr_139 isBool_139 isPtr_139 isU8_139 isIfc_139 ifcT_139 fieldsOk_139 seqT_139 sliceable_139 szOf_140 aggT_140 elemT_140 bytesOf_140 zeroOf_140 arrT_140 fieldT_140_0 isStr_140 isBool_140 isPtr_140 isU8_140 isIfc_140 ifcT_140 fieldsOk_140 seqT_140 sliceable_140 szOf_141 aggT_141 elemT_141 bytesOf_141 zeroOf_141 arrT_141 isStr_141 isBool_141 isPtr_141 isU8_141 isIfc_141 ifcT_141 seqT_141 sliceable_141 szOf_142 aggT_142 elemT_142 bytesOf_142 zeroOf_142 arrT_142 isStr_142 isBool_142 isPtr_142 isU8_142 isIfc_142 ifcT_142 seqT_142 sliceable_142 szOf_143 aggT_143 elemT_143 bytesOf_143 zeroOf_143 arrT_143 isStr_143 isBool_143 isPtr_143 isU8_143 isIfc_143 ifcT_143 seqT_143 sliceable_143 szOf_144 aggT_144 elemT_144 bytesOf_144 zeroOf_144 arrT_144 isStr_144 isBool_144 isPtr_144 isU8_144 isIfc_144 ifcT_144 seqT_144 sliceable_144 szOf_145 aggT_145 elemT_145 bytesOf_145 zeroOf_145 arrT_145 isStr_145 isBool_145 isPtr_145 isU8_145 isIfc_145 ifcT_145 seqT_145 sliceable_145 szOf_146 aggT_146 elemT_146 bytesOf_146 zeroOf_146 arrT_146 fieldT_146_0 fieldT_146_1 fieldT_146_2 fieldT_146_3 fieldT_146_4 fieldT_146_5 fieldT_146_6 fieldT_146_7 fieldT_146_8 fieldT_146_9 fieldT_146_10 isStr_146 isBool_146 isPtr_146 isU8_146 isIfc_146 ifcT_146 fieldsOk_146 seqT_146 sliceable_146 szOf_147 aggT_147 elemT_147 bytesOf_147 zeroOf_147 arrT_147 fieldT_147_0 fieldT_147_1 fieldT_147_2 fieldT_147_3 fieldT_147_4 fieldT_147_5 fieldT_147_6 fieldT_147_7 fieldT_147_8 fieldT_147_9 fieldT_147_10 isStr_147 isBool_147 isPtr_147 isU8_147 isIfc_147 ifcT_147 fieldsOk_147 seqT_147 sliceable_147 szOf_148 aggT_148 elemT_148 bytesOf_148 zeroOf_148 arrT_148 isStr_148 isBool_148 isPtr_148 isU8_148 isIfc_148 ifcT_148 seqT_148 sliceable_148
attribute [simp] Tryd.underlying2 Tryd.underlying3 Tryd.underlying4 Tryd.underlying5 Tryd.underlying6 Tryd.underlying7 Tryd.underlying8 Tryd.underlying9 Tryd.underlying10 Tryd.underlying11 Tryd.underlying12 Tryd.underlying13 Tryd.underlying14 Tryd.underlying15 Tryd.underlying16 Tryd.underlying17 Tryd.underlying18 Tryd.underlying19 Tryd.underlying20 Tryd.underlying21 Tryd.underlying22 Tryd.underlying23 Tryd.underlying24 Tryd.underlying27 Tryd.underlying28 Tryd.underlying42 Tryd.underlying43 Tryd.underlying45 Tryd.underlying46 Tryd.underlying47 Tryd.underlying50 Tryd.underlying53 Tryd.underlying54 Tryd.underlying55 Tryd.underlying59 Tryd.underlying70 Tryd.underlying71 Tryd.underlying72 Tryd.underlying76 Tryd.underlying77 Tryd.underlying81 Tryd.underlying88 Tryd.underlying89 Tryd.underlying95 Tryd.underlying96 Tryd.underlying104 Tryd.underlying105 Tryd.underlying106 Tryd.underlying107 Tryd.underlying109 Tryd.underlying112 Tryd.underlying115 Tryd.underlying116 Tryd.underlying117 Tryd.underlying118 Tryd.underlying126 Tryd.underlying127 Tryd.underlying129 Tryd.underlying130 Tryd.underlying132 Tryd.underlying133 Tryd.underlying134 Tryd.underlying135 Tryd.underlying136 Tryd.underlying137 Tryd.underlying138 Tryd.underlying139 Tryd.underlying140 Tryd.underlying141 Tryd.underlying142 Tryd.underlying144 Tryd.underlying145 Tryd.underlying146 Tryd.underlying147 Tryd.underlying148
end AE
end Go.Proofs.YtbgppidldpepaaaDoor
