/- Printed by wip/types.py: what the evaluator asks of each type. -/
import Derived.Test.YthoomlenmgdebaaGreatDoorAE1
namespace Go.Proofs.YthoomlenmgdebaaGreatDoor
namespace AE
open Go
theorem szOf_1 : szOf Tryz.prog 1 = 1 := by kernel_rfl
theorem aggT_1 : aggT Tryz.prog 1 = some false := by kernel_rfl
theorem elemT_1 : elemT Tryz.prog 1 = none := by kernel_rfl
theorem bytesOf_1 : bytesOf Tryz.prog 1 = some 8 := by kernel_rfl
theorem zeroOf_1 : zeroOf Tryz.prog 1 = some [A.nilf] := by kernel_rfl
theorem arrT_1 : arrT Tryz.prog 1 = none := by kernel_rfl
theorem isStr_1 : isStr Tryz.prog 1 = false := by kernel_rfl
theorem isBool_1 : isBool Tryz.prog 1 = false := by kernel_rfl
theorem isPtr_1 : isPtr Tryz.prog 1 = false := by kernel_rfl
theorem isU8_1 : isU8 Tryz.prog 1 = false := by kernel_rfl
theorem isIfc_1 : isIfc Tryz.prog 1 = false := by kernel_rfl
theorem ifcT_1 : ifcT Tryz.prog 1 = false := by kernel_rfl
theorem seqT_1 : seqT Tryz.prog 1 = false := by kernel_rfl
theorem sliceable_1 : sliceable Tryz.prog 1 = false := by kernel_rfl
theorem szOf_2 : szOf Tryz.prog 2 = 1 := by kernel_rfl
theorem aggT_2 : aggT Tryz.prog 2 = some false := by kernel_rfl
theorem elemT_2 : elemT Tryz.prog 2 = none := by kernel_rfl
theorem bytesOf_2 : bytesOf Tryz.prog 2 = some 8 := by kernel_rfl
theorem zeroOf_2 : zeroOf Tryz.prog 2 = some [A.int .i64 0] := by kernel_rfl
theorem arrT_2 : arrT Tryz.prog 2 = none := by kernel_rfl
theorem isStr_2 : isStr Tryz.prog 2 = false := by kernel_rfl
theorem isBool_2 : isBool Tryz.prog 2 = false := by kernel_rfl
theorem isPtr_2 : isPtr Tryz.prog 2 = false := by kernel_rfl
theorem isU8_2 : isU8 Tryz.prog 2 = false := by kernel_rfl
theorem isIfc_2 : isIfc Tryz.prog 2 = false := by kernel_rfl
theorem ifcT_2 : ifcT Tryz.prog 2 = false := by kernel_rfl
theorem seqT_2 : seqT Tryz.prog 2 = false := by kernel_rfl
theorem sliceable_2 : sliceable Tryz.prog 2 = false := by kernel_rfl
theorem szOf_3 : szOf Tryz.prog 3 = 1 := by kernel_rfl
theorem aggT_3 : aggT Tryz.prog 3 = some false := by kernel_rfl
theorem elemT_3 : elemT Tryz.prog 3 = none := by kernel_rfl
theorem bytesOf_3 : bytesOf Tryz.prog 3 = some 8 := by kernel_rfl
theorem zeroOf_3 : zeroOf Tryz.prog 3 = some [A.int .i64 0] := by kernel_rfl
theorem arrT_3 : arrT Tryz.prog 3 = none := by kernel_rfl
theorem isStr_3 : isStr Tryz.prog 3 = false := by kernel_rfl
theorem isBool_3 : isBool Tryz.prog 3 = false := by kernel_rfl
theorem isPtr_3 : isPtr Tryz.prog 3 = false := by kernel_rfl
theorem isU8_3 : isU8 Tryz.prog 3 = false := by kernel_rfl
theorem isIfc_3 : isIfc Tryz.prog 3 = false := by kernel_rfl
theorem ifcT_3 : ifcT Tryz.prog 3 = false := by kernel_rfl
theorem seqT_3 : seqT Tryz.prog 3 = false := by kernel_rfl
theorem sliceable_3 : sliceable Tryz.prog 3 = false := by kernel_rfl
theorem szOf_4 : szOf Tryz.prog 4 = 1 := by kernel_rfl
theorem aggT_4 : aggT Tryz.prog 4 = some false := by kernel_rfl
theorem elemT_4 : elemT Tryz.prog 4 = none := by kernel_rfl
theorem bytesOf_4 : bytesOf Tryz.prog 4 = some 1 := by kernel_rfl
theorem zeroOf_4 : zeroOf Tryz.prog 4 = some [A.bool false] := by kernel_rfl
theorem arrT_4 : arrT Tryz.prog 4 = none := by kernel_rfl
theorem isStr_4 : isStr Tryz.prog 4 = false := by kernel_rfl
theorem isBool_4 : isBool Tryz.prog 4 = true := by kernel_rfl
theorem isPtr_4 : isPtr Tryz.prog 4 = false := by kernel_rfl
theorem isU8_4 : isU8 Tryz.prog 4 = false := by kernel_rfl
theorem isIfc_4 : isIfc Tryz.prog 4 = false := by kernel_rfl
theorem ifcT_4 : ifcT Tryz.prog 4 = false := by kernel_rfl
theorem seqT_4 : seqT Tryz.prog 4 = false := by kernel_rfl
theorem sliceable_4 : sliceable Tryz.prog 4 = false := by kernel_rfl
theorem szOf_5 : szOf Tryz.prog 5 = 1 := by kernel_rfl
theorem aggT_5 : aggT Tryz.prog 5 = some false := by kernel_rfl
theorem elemT_5 : elemT Tryz.prog 5 = none := by kernel_rfl
theorem bytesOf_5 : bytesOf Tryz.prog 5 = some 1 := by kernel_rfl
theorem zeroOf_5 : zeroOf Tryz.prog 5 = some [A.int .u8 0] := by kernel_rfl
theorem arrT_5 : arrT Tryz.prog 5 = none := by kernel_rfl
theorem isStr_5 : isStr Tryz.prog 5 = false := by kernel_rfl
theorem isBool_5 : isBool Tryz.prog 5 = false := by kernel_rfl
theorem isPtr_5 : isPtr Tryz.prog 5 = false := by kernel_rfl
theorem isU8_5 : isU8 Tryz.prog 5 = true := by kernel_rfl
theorem isIfc_5 : isIfc Tryz.prog 5 = false := by kernel_rfl
theorem ifcT_5 : ifcT Tryz.prog 5 = false := by kernel_rfl
theorem seqT_5 : seqT Tryz.prog 5 = false := by kernel_rfl
theorem sliceable_5 : sliceable Tryz.prog 5 = false := by kernel_rfl
theorem szOf_9 : szOf Tryz.prog 9 = 1 := by kernel_rfl
theorem aggT_9 : aggT Tryz.prog 9 = some false := by kernel_rfl
theorem elemT_9 : elemT Tryz.prog 9 = none := by kernel_rfl
theorem bytesOf_9 : bytesOf Tryz.prog 9 = some 16 := by kernel_rfl
theorem zeroOf_9 : zeroOf Tryz.prog 9 = some [A.str []] := by kernel_rfl
theorem arrT_9 : arrT Tryz.prog 9 = none := by kernel_rfl
theorem isStr_9 : isStr Tryz.prog 9 = true := by kernel_rfl
theorem isBool_9 : isBool Tryz.prog 9 = false := by kernel_rfl
theorem isPtr_9 : isPtr Tryz.prog 9 = false := by kernel_rfl
theorem isU8_9 : isU8 Tryz.prog 9 = false := by kernel_rfl
theorem isIfc_9 : isIfc Tryz.prog 9 = false := by kernel_rfl
theorem ifcT_9 : ifcT Tryz.prog 9 = false := by kernel_rfl
theorem seqT_9 : seqT Tryz.prog 9 = true := by kernel_rfl
theorem sliceable_9 : sliceable Tryz.prog 9 = true := by kernel_rfl
theorem szOf_20 : szOf Tryz.prog 20 = 1 := by kernel_rfl
theorem aggT_20 : aggT Tryz.prog 20 = some false := by kernel_rfl
theorem elemT_20 : elemT Tryz.prog 20 = none := by kernel_rfl
theorem bytesOf_20 : bytesOf Tryz.prog 20 = some 16 := by kernel_rfl
theorem zeroOf_20 : zeroOf Tryz.prog 20 = some [A.nili] := by kernel_rfl
theorem arrT_20 : arrT Tryz.prog 20 = none := by kernel_rfl
theorem isStr_20 : isStr Tryz.prog 20 = false := by kernel_rfl
theorem isBool_20 : isBool Tryz.prog 20 = false := by kernel_rfl
theorem isPtr_20 : isPtr Tryz.prog 20 = false := by kernel_rfl
theorem isU8_20 : isU8 Tryz.prog 20 = false := by kernel_rfl
theorem isIfc_20 : isIfc Tryz.prog 20 = true := by kernel_rfl
theorem ifcT_20 : ifcT Tryz.prog 20 = true := by kernel_rfl
theorem seqT_20 : seqT Tryz.prog 20 = false := by kernel_rfl
theorem sliceable_20 : sliceable Tryz.prog 20 = false := by kernel_rfl
theorem szOf_21 : szOf Tryz.prog 21 = 1 := by kernel_rfl
theorem aggT_21 : aggT Tryz.prog 21 = some false := by kernel_rfl
theorem elemT_21 : elemT Tryz.prog 21 = none := by kernel_rfl
theorem bytesOf_21 : bytesOf Tryz.prog 21 = some 4 := by kernel_rfl
theorem zeroOf_21 : zeroOf Tryz.prog 21 = some [A.int .i32 0] := by kernel_rfl
theorem arrT_21 : arrT Tryz.prog 21 = none := by kernel_rfl
theorem isStr_21 : isStr Tryz.prog 21 = false := by kernel_rfl
theorem isBool_21 : isBool Tryz.prog 21 = false := by kernel_rfl
theorem isPtr_21 : isPtr Tryz.prog 21 = false := by kernel_rfl
theorem isU8_21 : isU8 Tryz.prog 21 = false := by kernel_rfl
theorem isIfc_21 : isIfc Tryz.prog 21 = false := by kernel_rfl
theorem ifcT_21 : ifcT Tryz.prog 21 = false := by kernel_rfl
theorem seqT_21 : seqT Tryz.prog 21 = false := by kernel_rfl
theorem sliceable_21 : sliceable Tryz.prog 21 = false := by kernel_rfl
theorem szOf_22 : szOf Tryz.prog 22 = 1 := by kernel_rfl
theorem aggT_22 : aggT Tryz.prog 22 = some false := by kernel_rfl
theorem elemT_22 : elemT Tryz.prog 22 = some 24 := by kernel_rfl
theorem bytesOf_22 : bytesOf Tryz.prog 22 = some 24 := by kernel_rfl
theorem zeroOf_22 : zeroOf Tryz.prog 22 = some [A.nils] := by kernel_rfl
theorem arrT_22 : arrT Tryz.prog 22 = none := by kernel_rfl
theorem isStr_22 : isStr Tryz.prog 22 = false := by kernel_rfl
theorem isBool_22 : isBool Tryz.prog 22 = false := by kernel_rfl
theorem isPtr_22 : isPtr Tryz.prog 22 = false := by kernel_rfl
theorem isU8_22 : isU8 Tryz.prog 22 = false := by kernel_rfl
theorem isIfc_22 : isIfc Tryz.prog 22 = false := by kernel_rfl
theorem ifcT_22 : ifcT Tryz.prog 22 = false := by kernel_rfl
theorem seqT_22 : seqT Tryz.prog 22 = true := by kernel_rfl
theorem sliceable_22 : sliceable Tryz.prog 22 = true := by kernel_rfl
theorem szOf_24 : szOf Tryz.prog 24 = 3 := by kernel_rfl
theorem aggT_24 : aggT Tryz.prog 24 = some true := by kernel_rfl
theorem elemT_24 : elemT Tryz.prog 24 = none := by kernel_rfl
theorem bytesOf_24 : bytesOf Tryz.prog 24 = some 40 := by kernel_rfl
theorem zeroOf_24 : zeroOf Tryz.prog 24 = some [A.int .i64 0, A.int .i64 0, A.nils] := by kernel_rfl
theorem arrT_24 : arrT Tryz.prog 24 = none := by kernel_rfl
theorem fieldT_24_0 : fieldT Tryz.prog 24 0 = some (0, 3) := by kernel_rfl
theorem fieldT_24_1 : fieldT Tryz.prog 24 1 = some (1, 3) := by kernel_rfl
theorem fieldT_24_2 : fieldT Tryz.prog 24 2 = some (2, 22) := by kernel_rfl
theorem isStr_24 : isStr Tryz.prog 24 = false := by kernel_rfl
theorem isBool_24 : isBool Tryz.prog 24 = false := by kernel_rfl
theorem isPtr_24 : isPtr Tryz.prog 24 = false := by kernel_rfl
theorem isU8_24 : isU8 Tryz.prog 24 = false := by kernel_rfl
theorem isIfc_24 : isIfc Tryz.prog 24 = false := by kernel_rfl
theorem ifcT_24 : ifcT Tryz.prog 24 = false := by kernel_rfl
theorem fieldsOk_24 : fieldsOk Tryz.prog 24 = true := by kernel_rfl
theorem seqT_24 : seqT Tryz.prog 24 = false := by kernel_rfl
theorem sliceable_24 : sliceable Tryz.prog 24 = false := by kernel_rfl
theorem szOf_25 : szOf Tryz.prog 25 = 1 := by kernel_rfl
theorem aggT_25 : aggT Tryz.prog 25 = some false := by kernel_rfl
theorem elemT_25 : elemT Tryz.prog 25 = some 28 := by kernel_rfl
theorem bytesOf_25 : bytesOf Tryz.prog 25 = some 24 := by kernel_rfl
theorem zeroOf_25 : zeroOf Tryz.prog 25 = some [A.nils] := by kernel_rfl
theorem arrT_25 : arrT Tryz.prog 25 = none := by kernel_rfl
theorem isStr_25 : isStr Tryz.prog 25 = false := by kernel_rfl
theorem isBool_25 : isBool Tryz.prog 25 = false := by kernel_rfl
theorem isPtr_25 : isPtr Tryz.prog 25 = false := by kernel_rfl
theorem isU8_25 : isU8 Tryz.prog 25 = false := by kernel_rfl
theorem isIfc_25 : isIfc Tryz.prog 25 = false := by kernel_rfl
theorem ifcT_25 : ifcT Tryz.prog 25 = false := by kernel_rfl
theorem seqT_25 : seqT Tryz.prog 25 = true := by kernel_rfl
theorem sliceable_25 : sliceable Tryz.prog 25 = true := by kernel_rfl
theorem szOf_26 : szOf Tryz.prog 26 = 1 := by kernel_rfl
theorem aggT_26 : aggT Tryz.prog 26 = some false := by kernel_rfl
theorem elemT_26 : elemT Tryz.prog 26 = some 3 := by kernel_rfl
theorem bytesOf_26 : bytesOf Tryz.prog 26 = some 24 := by kernel_rfl
theorem zeroOf_26 : zeroOf Tryz.prog 26 = some [A.nils] := by kernel_rfl
theorem arrT_26 : arrT Tryz.prog 26 = none := by kernel_rfl
theorem isStr_26 : isStr Tryz.prog 26 = false := by kernel_rfl
theorem isBool_26 : isBool Tryz.prog 26 = false := by kernel_rfl
theorem isPtr_26 : isPtr Tryz.prog 26 = false := by kernel_rfl
theorem isU8_26 : isU8 Tryz.prog 26 = false := by kernel_rfl
theorem isIfc_26 : isIfc Tryz.prog 26 = false := by kernel_rfl
theorem ifcT_26 : ifcT Tryz.prog 26 = false := by kernel_rfl
theorem seqT_26 : seqT Tryz.prog 26 = true := by kernel_rfl
theorem sliceable_26 : sliceable Tryz.prog 26 = true := by kernel_rfl
theorem szOf_28 : szOf Tryz.prog 28 = 3 := by kernel_rfl
theorem aggT_28 : aggT Tryz.prog 28 = some true := by kernel_rfl
theorem elemT_28 : elemT Tryz.prog 28 = none := by kernel_rfl
theorem bytesOf_28 : bytesOf Tryz.prog 28 = some 56 := by kernel_rfl
theorem zeroOf_28 : zeroOf Tryz.prog 28 = some [A.int .i64 0, A.nils, A.nils] := by kernel_rfl
theorem arrT_28 : arrT Tryz.prog 28 = none := by kernel_rfl
theorem fieldT_28_0 : fieldT Tryz.prog 28 0 = some (0, 3) := by kernel_rfl
theorem fieldT_28_1 : fieldT Tryz.prog 28 1 = some (1, 25) := by kernel_rfl
theorem fieldT_28_2 : fieldT Tryz.prog 28 2 = some (2, 26) := by kernel_rfl
theorem isStr_28 : isStr Tryz.prog 28 = false := by kernel_rfl
theorem isBool_28 : isBool Tryz.prog 28 = false := by kernel_rfl
theorem isPtr_28 : isPtr Tryz.prog 28 = false := by kernel_rfl
theorem isU8_28 : isU8 Tryz.prog 28 = false := by kernel_rfl
theorem isIfc_28 : isIfc Tryz.prog 28 = false := by kernel_rfl
theorem ifcT_28 : ifcT Tryz.prog 28 = false := by kernel_rfl
theorem fieldsOk_28 : fieldsOk Tryz.prog 28 = true := by kernel_rfl
theorem seqT_28 : seqT Tryz.prog 28 = false := by kernel_rfl
theorem sliceable_28 : sliceable Tryz.prog 28 = false := by kernel_rfl
theorem szOf_31 : szOf Tryz.prog 31 = 1 := by kernel_rfl
theorem aggT_31 : aggT Tryz.prog 31 = some false := by kernel_rfl
theorem elemT_31 : elemT Tryz.prog 31 = none := by kernel_rfl
theorem bytesOf_31 : bytesOf Tryz.prog 31 = some 8 := by kernel_rfl
theorem zeroOf_31 : zeroOf Tryz.prog 31 = some [A.int .i64 0] := by kernel_rfl
theorem arrT_31 : arrT Tryz.prog 31 = none := by kernel_rfl
theorem isStr_31 : isStr Tryz.prog 31 = false := by kernel_rfl
theorem isBool_31 : isBool Tryz.prog 31 = false := by kernel_rfl
theorem isPtr_31 : isPtr Tryz.prog 31 = false := by kernel_rfl
theorem isU8_31 : isU8 Tryz.prog 31 = false := by kernel_rfl
theorem isIfc_31 : isIfc Tryz.prog 31 = false := by kernel_rfl
theorem ifcT_31 : ifcT Tryz.prog 31 = false := by kernel_rfl
theorem seqT_31 : seqT Tryz.prog 31 = false := by kernel_rfl
theorem sliceable_31 : sliceable Tryz.prog 31 = false := by kernel_rfl
theorem szOf_39 : szOf Tryz.prog 39 = 1 := by kernel_rfl
theorem aggT_39 : aggT Tryz.prog 39 = some false := by kernel_rfl
theorem elemT_39 : elemT Tryz.prog 39 = some 5 := by kernel_rfl
theorem bytesOf_39 : bytesOf Tryz.prog 39 = some 24 := by kernel_rfl
theorem zeroOf_39 : zeroOf Tryz.prog 39 = some [A.nils] := by kernel_rfl
theorem arrT_39 : arrT Tryz.prog 39 = none := by kernel_rfl
theorem isStr_39 : isStr Tryz.prog 39 = false := by kernel_rfl
theorem isBool_39 : isBool Tryz.prog 39 = false := by kernel_rfl
theorem isPtr_39 : isPtr Tryz.prog 39 = false := by kernel_rfl
theorem isU8_39 : isU8 Tryz.prog 39 = false := by kernel_rfl
theorem isIfc_39 : isIfc Tryz.prog 39 = false := by kernel_rfl
theorem ifcT_39 : ifcT Tryz.prog 39 = false := by kernel_rfl
theorem seqT_39 : seqT Tryz.prog 39 = true := by kernel_rfl
theorem sliceable_39 : sliceable Tryz.prog 39 = true := by kernel_rfl
theorem szOf_41 : szOf Tryz.prog 41 = 1 := by kernel_rfl
theorem aggT_41 : aggT Tryz.prog 41 = some false := by kernel_rfl
theorem elemT_41 : elemT Tryz.prog 41 = none := by kernel_rfl
theorem bytesOf_41 : bytesOf Tryz.prog 41 = some 8 := by kernel_rfl
theorem zeroOf_41 : zeroOf Tryz.prog 41 = some [A.nilf] := by kernel_rfl
theorem arrT_41 : arrT Tryz.prog 41 = none := by kernel_rfl
theorem isStr_41 : isStr Tryz.prog 41 = false := by kernel_rfl
theorem isBool_41 : isBool Tryz.prog 41 = false := by kernel_rfl
theorem isPtr_41 : isPtr Tryz.prog 41 = false := by kernel_rfl
theorem isU8_41 : isU8 Tryz.prog 41 = false := by kernel_rfl
theorem isIfc_41 : isIfc Tryz.prog 41 = false := by kernel_rfl
theorem ifcT_41 : ifcT Tryz.prog 41 = false := by kernel_rfl
theorem seqT_41 : seqT Tryz.prog 41 = false := by kernel_rfl
theorem sliceable_41 : sliceable Tryz.prog 41 = false := by kernel_rfl
theorem szOf_44 : szOf Tryz.prog 44 = 1 := by kernel_rfl
theorem aggT_44 : aggT Tryz.prog 44 = some false := by kernel_rfl
theorem elemT_44 : elemT Tryz.prog 44 = none := by kernel_rfl
theorem bytesOf_44 : bytesOf Tryz.prog 44 = some 8 := by kernel_rfl
theorem zeroOf_44 : zeroOf Tryz.prog 44 = some [A.nilf] := by kernel_rfl
theorem arrT_44 : arrT Tryz.prog 44 = none := by kernel_rfl
theorem isStr_44 : isStr Tryz.prog 44 = false := by kernel_rfl
theorem isBool_44 : isBool Tryz.prog 44 = false := by kernel_rfl
theorem isPtr_44 : isPtr Tryz.prog 44 = false := by kernel_rfl
theorem isU8_44 : isU8 Tryz.prog 44 = false := by kernel_rfl
theorem isIfc_44 : isIfc Tryz.prog 44 = false := by kernel_rfl
theorem ifcT_44 : ifcT Tryz.prog 44 = false := by kernel_rfl
theorem seqT_44 : seqT Tryz.prog 44 = false := by kernel_rfl
theorem sliceable_44 : sliceable Tryz.prog 44 = false := by kernel_rfl
theorem szOf_48 : szOf Tryz.prog 48 = 1 := by kernel_rfl
theorem aggT_48 : aggT Tryz.prog 48 = some false := by kernel_rfl
theorem elemT_48 : elemT Tryz.prog 48 = none := by kernel_rfl
theorem bytesOf_48 : bytesOf Tryz.prog 48 = some 8 := by kernel_rfl
theorem zeroOf_48 : zeroOf Tryz.prog 48 = some [A.nilf] := by kernel_rfl
theorem arrT_48 : arrT Tryz.prog 48 = none := by kernel_rfl
theorem isStr_48 : isStr Tryz.prog 48 = false := by kernel_rfl
theorem isBool_48 : isBool Tryz.prog 48 = false := by kernel_rfl
theorem isPtr_48 : isPtr Tryz.prog 48 = false := by kernel_rfl
theorem isU8_48 : isU8 Tryz.prog 48 = false := by kernel_rfl
theorem isIfc_48 : isIfc Tryz.prog 48 = false := by kernel_rfl
theorem ifcT_48 : ifcT Tryz.prog 48 = false := by kernel_rfl
theorem seqT_48 : seqT Tryz.prog 48 = false := by kernel_rfl
theorem sliceable_48 : sliceable Tryz.prog 48 = false := by kernel_rfl
theorem szOf_49 : szOf Tryz.prog 49 = 1 := by kernel_rfl
theorem aggT_49 : aggT Tryz.prog 49 = some false := by kernel_rfl
theorem elemT_49 : elemT Tryz.prog 49 = none := by kernel_rfl
theorem bytesOf_49 : bytesOf Tryz.prog 49 = some 8 := by kernel_rfl
theorem zeroOf_49 : zeroOf Tryz.prog 49 = some [A.nilf] := by kernel_rfl
theorem arrT_49 : arrT Tryz.prog 49 = none := by kernel_rfl
theorem isStr_49 : isStr Tryz.prog 49 = false := by kernel_rfl
theorem isBool_49 : isBool Tryz.prog 49 = false := by kernel_rfl
theorem isPtr_49 : isPtr Tryz.prog 49 = false := by kernel_rfl
theorem isU8_49 : isU8 Tryz.prog 49 = false := by kernel_rfl
theorem isIfc_49 : isIfc Tryz.prog 49 = false := by kernel_rfl
theorem ifcT_49 : ifcT Tryz.prog 49 = false := by kernel_rfl
theorem seqT_49 : seqT Tryz.prog 49 = false := by kernel_rfl
theorem sliceable_49 : sliceable Tryz.prog 49 = false := by kernel_rfl
theorem szOf_50 : szOf Tryz.prog 50 = 1 := by kernel_rfl
theorem aggT_50 : aggT Tryz.prog 50 = some false := by kernel_rfl
theorem elemT_50 : elemT Tryz.prog 50 = none := by kernel_rfl
theorem bytesOf_50 : bytesOf Tryz.prog 50 = some 8 := by kernel_rfl
theorem zeroOf_50 : zeroOf Tryz.prog 50 = some [A.nilf] := by kernel_rfl
theorem arrT_50 : arrT Tryz.prog 50 = none := by kernel_rfl
theorem isStr_50 : isStr Tryz.prog 50 = false := by kernel_rfl
theorem isBool_50 : isBool Tryz.prog 50 = false := by kernel_rfl
theorem isPtr_50 : isPtr Tryz.prog 50 = false := by kernel_rfl
theorem isU8_50 : isU8 Tryz.prog 50 = false := by kernel_rfl
theorem isIfc_50 : isIfc Tryz.prog 50 = false := by kernel_rfl
theorem ifcT_50 : ifcT Tryz.prog 50 = false := by kernel_rfl
theorem seqT_50 : seqT Tryz.prog 50 = false := by kernel_rfl
theorem sliceable_50 : sliceable Tryz.prog 50 = false := by kernel_rfl
theorem szOf_51 : szOf Tryz.prog 51 = 1 := by kernel_rfl
theorem aggT_51 : aggT Tryz.prog 51 = some false := by kernel_rfl
theorem elemT_51 : elemT Tryz.prog 51 = none := by kernel_rfl
theorem bytesOf_51 : bytesOf Tryz.prog 51 = some 8 := by kernel_rfl
theorem zeroOf_51 : zeroOf Tryz.prog 51 = some [A.nilf] := by kernel_rfl
theorem arrT_51 : arrT Tryz.prog 51 = none := by kernel_rfl
theorem isStr_51 : isStr Tryz.prog 51 = false := by kernel_rfl
theorem isBool_51 : isBool Tryz.prog 51 = false := by kernel_rfl
theorem isPtr_51 : isPtr Tryz.prog 51 = false := by kernel_rfl
theorem isU8_51 : isU8 Tryz.prog 51 = false := by kernel_rfl
theorem isIfc_51 : isIfc Tryz.prog 51 = false := by kernel_rfl
theorem ifcT_51 : ifcT Tryz.prog 51 = false := by kernel_rfl
theorem seqT_51 : seqT Tryz.prog 51 = false := by kernel_rfl
theorem sliceable_51 : sliceable Tryz.prog 51 = false := by kernel_rfl
theorem szOf_52 : szOf Tryz.prog 52 = 1 := by kernel_rfl
theorem aggT_52 : aggT Tryz.prog 52 = some false := by kernel_rfl
theorem elemT_52 : elemT Tryz.prog 52 = none := by kernel_rfl
theorem bytesOf_52 : bytesOf Tryz.prog 52 = some 8 := by kernel_rfl
theorem zeroOf_52 : zeroOf Tryz.prog 52 = some [A.nilf] := by kernel_rfl
theorem arrT_52 : arrT Tryz.prog 52 = none := by kernel_rfl
theorem isStr_52 : isStr Tryz.prog 52 = false := by kernel_rfl
theorem isBool_52 : isBool Tryz.prog 52 = false := by kernel_rfl
theorem isPtr_52 : isPtr Tryz.prog 52 = false := by kernel_rfl
theorem isU8_52 : isU8 Tryz.prog 52 = false := by kernel_rfl
theorem isIfc_52 : isIfc Tryz.prog 52 = false := by kernel_rfl
theorem ifcT_52 : ifcT Tryz.prog 52 = false := by kernel_rfl
theorem seqT_52 : seqT Tryz.prog 52 = false := by kernel_rfl
theorem sliceable_52 : sliceable Tryz.prog 52 = false := by kernel_rfl
theorem szOf_53 : szOf Tryz.prog 53 = 1 := by kernel_rfl
theorem aggT_53 : aggT Tryz.prog 53 = some false := by kernel_rfl
theorem elemT_53 : elemT Tryz.prog 53 = none := by kernel_rfl
theorem bytesOf_53 : bytesOf Tryz.prog 53 = some 8 := by kernel_rfl
theorem zeroOf_53 : zeroOf Tryz.prog 53 = some [A.nilf] := by kernel_rfl
theorem arrT_53 : arrT Tryz.prog 53 = none := by kernel_rfl
theorem isStr_53 : isStr Tryz.prog 53 = false := by kernel_rfl
theorem isBool_53 : isBool Tryz.prog 53 = false := by kernel_rfl
theorem isPtr_53 : isPtr Tryz.prog 53 = false := by kernel_rfl
theorem isU8_53 : isU8 Tryz.prog 53 = false := by kernel_rfl
theorem isIfc_53 : isIfc Tryz.prog 53 = false := by kernel_rfl
theorem ifcT_53 : ifcT Tryz.prog 53 = false := by kernel_rfl
theorem seqT_53 : seqT Tryz.prog 53 = false := by kernel_rfl
theorem sliceable_53 : sliceable Tryz.prog 53 = false := by kernel_rfl
theorem szOf_54 : szOf Tryz.prog 54 = 1 := by kernel_rfl
theorem aggT_54 : aggT Tryz.prog 54 = some false := by kernel_rfl
theorem elemT_54 : elemT Tryz.prog 54 = none := by kernel_rfl
theorem bytesOf_54 : bytesOf Tryz.prog 54 = some 8 := by kernel_rfl
theorem zeroOf_54 : zeroOf Tryz.prog 54 = some [A.nilf] := by kernel_rfl
theorem arrT_54 : arrT Tryz.prog 54 = none := by kernel_rfl
theorem isStr_54 : isStr Tryz.prog 54 = false := by kernel_rfl
theorem isBool_54 : isBool Tryz.prog 54 = false := by kernel_rfl
theorem isPtr_54 : isPtr Tryz.prog 54 = false := by kernel_rfl
theorem isU8_54 : isU8 Tryz.prog 54 = false := by kernel_rfl
theorem isIfc_54 : isIfc Tryz.prog 54 = false := by kernel_rfl
theorem ifcT_54 : ifcT Tryz.prog 54 = false := by kernel_rfl
theorem seqT_54 : seqT Tryz.prog 54 = false := by kernel_rfl
theorem sliceable_54 : sliceable Tryz.prog 54 = false := by kernel_rfl
theorem szOf_55 : szOf Tryz.prog 55 = 1 := by kernel_rfl
theorem aggT_55 : aggT Tryz.prog 55 = some false := by kernel_rfl
theorem elemT_55 : elemT Tryz.prog 55 = none := by kernel_rfl
theorem bytesOf_55 : bytesOf Tryz.prog 55 = some 8 := by kernel_rfl
theorem zeroOf_55 : zeroOf Tryz.prog 55 = some [A.nilf] := by kernel_rfl
theorem arrT_55 : arrT Tryz.prog 55 = none := by kernel_rfl
theorem isStr_55 : isStr Tryz.prog 55 = false := by kernel_rfl
theorem isBool_55 : isBool Tryz.prog 55 = false := by kernel_rfl
theorem isPtr_55 : isPtr Tryz.prog 55 = false := by kernel_rfl
theorem isU8_55 : isU8 Tryz.prog 55 = false := by kernel_rfl
theorem isIfc_55 : isIfc Tryz.prog 55 = false := by kernel_rfl
theorem ifcT_55 : ifcT Tryz.prog 55 = false := by kernel_rfl
theorem seqT_55 : seqT Tryz.prog 55 = false := by kernel_rfl
theorem sliceable_55 : sliceable Tryz.prog 55 = false := by kernel_rfl
theorem szOf_56 : szOf Tryz.prog 56 = 1 := by kernel_rfl
theorem aggT_56 : aggT Tryz.prog 56 = some false := by kernel_rfl
theorem elemT_56 : elemT Tryz.prog 56 = none := by kernel_rfl
theorem bytesOf_56 : bytesOf Tryz.prog 56 = some 8 := by kernel_rfl
theorem zeroOf_56 : zeroOf Tryz.prog 56 = some [A.nilf] := by kernel_rfl
theorem arrT_56 : arrT Tryz.prog 56 = none := by kernel_rfl
theorem isStr_56 : isStr Tryz.prog 56 = false := by kernel_rfl
theorem isBool_56 : isBool Tryz.prog 56 = false := by kernel_rfl
theorem isPtr_56 : isPtr Tryz.prog 56 = false := by kernel_rfl
theorem isU8_56 : isU8 Tryz.prog 56 = false := by kernel_rfl
theorem isIfc_56 : isIfc Tryz.prog 56 = false := by kernel_rfl
theorem ifcT_56 : ifcT Tryz.prog 56 = false := by kernel_rfl
theorem seqT_56 : seqT Tryz.prog 56 = false := by kernel_rfl
theorem sliceable_56 : sliceable Tryz.prog 56 = false := by kernel_rfl
theorem szOf_57 : szOf Tryz.prog 57 = 1 := by kernel_rfl
theorem aggT_57 : aggT Tryz.prog 57 = some false := by kernel_rfl
theorem elemT_57 : elemT Tryz.prog 57 = none := by kernel_rfl
theorem bytesOf_57 : bytesOf Tryz.prog 57 = some 8 := by kernel_rfl
theorem zeroOf_57 : zeroOf Tryz.prog 57 = some [A.nilf] := by kernel_rfl
theorem arrT_57 : arrT Tryz.prog 57 = none := by kernel_rfl
theorem isStr_57 : isStr Tryz.prog 57 = false := by kernel_rfl
theorem isBool_57 : isBool Tryz.prog 57 = false := by kernel_rfl
theorem isPtr_57 : isPtr Tryz.prog 57 = false := by kernel_rfl
theorem isU8_57 : isU8 Tryz.prog 57 = false := by kernel_rfl
theorem isIfc_57 : isIfc Tryz.prog 57 = false := by kernel_rfl
theorem ifcT_57 : ifcT Tryz.prog 57 = false := by kernel_rfl
theorem seqT_57 : seqT Tryz.prog 57 = false := by kernel_rfl
theorem sliceable_57 : sliceable Tryz.prog 57 = false := by kernel_rfl
theorem szOf_58 : szOf Tryz.prog 58 = 1 := by kernel_rfl
theorem aggT_58 : aggT Tryz.prog 58 = some false := by kernel_rfl
theorem elemT_58 : elemT Tryz.prog 58 = none := by kernel_rfl
theorem bytesOf_58 : bytesOf Tryz.prog 58 = some 8 := by kernel_rfl
theorem zeroOf_58 : zeroOf Tryz.prog 58 = some [A.nilf] := by kernel_rfl
theorem arrT_58 : arrT Tryz.prog 58 = none := by kernel_rfl
theorem isStr_58 : isStr Tryz.prog 58 = false := by kernel_rfl
theorem isBool_58 : isBool Tryz.prog 58 = false := by kernel_rfl
theorem isPtr_58 : isPtr Tryz.prog 58 = false := by kernel_rfl
theorem isU8_58 : isU8 Tryz.prog 58 = false := by kernel_rfl
theorem isIfc_58 : isIfc Tryz.prog 58 = false := by kernel_rfl
theorem ifcT_58 : ifcT Tryz.prog 58 = false := by kernel_rfl
theorem seqT_58 : seqT Tryz.prog 58 = false := by kernel_rfl
theorem sliceable_58 : sliceable Tryz.prog 58 = false := by kernel_rfl
theorem szOf_60 : szOf Tryz.prog 60 = 1 := by kernel_rfl
theorem aggT_60 : aggT Tryz.prog 60 = some false := by kernel_rfl
theorem elemT_60 : elemT Tryz.prog 60 = none := by kernel_rfl
theorem bytesOf_60 : bytesOf Tryz.prog 60 = some 8 := by kernel_rfl
theorem zeroOf_60 : zeroOf Tryz.prog 60 = some [A.nilf] := by kernel_rfl
theorem arrT_60 : arrT Tryz.prog 60 = none := by kernel_rfl
theorem isStr_60 : isStr Tryz.prog 60 = false := by kernel_rfl
theorem isBool_60 : isBool Tryz.prog 60 = false := by kernel_rfl
theorem isPtr_60 : isPtr Tryz.prog 60 = false := by kernel_rfl
theorem isU8_60 : isU8 Tryz.prog 60 = false := by kernel_rfl
theorem isIfc_60 : isIfc Tryz.prog 60 = false := by kernel_rfl
theorem ifcT_60 : ifcT Tryz.prog 60 = false := by kernel_rfl
theorem seqT_60 : seqT Tryz.prog 60 = false := by kernel_rfl
theorem sliceable_60 : sliceable Tryz.prog 60 = false := by kernel_rfl
theorem szOf_65 : szOf Tryz.prog 65 = 1 := by kernel_rfl
theorem aggT_65 : aggT Tryz.prog 65 = some false := by kernel_rfl
theorem elemT_65 : elemT Tryz.prog 65 = none := by kernel_rfl
theorem bytesOf_65 : bytesOf Tryz.prog 65 = some 8 := by kernel_rfl
theorem zeroOf_65 : zeroOf Tryz.prog 65 = some [A.nilf] := by kernel_rfl
theorem arrT_65 : arrT Tryz.prog 65 = none := by kernel_rfl
theorem isStr_65 : isStr Tryz.prog 65 = false := by kernel_rfl
theorem isBool_65 : isBool Tryz.prog 65 = false := by kernel_rfl
theorem isPtr_65 : isPtr Tryz.prog 65 = false := by kernel_rfl
theorem isU8_65 : isU8 Tryz.prog 65 = false := by kernel_rfl
theorem isIfc_65 : isIfc Tryz.prog 65 = false := by kernel_rfl
theorem ifcT_65 : ifcT Tryz.prog 65 = false := by kernel_rfl
theorem seqT_65 : seqT Tryz.prog 65 = false := by kernel_rfl
theorem sliceable_65 : sliceable Tryz.prog 65 = false := by kernel_rfl
theorem szOf_66 : szOf Tryz.prog 66 = 1 := by kernel_rfl
theorem aggT_66 : aggT Tryz.prog 66 = some false := by kernel_rfl
theorem elemT_66 : elemT Tryz.prog 66 = some 9 := by kernel_rfl
theorem bytesOf_66 : bytesOf Tryz.prog 66 = some 24 := by kernel_rfl
theorem zeroOf_66 : zeroOf Tryz.prog 66 = some [A.nils] := by kernel_rfl
theorem arrT_66 : arrT Tryz.prog 66 = none := by kernel_rfl
theorem isStr_66 : isStr Tryz.prog 66 = false := by kernel_rfl
theorem isBool_66 : isBool Tryz.prog 66 = false := by kernel_rfl
theorem isPtr_66 : isPtr Tryz.prog 66 = false := by kernel_rfl
theorem isU8_66 : isU8 Tryz.prog 66 = false := by kernel_rfl
theorem isIfc_66 : isIfc Tryz.prog 66 = false := by kernel_rfl
theorem ifcT_66 : ifcT Tryz.prog 66 = false := by kernel_rfl
theorem seqT_66 : seqT Tryz.prog 66 = true := by kernel_rfl
theorem sliceable_66 : sliceable Tryz.prog 66 = true := by kernel_rfl
theorem szOf_72 : szOf Tryz.prog 72 = 1 := by kernel_rfl
theorem aggT_72 : aggT Tryz.prog 72 = some false := by kernel_rfl
theorem elemT_72 : elemT Tryz.prog 72 = none := by kernel_rfl
theorem bytesOf_72 : bytesOf Tryz.prog 72 = some 8 := by kernel_rfl
theorem zeroOf_72 : zeroOf Tryz.prog 72 = some [A.nilf] := by kernel_rfl
theorem arrT_72 : arrT Tryz.prog 72 = none := by kernel_rfl
theorem isStr_72 : isStr Tryz.prog 72 = false := by kernel_rfl
theorem isBool_72 : isBool Tryz.prog 72 = false := by kernel_rfl
theorem isPtr_72 : isPtr Tryz.prog 72 = false := by kernel_rfl
theorem isU8_72 : isU8 Tryz.prog 72 = false := by kernel_rfl
theorem isIfc_72 : isIfc Tryz.prog 72 = false := by kernel_rfl
theorem ifcT_72 : ifcT Tryz.prog 72 = false := by kernel_rfl
theorem seqT_72 : seqT Tryz.prog 72 = false := by kernel_rfl
theorem sliceable_72 : sliceable Tryz.prog 72 = false := by kernel_rfl
theorem szOf_76 : szOf Tryz.prog 76 = 1 := by kernel_rfl
theorem aggT_76 : aggT Tryz.prog 76 = some false := by kernel_rfl
theorem elemT_76 : elemT Tryz.prog 76 = none := by kernel_rfl
theorem bytesOf_76 : bytesOf Tryz.prog 76 = some 8 := by kernel_rfl
theorem zeroOf_76 : zeroOf Tryz.prog 76 = some [A.nilf] := by kernel_rfl
theorem arrT_76 : arrT Tryz.prog 76 = none := by kernel_rfl
theorem isStr_76 : isStr Tryz.prog 76 = false := by kernel_rfl
theorem isBool_76 : isBool Tryz.prog 76 = false := by kernel_rfl
theorem isPtr_76 : isPtr Tryz.prog 76 = false := by kernel_rfl
theorem isU8_76 : isU8 Tryz.prog 76 = false := by kernel_rfl
theorem isIfc_76 : isIfc Tryz.prog 76 = false := by kernel_rfl
theorem ifcT_76 : ifcT Tryz.prog 76 = false := by kernel_rfl
theorem seqT_76 : seqT Tryz.prog 76 = false := by kernel_rfl
theorem sliceable_76 : sliceable Tryz.prog 76 = false := by kernel_rfl
theorem szOf_86 : szOf Tryz.prog 86 = 1 := by kernel_rfl
theorem aggT_86 : aggT Tryz.prog 86 = some false := by kernel_rfl
theorem elemT_86 : elemT Tryz.prog 86 = none := by kernel_rfl
theorem bytesOf_86 : bytesOf Tryz.prog 86 = some 8 := by kernel_rfl
theorem zeroOf_86 : zeroOf Tryz.prog 86 = some [A.nilf] := by kernel_rfl
theorem arrT_86 : arrT Tryz.prog 86 = none := by kernel_rfl
theorem isStr_86 : isStr Tryz.prog 86 = false := by kernel_rfl
theorem isBool_86 : isBool Tryz.prog 86 = false := by kernel_rfl
theorem isPtr_86 : isPtr Tryz.prog 86 = false := by kernel_rfl
theorem isU8_86 : isU8 Tryz.prog 86 = false := by kernel_rfl
theorem isIfc_86 : isIfc Tryz.prog 86 = false := by kernel_rfl
theorem ifcT_86 : ifcT Tryz.prog 86 = false := by kernel_rfl
theorem seqT_86 : seqT Tryz.prog 86 = false := by kernel_rfl
theorem sliceable_86 : sliceable Tryz.prog 86 = false := by kernel_rfl
theorem szOf_91 : szOf Tryz.prog 91 = 0 := by kernel_rfl
theorem aggT_91 : aggT Tryz.prog 91 = some true := by kernel_rfl
theorem elemT_91 : elemT Tryz.prog 91 = none := by kernel_rfl
theorem bytesOf_91 : bytesOf Tryz.prog 91 = some 0 := by kernel_rfl
theorem zeroOf_91 : zeroOf Tryz.prog 91 = some [] := by kernel_rfl
theorem arrT_91 : arrT Tryz.prog 91 = none := by kernel_rfl
theorem isStr_91 : isStr Tryz.prog 91 = false := by kernel_rfl
theorem isBool_91 : isBool Tryz.prog 91 = false := by kernel_rfl
theorem isPtr_91 : isPtr Tryz.prog 91 = false := by kernel_rfl
theorem isU8_91 : isU8 Tryz.prog 91 = false := by kernel_rfl
theorem isIfc_91 : isIfc Tryz.prog 91 = false := by kernel_rfl
theorem ifcT_91 : ifcT Tryz.prog 91 = false := by kernel_rfl
theorem fieldsOk_91 : fieldsOk Tryz.prog 91 = true := by kernel_rfl
theorem seqT_91 : seqT Tryz.prog 91 = false := by kernel_rfl
theorem sliceable_91 : sliceable Tryz.prog 91 = false := by kernel_rfl
theorem szOf_93 : szOf Tryz.prog 93 = 1 := by kernel_rfl
theorem aggT_93 : aggT Tryz.prog 93 = some false := by kernel_rfl
theorem elemT_93 : elemT Tryz.prog 93 = none := by kernel_rfl
theorem bytesOf_93 : bytesOf Tryz.prog 93 = some 8 := by kernel_rfl
theorem zeroOf_93 : zeroOf Tryz.prog 93 = some [A.nilp] := by kernel_rfl
theorem arrT_93 : arrT Tryz.prog 93 = none := by kernel_rfl
theorem isStr_93 : isStr Tryz.prog 93 = false := by kernel_rfl
theorem isBool_93 : isBool Tryz.prog 93 = false := by kernel_rfl
theorem isPtr_93 : isPtr Tryz.prog 93 = true := by kernel_rfl
theorem isU8_93 : isU8 Tryz.prog 93 = false := by kernel_rfl
theorem isIfc_93 : isIfc Tryz.prog 93 = false := by kernel_rfl
theorem ifcT_93 : ifcT Tryz.prog 93 = false := by kernel_rfl
theorem seqT_93 : seqT Tryz.prog 93 = false := by kernel_rfl
theorem sliceable_93 : sliceable Tryz.prog 93 = false := by kernel_rfl
theorem szOf_95 : szOf Tryz.prog 95 = 1 := by kernel_rfl
theorem aggT_95 : aggT Tryz.prog 95 = some true := by kernel_rfl
theorem elemT_95 : elemT Tryz.prog 95 = none := by kernel_rfl
theorem bytesOf_95 : bytesOf Tryz.prog 95 = some 16 := by kernel_rfl
theorem zeroOf_95 : zeroOf Tryz.prog 95 = some [A.str []] := by kernel_rfl
theorem arrT_95 : arrT Tryz.prog 95 = none := by kernel_rfl
theorem fieldT_95_0 : fieldT Tryz.prog 95 0 = some (0, 9) := by kernel_rfl
theorem isStr_95 : isStr Tryz.prog 95 = false := by kernel_rfl
theorem isBool_95 : isBool Tryz.prog 95 = false := by kernel_rfl
theorem isPtr_95 : isPtr Tryz.prog 95 = false := by kernel_rfl
theorem isU8_95 : isU8 Tryz.prog 95 = false := by kernel_rfl
theorem isIfc_95 : isIfc Tryz.prog 95 = false := by kernel_rfl
theorem ifcT_95 : ifcT Tryz.prog 95 = false := by kernel_rfl
theorem fieldsOk_95 : fieldsOk Tryz.prog 95 = true := by kernel_rfl
theorem seqT_95 : seqT Tryz.prog 95 = false := by kernel_rfl
theorem sliceable_95 : sliceable Tryz.prog 95 = false := by kernel_rfl
theorem szOf_97 : szOf Tryz.prog 97 = 1 := by kernel_rfl
theorem aggT_97 : aggT Tryz.prog 97 = some false := by kernel_rfl
theorem elemT_97 : elemT Tryz.prog 97 = none := by kernel_rfl
theorem bytesOf_97 : bytesOf Tryz.prog 97 = some 8 := by kernel_rfl
theorem zeroOf_97 : zeroOf Tryz.prog 97 = some [A.nilf] := by kernel_rfl
theorem arrT_97 : arrT Tryz.prog 97 = none := by kernel_rfl
theorem isStr_97 : isStr Tryz.prog 97 = false := by kernel_rfl
theorem isBool_97 : isBool Tryz.prog 97 = false := by kernel_rfl
theorem isPtr_97 : isPtr Tryz.prog 97 = false := by kernel_rfl
theorem isU8_97 : isU8 Tryz.prog 97 = false := by kernel_rfl
theorem isIfc_97 : isIfc Tryz.prog 97 = false := by kernel_rfl
theorem ifcT_97 : ifcT Tryz.prog 97 = false := by kernel_rfl
theorem seqT_97 : seqT Tryz.prog 97 = false := by kernel_rfl
theorem sliceable_97 : sliceable Tryz.prog 97 = false := by kernel_rfl
theorem szOf_98 : szOf Tryz.prog 98 = 1 := by kernel_rfl
theorem aggT_98 : aggT Tryz.prog 98 = some false := by kernel_rfl
theorem elemT_98 : elemT Tryz.prog 98 = none := by kernel_rfl
theorem bytesOf_98 : bytesOf Tryz.prog 98 = some 8 := by kernel_rfl
theorem zeroOf_98 : zeroOf Tryz.prog 98 = some [A.nilp] := by kernel_rfl
theorem arrT_98 : arrT Tryz.prog 98 = none := by kernel_rfl
theorem isStr_98 : isStr Tryz.prog 98 = false := by kernel_rfl
theorem isBool_98 : isBool Tryz.prog 98 = false := by kernel_rfl
theorem isPtr_98 : isPtr Tryz.prog 98 = true := by kernel_rfl
theorem isU8_98 : isU8 Tryz.prog 98 = false := by kernel_rfl
theorem isIfc_98 : isIfc Tryz.prog 98 = false := by kernel_rfl
theorem ifcT_98 : ifcT Tryz.prog 98 = false := by kernel_rfl
theorem seqT_98 : seqT Tryz.prog 98 = false := by kernel_rfl
theorem sliceable_98 : sliceable Tryz.prog 98 = false := by kernel_rfl
theorem szOf_99 : szOf Tryz.prog 99 = 3 := by kernel_rfl
theorem aggT_99 : aggT Tryz.prog 99 = some true := by kernel_rfl
theorem elemT_99 : elemT Tryz.prog 99 = none := by kernel_rfl
theorem bytesOf_99 : bytesOf Tryz.prog 99 = some 24 := by kernel_rfl
theorem zeroOf_99 : zeroOf Tryz.prog 99 = some [A.int .i64 0, A.int .i64 0, A.bool false] := by kernel_rfl
theorem arrT_99 : arrT Tryz.prog 99 = none := by kernel_rfl
theorem fieldT_99_0 : fieldT Tryz.prog 99 0 = some (0, 3) := by kernel_rfl
theorem fieldT_99_1 : fieldT Tryz.prog 99 1 = some (1, 3) := by kernel_rfl
theorem fieldT_99_2 : fieldT Tryz.prog 99 2 = some (2, 4) := by kernel_rfl
theorem isStr_99 : isStr Tryz.prog 99 = false := by kernel_rfl
theorem isBool_99 : isBool Tryz.prog 99 = false := by kernel_rfl
theorem isPtr_99 : isPtr Tryz.prog 99 = false := by kernel_rfl
theorem isU8_99 : isU8 Tryz.prog 99 = false := by kernel_rfl
theorem isIfc_99 : isIfc Tryz.prog 99 = false := by kernel_rfl
theorem ifcT_99 : ifcT Tryz.prog 99 = false := by kernel_rfl
theorem fieldsOk_99 : fieldsOk Tryz.prog 99 = true := by kernel_rfl
theorem seqT_99 : seqT Tryz.prog 99 = false := by kernel_rfl
theorem sliceable_99 : sliceable Tryz.prog 99 = false := by kernel_rfl
theorem szOf_100 : szOf Tryz.prog 100 = 3 := by kernel_rfl
theorem aggT_100 : aggT Tryz.prog 100 = some true := by kernel_rfl
theorem elemT_100 : elemT Tryz.prog 100 = none := by kernel_rfl
theorem bytesOf_100 : bytesOf Tryz.prog 100 = some 24 := by kernel_rfl
theorem zeroOf_100 : zeroOf Tryz.prog 100 = some [A.int .i64 0, A.int .i64 0, A.bool false] := by kernel_rfl
theorem arrT_100 : arrT Tryz.prog 100 = none := by kernel_rfl
theorem fieldT_100_0 : fieldT Tryz.prog 100 0 = some (0, 3) := by kernel_rfl
theorem fieldT_100_1 : fieldT Tryz.prog 100 1 = some (1, 3) := by kernel_rfl
theorem fieldT_100_2 : fieldT Tryz.prog 100 2 = some (2, 4) := by kernel_rfl
theorem isStr_100 : isStr Tryz.prog 100 = false := by kernel_rfl
theorem isBool_100 : isBool Tryz.prog 100 = false := by kernel_rfl
theorem isPtr_100 : isPtr Tryz.prog 100 = false := by kernel_rfl
theorem isU8_100 : isU8 Tryz.prog 100 = false := by kernel_rfl
theorem isIfc_100 : isIfc Tryz.prog 100 = false := by kernel_rfl
theorem ifcT_100 : ifcT Tryz.prog 100 = false := by kernel_rfl
theorem fieldsOk_100 : fieldsOk Tryz.prog 100 = true := by kernel_rfl
theorem seqT_100 : seqT Tryz.prog 100 = false := by kernel_rfl
theorem sliceable_100 : sliceable Tryz.prog 100 = false := by kernel_rfl
theorem szOf_102 : szOf Tryz.prog 102 = 1 := by kernel_rfl
theorem aggT_102 : aggT Tryz.prog 102 = some false := by kernel_rfl
theorem elemT_102 : elemT Tryz.prog 102 = none := by kernel_rfl
theorem bytesOf_102 : bytesOf Tryz.prog 102 = some 8 := by kernel_rfl
theorem zeroOf_102 : zeroOf Tryz.prog 102 = some [A.nilf] := by kernel_rfl
theorem arrT_102 : arrT Tryz.prog 102 = none := by kernel_rfl
theorem isStr_102 : isStr Tryz.prog 102 = false := by kernel_rfl
theorem isBool_102 : isBool Tryz.prog 102 = false := by kernel_rfl
theorem isPtr_102 : isPtr Tryz.prog 102 = false := by kernel_rfl
theorem isU8_102 : isU8 Tryz.prog 102 = false := by kernel_rfl
theorem isIfc_102 : isIfc Tryz.prog 102 = false := by kernel_rfl
theorem ifcT_102 : ifcT Tryz.prog 102 = false := by kernel_rfl
theorem seqT_102 : seqT Tryz.prog 102 = false := by kernel_rfl
theorem sliceable_102 : sliceable Tryz.prog 102 = false := by kernel_rfl
theorem szOf_103 : szOf Tryz.prog 103 = 1 := by kernel_rfl
theorem aggT_103 : aggT Tryz.prog 103 = some false := by kernel_rfl
theorem elemT_103 : elemT Tryz.prog 103 = none := by kernel_rfl
theorem bytesOf_103 : bytesOf Tryz.prog 103 = some 8 := by kernel_rfl
theorem zeroOf_103 : zeroOf Tryz.prog 103 = some [A.nilp] := by kernel_rfl
theorem arrT_103 : arrT Tryz.prog 103 = none := by kernel_rfl
theorem isStr_103 : isStr Tryz.prog 103 = false := by kernel_rfl
theorem isBool_103 : isBool Tryz.prog 103 = false := by kernel_rfl
theorem isPtr_103 : isPtr Tryz.prog 103 = true := by kernel_rfl
theorem isU8_103 : isU8 Tryz.prog 103 = false := by kernel_rfl
theorem isIfc_103 : isIfc Tryz.prog 103 = false := by kernel_rfl
theorem ifcT_103 : ifcT Tryz.prog 103 = false := by kernel_rfl
theorem seqT_103 : seqT Tryz.prog 103 = false := by kernel_rfl
theorem sliceable_103 : sliceable Tryz.prog 103 = false := by kernel_rfl
theorem szOf_104 : szOf Tryz.prog 104 = 2 := by kernel_rfl
theorem aggT_104 : aggT Tryz.prog 104 = some true := by kernel_rfl
theorem elemT_104 : elemT Tryz.prog 104 = none := by kernel_rfl
theorem bytesOf_104 : bytesOf Tryz.prog 104 = some 32 := by kernel_rfl
theorem zeroOf_104 : zeroOf Tryz.prog 104 = some [A.nils, A.bool false] := by kernel_rfl
theorem arrT_104 : arrT Tryz.prog 104 = none := by kernel_rfl
theorem fieldT_104_0 : fieldT Tryz.prog 104 0 = some (0, 66) := by kernel_rfl
theorem fieldT_104_1 : fieldT Tryz.prog 104 1 = some (1, 4) := by kernel_rfl
theorem isStr_104 : isStr Tryz.prog 104 = false := by kernel_rfl
theorem isBool_104 : isBool Tryz.prog 104 = false := by kernel_rfl
theorem isPtr_104 : isPtr Tryz.prog 104 = false := by kernel_rfl
theorem isU8_104 : isU8 Tryz.prog 104 = false := by kernel_rfl
theorem isIfc_104 : isIfc Tryz.prog 104 = false := by kernel_rfl
theorem ifcT_104 : ifcT Tryz.prog 104 = false := by kernel_rfl
theorem fieldsOk_104 : fieldsOk Tryz.prog 104 = true := by kernel_rfl
theorem seqT_104 : seqT Tryz.prog 104 = false := by kernel_rfl
theorem sliceable_104 : sliceable Tryz.prog 104 = false := by kernel_rfl
theorem szOf_105 : szOf Tryz.prog 105 = 2 := by kernel_rfl
theorem aggT_105 : aggT Tryz.prog 105 = some true := by kernel_rfl
theorem elemT_105 : elemT Tryz.prog 105 = none := by kernel_rfl
theorem bytesOf_105 : bytesOf Tryz.prog 105 = some 32 := by kernel_rfl
theorem zeroOf_105 : zeroOf Tryz.prog 105 = some [A.nils, A.bool false] := by kernel_rfl
theorem arrT_105 : arrT Tryz.prog 105 = none := by kernel_rfl
theorem fieldT_105_0 : fieldT Tryz.prog 105 0 = some (0, 66) := by kernel_rfl
theorem fieldT_105_1 : fieldT Tryz.prog 105 1 = some (1, 4) := by kernel_rfl
theorem isStr_105 : isStr Tryz.prog 105 = false := by kernel_rfl
theorem isBool_105 : isBool Tryz.prog 105 = false := by kernel_rfl
theorem isPtr_105 : isPtr Tryz.prog 105 = false := by kernel_rfl
theorem isU8_105 : isU8 Tryz.prog 105 = false := by kernel_rfl
theorem isIfc_105 : isIfc Tryz.prog 105 = false := by kernel_rfl
theorem ifcT_105 : ifcT Tryz.prog 105 = false := by kernel_rfl
theorem fieldsOk_105 : fieldsOk Tryz.prog 105 = true := by kernel_rfl
theorem seqT_105 : seqT Tryz.prog 105 = false := by kernel_rfl
theorem sliceable_105 : sliceable Tryz.prog 105 = false := by kernel_rfl
theorem szOf_106 : szOf Tryz.prog 106 = 1 := by kernel_rfl
theorem aggT_106 : aggT Tryz.prog 106 = some false := by kernel_rfl
theorem elemT_106 : elemT Tryz.prog 106 = none := by kernel_rfl
theorem bytesOf_106 : bytesOf Tryz.prog 106 = some 8 := by kernel_rfl
theorem zeroOf_106 : zeroOf Tryz.prog 106 = some [A.nilf] := by kernel_rfl
theorem arrT_106 : arrT Tryz.prog 106 = none := by kernel_rfl
theorem isStr_106 : isStr Tryz.prog 106 = false := by kernel_rfl
theorem isBool_106 : isBool Tryz.prog 106 = false := by kernel_rfl
theorem isPtr_106 : isPtr Tryz.prog 106 = false := by kernel_rfl
theorem isU8_106 : isU8 Tryz.prog 106 = false := by kernel_rfl
theorem isIfc_106 : isIfc Tryz.prog 106 = false := by kernel_rfl
theorem ifcT_106 : ifcT Tryz.prog 106 = false := by kernel_rfl
theorem seqT_106 : seqT Tryz.prog 106 = false := by kernel_rfl
theorem sliceable_106 : sliceable Tryz.prog 106 = false := by kernel_rfl
theorem szOf_107 : szOf Tryz.prog 107 = 1 := by kernel_rfl
theorem aggT_107 : aggT Tryz.prog 107 = some false := by kernel_rfl
theorem elemT_107 : elemT Tryz.prog 107 = none := by kernel_rfl
theorem bytesOf_107 : bytesOf Tryz.prog 107 = some 8 := by kernel_rfl
theorem zeroOf_107 : zeroOf Tryz.prog 107 = some [A.nilf] := by kernel_rfl
theorem arrT_107 : arrT Tryz.prog 107 = none := by kernel_rfl
theorem isStr_107 : isStr Tryz.prog 107 = false := by kernel_rfl
theorem isBool_107 : isBool Tryz.prog 107 = false := by kernel_rfl
theorem isPtr_107 : isPtr Tryz.prog 107 = false := by kernel_rfl
theorem isU8_107 : isU8 Tryz.prog 107 = false := by kernel_rfl
theorem isIfc_107 : isIfc Tryz.prog 107 = false := by kernel_rfl
theorem ifcT_107 : ifcT Tryz.prog 107 = false := by kernel_rfl
theorem seqT_107 : seqT Tryz.prog 107 = false := by kernel_rfl
theorem sliceable_107 : sliceable Tryz.prog 107 = false := by kernel_rfl
theorem szOf_108 : szOf Tryz.prog 108 = 1 := by kernel_rfl
theorem aggT_108 : aggT Tryz.prog 108 = some false := by kernel_rfl
theorem elemT_108 : elemT Tryz.prog 108 = none := by kernel_rfl
theorem bytesOf_108 : bytesOf Tryz.prog 108 = some 8 := by kernel_rfl
theorem zeroOf_108 : zeroOf Tryz.prog 108 = some [A.nilf] := by kernel_rfl
theorem arrT_108 : arrT Tryz.prog 108 = none := by kernel_rfl
theorem isStr_108 : isStr Tryz.prog 108 = false := by kernel_rfl
theorem isBool_108 : isBool Tryz.prog 108 = false := by kernel_rfl
theorem isPtr_108 : isPtr Tryz.prog 108 = false := by kernel_rfl
theorem isU8_108 : isU8 Tryz.prog 108 = false := by kernel_rfl
theorem isIfc_108 : isIfc Tryz.prog 108 = false := by kernel_rfl
theorem ifcT_108 : ifcT Tryz.prog 108 = false := by kernel_rfl
theorem seqT_108 : seqT Tryz.prog 108 = false := by kernel_rfl
theorem sliceable_108 : sliceable Tryz.prog 108 = false := by kernel_rfl
theorem szOf_109 : szOf Tryz.prog 109 = 1 := by kernel_rfl
theorem aggT_109 : aggT Tryz.prog 109 = some false := by kernel_rfl
theorem elemT_109 : elemT Tryz.prog 109 = none := by kernel_rfl
theorem bytesOf_109 : bytesOf Tryz.prog 109 = some 8 := by kernel_rfl
theorem zeroOf_109 : zeroOf Tryz.prog 109 = some [A.nilf] := by kernel_rfl
theorem arrT_109 : arrT Tryz.prog 109 = none := by kernel_rfl
theorem isStr_109 : isStr Tryz.prog 109 = false := by kernel_rfl
theorem isBool_109 : isBool Tryz.prog 109 = false := by kernel_rfl
theorem isPtr_109 : isPtr Tryz.prog 109 = false := by kernel_rfl
theorem isU8_109 : isU8 Tryz.prog 109 = false := by kernel_rfl
theorem isIfc_109 : isIfc Tryz.prog 109 = false := by kernel_rfl
theorem ifcT_109 : ifcT Tryz.prog 109 = false := by kernel_rfl
theorem seqT_109 : seqT Tryz.prog 109 = false := by kernel_rfl
theorem sliceable_109 : sliceable Tryz.prog 109 = false := by kernel_rfl
theorem szOf_110 : szOf Tryz.prog 110 = 1 := by kernel_rfl
theorem aggT_110 : aggT Tryz.prog 110 = some false := by kernel_rfl
theorem elemT_110 : elemT Tryz.prog 110 = none := by kernel_rfl
theorem bytesOf_110 : bytesOf Tryz.prog 110 = some 8 := by kernel_rfl
theorem zeroOf_110 : zeroOf Tryz.prog 110 = some [A.int .u64 0] := by kernel_rfl
theorem arrT_110 : arrT Tryz.prog 110 = none := by kernel_rfl
theorem isStr_110 : isStr Tryz.prog 110 = false := by kernel_rfl
theorem isBool_110 : isBool Tryz.prog 110 = false := by kernel_rfl
theorem isPtr_110 : isPtr Tryz.prog 110 = false := by kernel_rfl
theorem isU8_110 : isU8 Tryz.prog 110 = false := by kernel_rfl
theorem isIfc_110 : isIfc Tryz.prog 110 = false := by kernel_rfl
theorem ifcT_110 : ifcT Tryz.prog 110 = false := by kernel_rfl
theorem seqT_110 : seqT Tryz.prog 110 = false := by kernel_rfl
theorem sliceable_110 : sliceable Tryz.prog 110 = false := by kernel_rfl
theorem szOf_111 : szOf Tryz.prog 111 = 1 := by kernel_rfl
theorem aggT_111 : aggT Tryz.prog 111 = some false := by kernel_rfl
theorem elemT_111 : elemT Tryz.prog 111 = none := by kernel_rfl
theorem bytesOf_111 : bytesOf Tryz.prog 111 = some 8 := by kernel_rfl
theorem zeroOf_111 : zeroOf Tryz.prog 111 = some [A.nilf] := by kernel_rfl
theorem arrT_111 : arrT Tryz.prog 111 = none := by kernel_rfl
theorem isStr_111 : isStr Tryz.prog 111 = false := by kernel_rfl
theorem isBool_111 : isBool Tryz.prog 111 = false := by kernel_rfl
theorem isPtr_111 : isPtr Tryz.prog 111 = false := by kernel_rfl
theorem isU8_111 : isU8 Tryz.prog 111 = false := by kernel_rfl
theorem isIfc_111 : isIfc Tryz.prog 111 = false := by kernel_rfl
theorem ifcT_111 : ifcT Tryz.prog 111 = false := by kernel_rfl
theorem seqT_111 : seqT Tryz.prog 111 = false := by kernel_rfl
theorem sliceable_111 : sliceable Tryz.prog 111 = false := by kernel_rfl
theorem szOf_112 : szOf Tryz.prog 112 = 1 := by kernel_rfl
theorem aggT_112 : aggT Tryz.prog 112 = some false := by kernel_rfl
theorem elemT_112 : elemT Tryz.prog 112 = none := by kernel_rfl
theorem bytesOf_112 : bytesOf Tryz.prog 112 = some 8 := by kernel_rfl
theorem zeroOf_112 : zeroOf Tryz.prog 112 = some [A.nilf] := by kernel_rfl
theorem arrT_112 : arrT Tryz.prog 112 = none := by kernel_rfl
theorem isStr_112 : isStr Tryz.prog 112 = false := by kernel_rfl
theorem isBool_112 : isBool Tryz.prog 112 = false := by kernel_rfl
theorem isPtr_112 : isPtr Tryz.prog 112 = false := by kernel_rfl
theorem isU8_112 : isU8 Tryz.prog 112 = false := by kernel_rfl
theorem isIfc_112 : isIfc Tryz.prog 112 = false := by kernel_rfl
theorem ifcT_112 : ifcT Tryz.prog 112 = false := by kernel_rfl
theorem seqT_112 : seqT Tryz.prog 112 = false := by kernel_rfl
theorem sliceable_112 : sliceable Tryz.prog 112 = false := by kernel_rfl
theorem szOf_113 : szOf Tryz.prog 113 = 1 := by kernel_rfl
theorem aggT_113 : aggT Tryz.prog 113 = some false := by kernel_rfl
theorem elemT_113 : elemT Tryz.prog 113 = none := by kernel_rfl
theorem bytesOf_113 : bytesOf Tryz.prog 113 = some 8 := by kernel_rfl
theorem zeroOf_113 : zeroOf Tryz.prog 113 = some [A.nilf] := by kernel_rfl
theorem arrT_113 : arrT Tryz.prog 113 = none := by kernel_rfl
theorem isStr_113 : isStr Tryz.prog 113 = false := by kernel_rfl
theorem isBool_113 : isBool Tryz.prog 113 = false := by kernel_rfl
theorem isPtr_113 : isPtr Tryz.prog 113 = false := by kernel_rfl
theorem isU8_113 : isU8 Tryz.prog 113 = false := by kernel_rfl
theorem isIfc_113 : isIfc Tryz.prog 113 = false := by kernel_rfl
theorem ifcT_113 : ifcT Tryz.prog 113 = false := by kernel_rfl
theorem seqT_113 : seqT Tryz.prog 113 = false := by kernel_rfl
theorem sliceable_113 : sliceable Tryz.prog 113 = false := by kernel_rfl
theorem szOf_114 : szOf Tryz.prog 114 = 1 := by kernel_rfl
theorem aggT_114 : aggT Tryz.prog 114 = some false := by kernel_rfl
theorem elemT_114 : elemT Tryz.prog 114 = none := by kernel_rfl
theorem bytesOf_114 : bytesOf Tryz.prog 114 = some 8 := by kernel_rfl
theorem zeroOf_114 : zeroOf Tryz.prog 114 = some [A.nilf] := by kernel_rfl
theorem arrT_114 : arrT Tryz.prog 114 = none := by kernel_rfl
theorem isStr_114 : isStr Tryz.prog 114 = false := by kernel_rfl
theorem isBool_114 : isBool Tryz.prog 114 = false := by kernel_rfl
theorem isPtr_114 : isPtr Tryz.prog 114 = false := by kernel_rfl
theorem isU8_114 : isU8 Tryz.prog 114 = false := by kernel_rfl
theorem isIfc_114 : isIfc Tryz.prog 114 = false := by kernel_rfl
theorem ifcT_114 : ifcT Tryz.prog 114 = false := by kernel_rfl
theorem seqT_114 : seqT Tryz.prog 114 = false := by kernel_rfl
theorem sliceable_114 : sliceable Tryz.prog 114 = false := by kernel_rfl
theorem szOf_115 : szOf Tryz.prog 115 = 1 := by kernel_rfl
theorem aggT_115 : aggT Tryz.prog 115 = some false := by kernel_rfl
theorem elemT_115 : elemT Tryz.prog 115 = none := by kernel_rfl
theorem bytesOf_115 : bytesOf Tryz.prog 115 = some 8 := by kernel_rfl
theorem zeroOf_115 : zeroOf Tryz.prog 115 = some [A.nilp] := by kernel_rfl
theorem arrT_115 : arrT Tryz.prog 115 = none := by kernel_rfl
theorem isStr_115 : isStr Tryz.prog 115 = false := by kernel_rfl
theorem isBool_115 : isBool Tryz.prog 115 = false := by kernel_rfl
theorem isPtr_115 : isPtr Tryz.prog 115 = true := by kernel_rfl
theorem isU8_115 : isU8 Tryz.prog 115 = false := by kernel_rfl
theorem isIfc_115 : isIfc Tryz.prog 115 = false := by kernel_rfl
theorem ifcT_115 : ifcT Tryz.prog 115 = false := by kernel_rfl
theorem seqT_115 : seqT Tryz.prog 115 = false := by kernel_rfl
theorem sliceable_115 : sliceable Tryz.prog 115 = false := by kernel_rfl
theorem szOf_116 : szOf Tryz.prog 116 = 1 := by kernel_rfl
theorem aggT_116 : aggT Tryz.prog 116 = some false := by kernel_rfl
theorem elemT_116 : elemT Tryz.prog 116 = none := by kernel_rfl
theorem bytesOf_116 : bytesOf Tryz.prog 116 = some 8 := by kernel_rfl
theorem zeroOf_116 : zeroOf Tryz.prog 116 = some [A.nilf] := by kernel_rfl
theorem arrT_116 : arrT Tryz.prog 116 = none := by kernel_rfl
theorem isStr_116 : isStr Tryz.prog 116 = false := by kernel_rfl
theorem isBool_116 : isBool Tryz.prog 116 = false := by kernel_rfl
theorem isPtr_116 : isPtr Tryz.prog 116 = false := by kernel_rfl
theorem isU8_116 : isU8 Tryz.prog 116 = false := by kernel_rfl
theorem isIfc_116 : isIfc Tryz.prog 116 = false := by kernel_rfl
theorem ifcT_116 : ifcT Tryz.prog 116 = false := by kernel_rfl
theorem seqT_116 : seqT Tryz.prog 116 = false := by kernel_rfl
theorem sliceable_116 : sliceable Tryz.prog 116 = false := by kernel_rfl
theorem szOf_117 : szOf Tryz.prog 117 = 1 := by kernel_rfl
theorem aggT_117 : aggT Tryz.prog 117 = some false := by kernel_rfl
theorem elemT_117 : elemT Tryz.prog 117 = none := by kernel_rfl
theorem bytesOf_117 : bytesOf Tryz.prog 117 = some 8 := by kernel_rfl
theorem zeroOf_117 : zeroOf Tryz.prog 117 = some [A.nilf] := by kernel_rfl
theorem arrT_117 : arrT Tryz.prog 117 = none := by kernel_rfl
theorem isStr_117 : isStr Tryz.prog 117 = false := by kernel_rfl
theorem isBool_117 : isBool Tryz.prog 117 = false := by kernel_rfl
theorem isPtr_117 : isPtr Tryz.prog 117 = false := by kernel_rfl
theorem isU8_117 : isU8 Tryz.prog 117 = false := by kernel_rfl
theorem isIfc_117 : isIfc Tryz.prog 117 = false := by kernel_rfl
theorem ifcT_117 : ifcT Tryz.prog 117 = false := by kernel_rfl
theorem seqT_117 : seqT Tryz.prog 117 = false := by kernel_rfl
theorem sliceable_117 : sliceable Tryz.prog 117 = false := by kernel_rfl
theorem szOf_118 : szOf Tryz.prog 118 = 1 := by kernel_rfl
theorem aggT_118 : aggT Tryz.prog 118 = some false := by kernel_rfl
theorem elemT_118 : elemT Tryz.prog 118 = none := by kernel_rfl
theorem bytesOf_118 : bytesOf Tryz.prog 118 = some 8 := by kernel_rfl
theorem zeroOf_118 : zeroOf Tryz.prog 118 = some [A.nilf] := by kernel_rfl
theorem arrT_118 : arrT Tryz.prog 118 = none := by kernel_rfl
theorem isStr_118 : isStr Tryz.prog 118 = false := by kernel_rfl
theorem isBool_118 : isBool Tryz.prog 118 = false := by kernel_rfl
theorem isPtr_118 : isPtr Tryz.prog 118 = false := by kernel_rfl
theorem isU8_118 : isU8 Tryz.prog 118 = false := by kernel_rfl
theorem isIfc_118 : isIfc Tryz.prog 118 = false := by kernel_rfl
theorem ifcT_118 : ifcT Tryz.prog 118 = false := by kernel_rfl
theorem seqT_118 : seqT Tryz.prog 118 = false := by kernel_rfl
theorem sliceable_118 : sliceable Tryz.prog 118 = false := by kernel_rfl
theorem szOf_119 : szOf Tryz.prog 119 = 1 := by kernel_rfl
theorem aggT_119 : aggT Tryz.prog 119 = some false := by kernel_rfl
theorem elemT_119 : elemT Tryz.prog 119 = none := by kernel_rfl
theorem bytesOf_119 : bytesOf Tryz.prog 119 = some 8 := by kernel_rfl
theorem zeroOf_119 : zeroOf Tryz.prog 119 = some [A.nilf] := by kernel_rfl
theorem arrT_119 : arrT Tryz.prog 119 = none := by kernel_rfl
theorem isStr_119 : isStr Tryz.prog 119 = false := by kernel_rfl
theorem isBool_119 : isBool Tryz.prog 119 = false := by kernel_rfl
theorem isPtr_119 : isPtr Tryz.prog 119 = false := by kernel_rfl
theorem isU8_119 : isU8 Tryz.prog 119 = false := by kernel_rfl
theorem isIfc_119 : isIfc Tryz.prog 119 = false := by kernel_rfl
theorem ifcT_119 : ifcT Tryz.prog 119 = false := by kernel_rfl
theorem seqT_119 : seqT Tryz.prog 119 = false := by kernel_rfl
theorem sliceable_119 : sliceable Tryz.prog 119 = false := by kernel_rfl
theorem szOf_120 : szOf Tryz.prog 120 = 1 := by kernel_rfl
theorem aggT_120 : aggT Tryz.prog 120 = some false := by kernel_rfl
theorem elemT_120 : elemT Tryz.prog 120 = none := by kernel_rfl
theorem bytesOf_120 : bytesOf Tryz.prog 120 = some 8 := by kernel_rfl
theorem zeroOf_120 : zeroOf Tryz.prog 120 = some [A.nilf] := by kernel_rfl
theorem arrT_120 : arrT Tryz.prog 120 = none := by kernel_rfl
theorem isStr_120 : isStr Tryz.prog 120 = false := by kernel_rfl
theorem isBool_120 : isBool Tryz.prog 120 = false := by kernel_rfl
theorem isPtr_120 : isPtr Tryz.prog 120 = false := by kernel_rfl
theorem isU8_120 : isU8 Tryz.prog 120 = false := by kernel_rfl
theorem isIfc_120 : isIfc Tryz.prog 120 = false := by kernel_rfl
theorem ifcT_120 : ifcT Tryz.prog 120 = false := by kernel_rfl
theorem seqT_120 : seqT Tryz.prog 120 = false := by kernel_rfl
theorem sliceable_120 : sliceable Tryz.prog 120 = false := by kernel_rfl
theorem szOf_121 : szOf Tryz.prog 121 = 1 := by kernel_rfl
theorem aggT_121 : aggT Tryz.prog 121 = some false := by kernel_rfl
theorem elemT_121 : elemT Tryz.prog 121 = none := by kernel_rfl
theorem bytesOf_121 : bytesOf Tryz.prog 121 = some 8 := by kernel_rfl
theorem zeroOf_121 : zeroOf Tryz.prog 121 = some [A.nilf] := by kernel_rfl
theorem arrT_121 : arrT Tryz.prog 121 = none := by kernel_rfl
theorem isStr_121 : isStr Tryz.prog 121 = false := by kernel_rfl
theorem isBool_121 : isBool Tryz.prog 121 = false := by kernel_rfl
theorem isPtr_121 : isPtr Tryz.prog 121 = false := by kernel_rfl
theorem isU8_121 : isU8 Tryz.prog 121 = false := by kernel_rfl
theorem isIfc_121 : isIfc Tryz.prog 121 = false := by kernel_rfl
theorem ifcT_121 : ifcT Tryz.prog 121 = false := by kernel_rfl
theorem seqT_121 : seqT Tryz.prog 121 = false := by kernel_rfl
theorem sliceable_121 : sliceable Tryz.prog 121 = false := by kernel_rfl
theorem szOf_122 : szOf Tryz.prog 122 = 1 := by kernel_rfl
theorem aggT_122 : aggT Tryz.prog 122 = some false := by kernel_rfl
theorem elemT_122 : elemT Tryz.prog 122 = none := by kernel_rfl
theorem bytesOf_122 : bytesOf Tryz.prog 122 = some 8 := by kernel_rfl
theorem zeroOf_122 : zeroOf Tryz.prog 122 = some [A.nilf] := by kernel_rfl
theorem arrT_122 : arrT Tryz.prog 122 = none := by kernel_rfl
theorem isStr_122 : isStr Tryz.prog 122 = false := by kernel_rfl
theorem isBool_122 : isBool Tryz.prog 122 = false := by kernel_rfl
theorem isPtr_122 : isPtr Tryz.prog 122 = false := by kernel_rfl
theorem isU8_122 : isU8 Tryz.prog 122 = false := by kernel_rfl
theorem isIfc_122 : isIfc Tryz.prog 122 = false := by kernel_rfl
theorem ifcT_122 : ifcT Tryz.prog 122 = false := by kernel_rfl
theorem seqT_122 : seqT Tryz.prog 122 = false := by kernel_rfl
theorem sliceable_122 : sliceable Tryz.prog 122 = false := by kernel_rfl
theorem szOf_123 : szOf Tryz.prog 123 = 1 := by kernel_rfl
theorem aggT_123 : aggT Tryz.prog 123 = some false := by kernel_rfl
theorem elemT_123 : elemT Tryz.prog 123 = none := by kernel_rfl
theorem bytesOf_123 : bytesOf Tryz.prog 123 = some 8 := by kernel_rfl
theorem zeroOf_123 : zeroOf Tryz.prog 123 = some [A.nilf] := by kernel_rfl
theorem arrT_123 : arrT Tryz.prog 123 = none := by kernel_rfl
theorem isStr_123 : isStr Tryz.prog 123 = false := by kernel_rfl
theorem isBool_123 : isBool Tryz.prog 123 = false := by kernel_rfl
theorem isPtr_123 : isPtr Tryz.prog 123 = false := by kernel_rfl
theorem isU8_123 : isU8 Tryz.prog 123 = false := by kernel_rfl
theorem isIfc_123 : isIfc Tryz.prog 123 = false := by kernel_rfl
theorem ifcT_123 : ifcT Tryz.prog 123 = false := by kernel_rfl
theorem seqT_123 : seqT Tryz.prog 123 = false := by kernel_rfl
theorem sliceable_123 : sliceable Tryz.prog 123 = false := by kernel_rfl
theorem szOf_125 : szOf Tryz.prog 125 = 1 := by kernel_rfl
theorem aggT_125 : aggT Tryz.prog 125 = some false := by kernel_rfl
theorem elemT_125 : elemT Tryz.prog 125 = none := by kernel_rfl
theorem bytesOf_125 : bytesOf Tryz.prog 125 = some 8 := by kernel_rfl
theorem zeroOf_125 : zeroOf Tryz.prog 125 = some [A.nilf] := by kernel_rfl
theorem arrT_125 : arrT Tryz.prog 125 = none := by kernel_rfl
theorem isStr_125 : isStr Tryz.prog 125 = false := by kernel_rfl
theorem isBool_125 : isBool Tryz.prog 125 = false := by kernel_rfl
theorem isPtr_125 : isPtr Tryz.prog 125 = false := by kernel_rfl
theorem isU8_125 : isU8 Tryz.prog 125 = false := by kernel_rfl
theorem isIfc_125 : isIfc Tryz.prog 125 = false := by kernel_rfl
theorem ifcT_125 : ifcT Tryz.prog 125 = false := by kernel_rfl
theorem seqT_125 : seqT Tryz.prog 125 = false := by kernel_rfl
theorem sliceable_125 : sliceable Tryz.prog 125 = false := by kernel_rfl
theorem szOf_128 : szOf Tryz.prog 128 = 1 := by kernel_rfl
theorem aggT_128 : aggT Tryz.prog 128 = some false := by kernel_rfl
theorem elemT_128 : elemT Tryz.prog 128 = none := by kernel_rfl
theorem bytesOf_128 : bytesOf Tryz.prog 128 = some 8 := by kernel_rfl
theorem zeroOf_128 : zeroOf Tryz.prog 128 = some [A.nilp] := by kernel_rfl
theorem arrT_128 : arrT Tryz.prog 128 = none := by kernel_rfl
theorem isStr_128 : isStr Tryz.prog 128 = false := by kernel_rfl
theorem isBool_128 : isBool Tryz.prog 128 = false := by kernel_rfl
theorem isPtr_128 : isPtr Tryz.prog 128 = true := by kernel_rfl
theorem isU8_128 : isU8 Tryz.prog 128 = false := by kernel_rfl
theorem isIfc_128 : isIfc Tryz.prog 128 = false := by kernel_rfl
theorem ifcT_128 : ifcT Tryz.prog 128 = false := by kernel_rfl
theorem seqT_128 : seqT Tryz.prog 128 = false := by kernel_rfl
theorem sliceable_128 : sliceable Tryz.prog 128 = false := by kernel_rfl
theorem szOf_130 : szOf Tryz.prog 130 = 1 := by kernel_rfl
theorem aggT_130 : aggT Tryz.prog 130 = some false := by kernel_rfl
theorem elemT_130 : elemT Tryz.prog 130 = none := by kernel_rfl
theorem bytesOf_130 : bytesOf Tryz.prog 130 = some 8 := by kernel_rfl
theorem zeroOf_130 : zeroOf Tryz.prog 130 = some [A.int .i64 0] := by kernel_rfl
theorem arrT_130 : arrT Tryz.prog 130 = none := by kernel_rfl
theorem isStr_130 : isStr Tryz.prog 130 = false := by kernel_rfl
theorem isBool_130 : isBool Tryz.prog 130 = false := by kernel_rfl
theorem isPtr_130 : isPtr Tryz.prog 130 = false := by kernel_rfl
theorem isU8_130 : isU8 Tryz.prog 130 = false := by kernel_rfl
theorem isIfc_130 : isIfc Tryz.prog 130 = false := by kernel_rfl
theorem ifcT_130 : ifcT Tryz.prog 130 = false := by kernel_rfl
theorem seqT_130 : seqT Tryz.prog 130 = false := by kernel_rfl
theorem sliceable_130 : sliceable Tryz.prog 130 = false := by kernel_rfl
theorem szOf_141 : szOf Tryz.prog 141 = 1 := by kernel_rfl
theorem aggT_141 : aggT Tryz.prog 141 = some false := by kernel_rfl
theorem elemT_141 : elemT Tryz.prog 141 = none := by kernel_rfl
theorem bytesOf_141 : bytesOf Tryz.prog 141 = some 8 := by kernel_rfl
theorem zeroOf_141 : zeroOf Tryz.prog 141 = some [A.int .u64 0] := by kernel_rfl
theorem arrT_141 : arrT Tryz.prog 141 = none := by kernel_rfl
theorem isStr_141 : isStr Tryz.prog 141 = false := by kernel_rfl
theorem isBool_141 : isBool Tryz.prog 141 = false := by kernel_rfl
theorem isPtr_141 : isPtr Tryz.prog 141 = false := by kernel_rfl
theorem isU8_141 : isU8 Tryz.prog 141 = false := by kernel_rfl
theorem isIfc_141 : isIfc Tryz.prog 141 = false := by kernel_rfl
theorem ifcT_141 : ifcT Tryz.prog 141 = false := by kernel_rfl
theorem seqT_141 : seqT Tryz.prog 141 = false := by kernel_rfl
theorem sliceable_141 : sliceable Tryz.prog 141 = false := by kernel_rfl
theorem szOf_142 : szOf Tryz.prog 142 = 1 := by kernel_rfl
theorem aggT_142 : aggT Tryz.prog 142 = some false := by kernel_rfl
theorem elemT_142 : elemT Tryz.prog 142 = some 144 := by kernel_rfl
theorem bytesOf_142 : bytesOf Tryz.prog 142 = some 24 := by kernel_rfl
theorem zeroOf_142 : zeroOf Tryz.prog 142 = some [A.nils] := by kernel_rfl
theorem arrT_142 : arrT Tryz.prog 142 = none := by kernel_rfl
theorem isStr_142 : isStr Tryz.prog 142 = false := by kernel_rfl
theorem isBool_142 : isBool Tryz.prog 142 = false := by kernel_rfl
theorem isPtr_142 : isPtr Tryz.prog 142 = false := by kernel_rfl
theorem isU8_142 : isU8 Tryz.prog 142 = false := by kernel_rfl
theorem isIfc_142 : isIfc Tryz.prog 142 = false := by kernel_rfl
theorem ifcT_142 : ifcT Tryz.prog 142 = false := by kernel_rfl
theorem seqT_142 : seqT Tryz.prog 142 = true := by kernel_rfl
theorem sliceable_142 : sliceable Tryz.prog 142 = true := by kernel_rfl
theorem szOf_144 : szOf Tryz.prog 144 = 4 := by kernel_rfl
theorem aggT_144 : aggT Tryz.prog 144 = some true := by kernel_rfl
theorem elemT_144 : elemT Tryz.prog 144 = none := by kernel_rfl
theorem bytesOf_144 : bytesOf Tryz.prog 144 = some 64 := by kernel_rfl
theorem zeroOf_144 : zeroOf Tryz.prog 144 = some [A.int .i64 0, A.nils, A.nils, A.int .i64 0] := by kernel_rfl
theorem arrT_144 : arrT Tryz.prog 144 = none := by kernel_rfl
theorem fieldT_144_0 : fieldT Tryz.prog 144 0 = some (0, 28) := by kernel_rfl
theorem fieldT_144_1 : fieldT Tryz.prog 144 1 = some (3, 3) := by kernel_rfl
theorem isStr_144 : isStr Tryz.prog 144 = false := by kernel_rfl
theorem isBool_144 : isBool Tryz.prog 144 = false := by kernel_rfl
theorem isPtr_144 : isPtr Tryz.prog 144 = false := by kernel_rfl
theorem isU8_144 : isU8 Tryz.prog 144 = false := by kernel_rfl
theorem isIfc_144 : isIfc Tryz.prog 144 = false := by kernel_rfl
theorem ifcT_144 : ifcT Tryz.prog 144 = false := by kernel_rfl
theorem fieldsOk_144 : fieldsOk Tryz.prog 144 = true := by kernel_rfl
theorem seqT_144 : seqT Tryz.prog 144 = false := by kernel_rfl
theorem sliceable_144 : sliceable Tryz.prog 144 = false := by kernel_rfl
theorem szOf_146 : szOf Tryz.prog 146 = 1 := by kernel_rfl
theorem aggT_146 : aggT Tryz.prog 146 = some false := by kernel_rfl
theorem elemT_146 : elemT Tryz.prog 146 = none := by kernel_rfl
theorem bytesOf_146 : bytesOf Tryz.prog 146 = some 8 := by kernel_rfl
theorem zeroOf_146 : zeroOf Tryz.prog 146 = some [A.nilf] := by kernel_rfl
theorem arrT_146 : arrT Tryz.prog 146 = none := by kernel_rfl
theorem isStr_146 : isStr Tryz.prog 146 = false := by kernel_rfl
theorem isBool_146 : isBool Tryz.prog 146 = false := by kernel_rfl
theorem isPtr_146 : isPtr Tryz.prog 146 = false := by kernel_rfl
theorem isU8_146 : isU8 Tryz.prog 146 = false := by kernel_rfl
theorem isIfc_146 : isIfc Tryz.prog 146 = false := by kernel_rfl
theorem ifcT_146 : ifcT Tryz.prog 146 = false := by kernel_rfl
theorem seqT_146 : seqT Tryz.prog 146 = false := by kernel_rfl
theorem sliceable_146 : sliceable Tryz.prog 146 = false := by kernel_rfl
theorem szOf_150 : szOf Tryz.prog 150 = 2 := by kernel_rfl
theorem aggT_150 : aggT Tryz.prog 150 = some true := by kernel_rfl
theorem elemT_150 : elemT Tryz.prog 150 = none := by kernel_rfl
theorem bytesOf_150 : bytesOf Tryz.prog 150 = some 16 := by kernel_rfl
theorem zeroOf_150 : zeroOf Tryz.prog 150 = some [A.int .i64 0, A.int .i64 0] := by kernel_rfl
theorem arrT_150 : arrT Tryz.prog 150 = none := by kernel_rfl
theorem fieldT_150_0 : fieldT Tryz.prog 150 0 = some (0, 3) := by kernel_rfl
theorem fieldT_150_1 : fieldT Tryz.prog 150 1 = some (1, 3) := by kernel_rfl
theorem isStr_150 : isStr Tryz.prog 150 = false := by kernel_rfl
theorem isBool_150 : isBool Tryz.prog 150 = false := by kernel_rfl
theorem isPtr_150 : isPtr Tryz.prog 150 = false := by kernel_rfl
theorem isU8_150 : isU8 Tryz.prog 150 = false := by kernel_rfl
theorem isIfc_150 : isIfc Tryz.prog 150 = false := by kernel_rfl
theorem ifcT_150 : ifcT Tryz.prog 150 = false := by kernel_rfl
theorem fieldsOk_150 : fieldsOk Tryz.prog 150 = true := by kernel_rfl
theorem seqT_150 : seqT Tryz.prog 150 = false := by kernel_rfl
theorem sliceable_150 : sliceable Tryz.prog 150 = false := by kernel_rfl
theorem szOf_151 : szOf Tryz.prog 151 = 16 := by kernel_rfl
theorem aggT_151 : aggT Tryz.prog 151 = some true := by kernel_rfl
theorem elemT_151 : elemT Tryz.prog 151 = none := by kernel_rfl
theorem bytesOf_151 : bytesOf Tryz.prog 151 = some 128 := by kernel_rfl
theorem zeroOf_151 : zeroOf Tryz.prog 151 = some [A.int .i64 0, A.int .i64 0, A.int .i64 0, A.int .i64 0, A.int .i64 0, A.int .i64 0, A.int .i64 0, A.int .i64 0, A.int .i64 0, A.int .i64 0, A.int .i64 0, A.int .i64 0, A.int .i64 0, A.int .i64 0, A.int .i64 0, A.int .i64 0] := by kernel_rfl
theorem arrT_151 : arrT Tryz.prog 151 = some (8, 150) := by kernel_rfl
theorem isStr_151 : isStr Tryz.prog 151 = false := by kernel_rfl
theorem isBool_151 : isBool Tryz.prog 151 = false := by kernel_rfl
theorem isPtr_151 : isPtr Tryz.prog 151 = false := by kernel_rfl
theorem isU8_151 : isU8 Tryz.prog 151 = false := by kernel_rfl
theorem isIfc_151 : isIfc Tryz.prog 151 = false := by kernel_rfl
theorem ifcT_151 : ifcT Tryz.prog 151 = false := by kernel_rfl
theorem fieldsOk_151 : fieldsOk Tryz.prog 151 = true := by kernel_rfl
theorem seqT_151 : seqT Tryz.prog 151 = false := by kernel_rfl
theorem sliceable_151 : sliceable Tryz.prog 151 = false := by kernel_rfl
theorem szOf_153 : szOf Tryz.prog 153 = 1 := by kernel_rfl
theorem aggT_153 : aggT Tryz.prog 153 = some false := by kernel_rfl
theorem elemT_153 : elemT Tryz.prog 153 = none := by kernel_rfl
theorem bytesOf_153 : bytesOf Tryz.prog 153 = some 16 := by kernel_rfl
theorem zeroOf_153 : zeroOf Tryz.prog 153 = some [A.nili] := by kernel_rfl
theorem arrT_153 : arrT Tryz.prog 153 = none := by kernel_rfl
theorem isStr_153 : isStr Tryz.prog 153 = false := by kernel_rfl
theorem isBool_153 : isBool Tryz.prog 153 = false := by kernel_rfl
theorem isPtr_153 : isPtr Tryz.prog 153 = false := by kernel_rfl
theorem isU8_153 : isU8 Tryz.prog 153 = false := by kernel_rfl
theorem isIfc_153 : isIfc Tryz.prog 153 = true := by kernel_rfl
theorem ifcT_153 : ifcT Tryz.prog 153 = true := by kernel_rfl
theorem seqT_153 : seqT Tryz.prog 153 = false := by kernel_rfl
theorem sliceable_153 : sliceable Tryz.prog 153 = false := by kernel_rfl
theorem szOf_158 : szOf Tryz.prog 158 = 256 := by kernel_rfl
theorem aggT_158 : aggT Tryz.prog 158 = some true := by kernel_rfl
theorem elemT_158 : elemT Tryz.prog 158 = none := by kernel_rfl
theorem bytesOf_158 : bytesOf Tryz.prog 158 = some 256 := by kernel_rfl
theorem arrT_158 : arrT Tryz.prog 158 = some (256, 4) := by kernel_rfl
theorem isStr_158 : isStr Tryz.prog 158 = false := by kernel_rfl
theorem isBool_158 : isBool Tryz.prog 158 = false := by kernel_rfl
theorem isPtr_158 : isPtr Tryz.prog 158 = false := by kernel_rfl
theorem isU8_158 : isU8 Tryz.prog 158 = false := by kernel_rfl
theorem isIfc_158 : isIfc Tryz.prog 158 = false := by kernel_rfl
theorem ifcT_158 : ifcT Tryz.prog 158 = false := by kernel_rfl
theorem fieldsOk_158 : fieldsOk Tryz.prog 158 = true := by kernel_rfl
theorem seqT_158 : seqT Tryz.prog 158 = false := by kernel_rfl
theorem sliceable_158 : sliceable Tryz.prog 158 = false := by kernel_rfl
theorem szOf_162 : szOf Tryz.prog 162 = 1 := by kernel_rfl
theorem aggT_162 : aggT Tryz.prog 162 = some false := by kernel_rfl
theorem elemT_162 : elemT Tryz.prog 162 = none := by kernel_rfl
theorem bytesOf_162 : bytesOf Tryz.prog 162 = some 8 := by kernel_rfl
theorem zeroOf_162 : zeroOf Tryz.prog 162 = some [A.nilp] := by kernel_rfl
theorem arrT_162 : arrT Tryz.prog 162 = none := by kernel_rfl
theorem isStr_162 : isStr Tryz.prog 162 = false := by kernel_rfl
theorem isBool_162 : isBool Tryz.prog 162 = false := by kernel_rfl
theorem isPtr_162 : isPtr Tryz.prog 162 = true := by kernel_rfl
theorem isU8_162 : isU8 Tryz.prog 162 = false := by kernel_rfl
theorem isIfc_162 : isIfc Tryz.prog 162 = false := by kernel_rfl
theorem ifcT_162 : ifcT Tryz.prog 162 = false := by kernel_rfl
theorem seqT_162 : seqT Tryz.prog 162 = false := by kernel_rfl
theorem sliceable_162 : sliceable Tryz.prog 162 = false := by kernel_rfl
theorem szOf_167 : szOf Tryz.prog 167 = 1 := by kernel_rfl
theorem aggT_167 : aggT Tryz.prog 167 = some false := by kernel_rfl
theorem elemT_167 : elemT Tryz.prog 167 = none := by kernel_rfl
theorem bytesOf_167 : bytesOf Tryz.prog 167 = some 8 := by kernel_rfl
theorem zeroOf_167 : zeroOf Tryz.prog 167 = some [A.int .u64 0] := by kernel_rfl
theorem arrT_167 : arrT Tryz.prog 167 = none := by kernel_rfl
theorem isStr_167 : isStr Tryz.prog 167 = false := by kernel_rfl
theorem isBool_167 : isBool Tryz.prog 167 = false := by kernel_rfl
theorem isPtr_167 : isPtr Tryz.prog 167 = false := by kernel_rfl
theorem isU8_167 : isU8 Tryz.prog 167 = false := by kernel_rfl
theorem isIfc_167 : isIfc Tryz.prog 167 = false := by kernel_rfl
theorem ifcT_167 : ifcT Tryz.prog 167 = false := by kernel_rfl
theorem seqT_167 : seqT Tryz.prog 167 = false := by kernel_rfl
theorem sliceable_167 : sliceable Tryz.prog 167 = false := by kernel_rfl
theorem szOf_173 : szOf Tryz.prog 173 = 24 := by kernel_rfl
theorem aggT_173 : aggT Tryz.prog 173 = some true := by kernel_rfl
theorem elemT_173 : elemT Tryz.prog 173 = none := by kernel_rfl
theorem bytesOf_173 : bytesOf Tryz.prog 173 = some 24 := by kernel_rfl
theorem zeroOf_173 : zeroOf Tryz.prog 173 = some [A.int .u8 0, A.int .u8 0, A.int .u8 0, A.int .u8 0, A.int .u8 0, A.int .u8 0, A.int .u8 0, A.int .u8 0, A.int .u8 0, A.int .u8 0, A.int .u8 0, A.int .u8 0, A.int .u8 0, A.int .u8 0, A.int .u8 0, A.int .u8 0, A.int .u8 0, A.int .u8 0, A.int .u8 0, A.int .u8 0, A.int .u8 0, A.int .u8 0, A.int .u8 0, A.int .u8 0] := by kernel_rfl
theorem arrT_173 : arrT Tryz.prog 173 = some (24, 5) := by kernel_rfl
theorem isStr_173 : isStr Tryz.prog 173 = false := by kernel_rfl
theorem isBool_173 : isBool Tryz.prog 173 = false := by kernel_rfl
theorem isPtr_173 : isPtr Tryz.prog 173 = false := by kernel_rfl
theorem isU8_173 : isU8 Tryz.prog 173 = false := by kernel_rfl
theorem isIfc_173 : isIfc Tryz.prog 173 = false := by kernel_rfl
theorem ifcT_173 : ifcT Tryz.prog 173 = false := by kernel_rfl
theorem fieldsOk_173 : fieldsOk Tryz.prog 173 = true := by kernel_rfl
theorem seqT_173 : seqT Tryz.prog 173 = false := by kernel_rfl
theorem sliceable_173 : sliceable Tryz.prog 173 = false := by kernel_rfl
theorem szOf_191 : szOf Tryz.prog 191 = 1 := by kernel_rfl
theorem aggT_191 : aggT Tryz.prog 191 = some false := by kernel_rfl
theorem elemT_191 : elemT Tryz.prog 191 = none := by kernel_rfl
theorem bytesOf_191 : bytesOf Tryz.prog 191 = some 8 := by kernel_rfl
theorem zeroOf_191 : zeroOf Tryz.prog 191 = some [A.int .i64 0] := by kernel_rfl
theorem arrT_191 : arrT Tryz.prog 191 = none := by kernel_rfl
theorem isStr_191 : isStr Tryz.prog 191 = false := by kernel_rfl
theorem isBool_191 : isBool Tryz.prog 191 = false := by kernel_rfl
theorem isPtr_191 : isPtr Tryz.prog 191 = false := by kernel_rfl
theorem isU8_191 : isU8 Tryz.prog 191 = false := by kernel_rfl
theorem isIfc_191 : isIfc Tryz.prog 191 = false := by kernel_rfl
theorem ifcT_191 : ifcT Tryz.prog 191 = false := by kernel_rfl
theorem seqT_191 : seqT Tryz.prog 191 = false := by kernel_rfl
theorem sliceable_191 : sliceable Tryz.prog 191 = false := by kernel_rfl
attribute [simp] szOf_1 aggT_1 elemT_1 bytesOf_1 zeroOf_1 arrT_1 isStr_1 isBool_1 isPtr_1 isU8_1 isIfc_1 ifcT_1 seqT_1 sliceable_1 szOf_2 aggT_2 elemT_2 bytesOf_2 zeroOf_2 arrT_2 isStr_2 isBool_2 isPtr_2 isU8_2 isIfc_2 ifcT_2 seqT_2 sliceable_2 szOf_3 aggT_3 elemT_3 bytesOf_3 zeroOf_3 arrT_3 isStr_3 isBool_3 isPtr_3 isU8_3 isIfc_3 ifcT_3 seqT_3 sliceable_3 szOf_4 aggT_4 elemT_4 bytesOf_4 zeroOf_4 arrT_4 isStr_4 isBool_4 isPtr_4 isU8_4 isIfc_4 ifcT_4 seqT_4 sliceable_4 szOf_5 aggT_5 elemT_5 bytesOf_5 zeroOf_5 arrT_5 isStr_5 isBool_5 isPtr_5 isU8_5 isIfc_5 ifcT_5 seqT_5 sliceable_5 szOf_9 aggT_9 elemT_9 bytesOf_9 zeroOf_9 arrT_9 isStr_9 isBool_9 isPtr_9 isU8_9 isIfc_9 ifcT_9 seqT_9 sliceable_9 szOf_20 aggT_20 elemT_20 bytesOf_20 zeroOf_20 arrT_20 isStr_20 isBool_20 isPtr_20 isU8_20 isIfc_20 ifcT_20 seqT_20 sliceable_20 szOf_21 aggT_21 elemT_21 bytesOf_21 zeroOf_21 arrT_21 isStr_21 isBool_21 isPtr_21 isU8_21 isIfc_21 ifcT_21 seqT_21 sliceable_21 szOf_22 aggT_22 elemT_22 bytesOf_22 zeroOf_22 arrT_22 isStr_22 isBool_22 isPtr_22 isU8_22 isIfc_22 ifcT_22 seqT_22 sliceable_22 szOf_24 aggT_24 elemT_24 bytesOf_24 zeroOf_24 arrT_24 fieldT_24_0 fieldT_24_1 fieldT_24_2 isStr_24 isBool_24 isPtr_24 isU8_24 isIfc_24 ifcT_24 fieldsOk_24 seqT_24 sliceable_24 szOf_25 aggT_25 elemT_25 bytesOf_25 zeroOf_25 arrT_25 isStr_25 isBool_25 isPtr_25 isU8_25 isIfc_25 ifcT_25 seqT_25 sliceable_25 szOf_26 aggT_26 elemT_26 bytesOf_26 zeroOf_26 arrT_26 isStr_26 isBool_26 isPtr_26 isU8_26 isIfc_26 ifcT_26 seqT_26 sliceable_26 szOf_28 aggT_28 elemT_28 bytesOf_28 zeroOf_28 arrT_28 fieldT_28_0 fieldT_28_1 fieldT_28_2 isStr_28 isBool_28 isPtr_28 isU8_28 isIfc_28 ifcT_28 fieldsOk_28 seqT_28 sliceable_28 szOf_31 aggT_31 elemT_31 bytesOf_31 zeroOf_31 arrT_31 isStr_31 isBool_31 isPtr_31 isU8_31 isIfc_31 ifcT_31 seqT_31 sliceable_31 szOf_39 aggT_39 elemT_39 bytesOf_39 zeroOf_39 arrT_39 isStr_39 isBool_39 isPtr_39 isU8_39 isIfc_39 ifcT_39 seqT_39 sliceable_39 szOf_41 aggT_41 elemT_41 bytesOf_41 zeroOf_41 arrT_41 isStr_41 isBool_41 isPtr_41 isU8_41 isIfc_41 ifcT_41 seqT_41 sliceable_41 szOf_44 aggT_44 elemT_44 bytesOf_44 zeroOf_44 arrT_44 isStr_44 isBool_44 isPtr_44 isU8_44 isIfc_44 ifcT_44 seqT_44 sliceable_44 szOf_48 aggT_48 elemT_48 bytesOf_48 zeroOf_48 arrT_48 isStr_48 isBool_48 isPtr_48 isU8_48 isIfc_48 ifcT_48 seqT_48 sliceable_48 szOf_49 aggT_49 elemT_49 bytesOf_49 zeroOf_49 arrT_49 isStr_49 isBool_49 isPtr_49 isU8_49 isIfc_49 ifcT_49 seqT_49 sliceable_49 szOf_50 aggT_50 elemT_50 bytesOf_50 zeroOf_50 arrT_50 isStr_50 isBool_50 isPtr_50 isU8_50 isIfc_50 ifcT_50 seqT_50 sliceable_50 szOf_51 aggT_51 elemT_51 bytesOf_51 zeroOf_51 arrT_51 isStr_51 isBool_51 isPtr_51 isU8_51 isIfc_51 ifcT_51 seqT_51 sliceable_51 szOf_52 aggT_52 elemT_52 bytesOf_52 zeroOf_52 arrT_52 isStr_52 isBool_52 isPtr_52 isU8_52 isIfc_52 ifcT_52 seqT_52 sliceable_52 szOf_53 aggT_53 elemT_53 bytesOf_53 zeroOf_53 arrT_53 isStr_53 isBool_53 isPtr_53 isU8_53 isIfc_53 ifcT_53 seqT_53 sliceable_53 szOf_54 aggT_54 elemT_54 bytesOf_54 zeroOf_54 arrT_54 isStr_54 isBool_54 isPtr_54 isU8_54 isIfc_54 ifcT_54 seqT_54 sliceable_54 szOf_55 aggT_55 elemT_55 bytesOf_55 zeroOf_55 arrT_55 isStr_55 isBool_55 isPtr_55 isU8_55 isIfc_55 ifcT_55 seqT_55 sliceable_55 szOf_56 aggT_56 elemT_56 bytesOf_56 zeroOf_56 arrT_56 isStr_56 isBool_56 isPtr_56 isU8_56 isIfc_56 ifcT_56 seqT_56 sliceable_56 szOf_57 aggT_57 elemT_57 bytesOf_57 zeroOf_57 arrT_57 isStr_57 isBool_57 isPtr_57 isU8_57 isIfc_57 ifcT_57 seqT_57 sliceable_57 szOf_58 aggT_58 elemT_58 bytesOf_58 zeroOf_58 arrT_58 isStr_58 isBool_58 isPtr_58 isU8_58 isIfc_58 ifcT_58 seqT_58 sliceable_58 szOf_60 aggT_60 elemT_60 bytesOf_60 zeroOf_60 arrT_60 isStr_60 isBool_60 isPtr_60 isU8_60 isIfc_60 ifcT_60 seqT_60 sliceable_60 szOf_65 aggT_65 elemT_65 bytesOf_65 zeroOf_65 arrT_65 isStr_65 isBool_65 isPtr_65 isU8_65 isIfc_65 ifcT_65 seqT_65 sliceable_65 szOf_66 aggT_66 elemT_66 bytesOf_66 zeroOf_66 arrT_66 isStr_66 isBool_66 isPtr_66 isU8_66 isIfc_66 ifcT_66 seqT_66 sliceable_66 szOf_72 aggT_72 elemT_72 bytesOf_72 zeroOf_72 arrT_72 isStr_72 isBool_72 isPtr_72 isU8_72 isIfc_72 ifcT_72 seqT_72 sliceable_72 szOf_76 aggT_76 elemT_76 bytesOf_76 zeroOf_76 arrT_76 isStr_76 isBool_76 isPtr_76 isU8_76 isIfc_76 ifcT_76 seqT_76 sliceable_76 szOf_86 aggT_86 elemT_86 bytesOf_86 zeroOf_86 arrT_86 isStr_86 isBool_86 isPtr_86 isU8_86 isIfc_86 ifcT_86 seqT_86 sliceable_86 szOf_91 aggT_91 elemT_91 bytesOf_91 zeroOf_91 arrT_91 isStr_91 isBool_91 isPtr_91 isU8_91 isIfc_91 ifcT_91 fieldsOk_91 seqT_91 sliceable_91 szOf_93 aggT_93 elemT_93 bytesOf_93 zeroOf_93 arrT_93 isStr_93 isBool_93 isPtr_93 isU8_93 isIfc_93 ifcT_93 seqT_93 sliceable_93 szOf_95 aggT_95 elemT_95 bytesOf_95 zeroOf_95 arrT_95 fieldT_95_0 isStr_95 isBool_95 isPtr_95 isU8_95 isIfc_95 ifcT_95 fieldsOk_95 seqT_95 sliceable_95 szOf_97 aggT_97 elemT_97 bytesOf_97 zeroOf_97 arrT_97 isStr_97 isBool_97 isPtr_97 isU8_97 isIfc_97 ifcT_97 seqT_97 sliceable_97 szOf_98 aggT_98 elemT_98 bytesOf_98 zeroOf_98 arrT_98 isStr_98 isBool_98 isPtr_98 isU8_98 isIfc_98 ifcT_98 seqT_98 sliceable_98 szOf_99 aggT_99 elemT_99 bytesOf_99 zeroOf_99 arrT_99 fieldT_99_0 fieldT_99_1 fieldT_99_2 isStr_99 isBool_99 isPtr_99 isU8_99 isIfc_99 ifcT_99 fieldsOk_99 seqT_99 sliceable_99 szOf_100 aggT_100 elemT_100 bytesOf_100 zeroOf_100 arrT_100 fieldT_100_0 fieldT_100_1 fieldT_100_2 isStr_100 isBool_100 isPtr_100 isU8_100 isIfc_100 ifcT_100 fieldsOk_100 seqT_100 sliceable_100 szOf_102 aggT_102 elemT_102 bytesOf_102 zeroOf_102 arrT_102 isStr_102 isBool_102 isPtr_102 isU8_102 isIfc_102 ifcT_102 seqT_102 sliceable_102 szOf_103 aggT_103 elemT_103 bytesOf_103 zeroOf_103 arrT_103 isStr_103 isBool_103 isPtr_103 isU8_103 isIfc_103 ifcT_103 seqT_103 sliceable_103 szOf_104 aggT_104 elemT_104 bytesOf_104 zeroOf_104 arrT_104 fieldT_104_0 fieldT_104_1 isStr_104 isBool_104 isPtr_104 isU8_104 isIfc_104 ifcT_104 fieldsOk_104 seqT_104 sliceable_104 szOf_105 aggT_105 elemT_105 bytesOf_105 zeroOf_105 arrT_105 fieldT_105_0 fieldT_105_1 isStr_105 isBool_105 isPtr_105 isU8_105 isIfc_105 ifcT_105 fieldsOk_105 seqT_105 sliceable_105 szOf_106 aggT_106 elemT_106 bytesOf_106 zeroOf_106 arrT_106 isStr_106 isBool_106 isPtr_106 isU8_106 isIfc_106 ifcT_106 seqT_106 sliceable_106 szOf_107 aggT_107 elemT_107 bytesOf_107 zeroOf_107 arrT_107 isStr_107 isBool_107 isPtr_107 isU8_107 isIfc_107 ifcT_107 seqT_107 sliceable_107 szOf_108 aggT_108 elemT_108 bytesOf_108 zeroOf_108 arrT_108 isStr_108 isBool_108 isPtr_108 isU8_108 isIfc_108 ifcT_108 seqT_108 sliceable_108 szOf_109 aggT_109 elemT_109 bytesOf_109 zeroOf_109 arrT_109 isStr_109 isBool_109 isPtr_109 isU8_109 isIfc_109 ifcT_109 seqT_109 sliceable_109 szOf_110 aggT_110 elemT_110 bytesOf_110 zeroOf_110 arrT_110 isStr_110 isBool_110 isPtr_110 isU8_110 isIfc_110 ifcT_110 seqT_110 sliceable_110 szOf_111 aggT_111 elemT_111 bytesOf_111 zeroOf_111 arrT_111 isStr_111 isBool_111 isPtr_111 isU8_111 isIfc_111 ifcT_111 seqT_111 sliceable_111 szOf_112 aggT_112 elemT_112 bytesOf_112 zeroOf_112 arrT_112 isStr_112 isBool_112 isPtr_112 isU8_112 isIfc_112 ifcT_112 seqT_112 sliceable_112 szOf_113 aggT_113 elemT_113 bytesOf_113 zeroOf_113 arrT_113 isStr_113 isBool_113 isPtr_113 isU8_113 isIfc_113 ifcT_113 seqT_113 sliceable_113 szOf_114 aggT_114 elemT_114 bytesOf_114 zeroOf_114 arrT_114 isStr_114 isBool_114 isPtr_114 isU8_114 isIfc_114 ifcT_114 seqT_114 sliceable_114 szOf_115 aggT_115 elemT_115 bytesOf_115 zeroOf_115 arrT_115 isStr_115 isBool_115 isPtr_115 isU8_115 isIfc_115 ifcT_115 seqT_115 sliceable_115 szOf_116 aggT_116 elemT_116 bytesOf_116 zeroOf_116 arrT_116 isStr_116 isBool_116 isPtr_116 isU8_116 isIfc_116 ifcT_116 seqT_116 sliceable_116 szOf_117 aggT_117 elemT_117 bytesOf_117 zeroOf_117 arrT_117 isStr_117 isBool_117 isPtr_117 isU8_117 isIfc_117 ifcT_117 seqT_117 sliceable_117 szOf_118 aggT_118 elemT_118 bytesOf_118 zeroOf_118 arrT_118 isStr_118 isBool_118 isPtr_118 isU8_118 isIfc_118 ifcT_118 seqT_118 sliceable_118 szOf_119 aggT_119 elemT_119 bytesOf_119 zeroOf_119 arrT_119 isStr_119 isBool_119 isPtr_119 isU8_119 isIfc_119 ifcT_119 seqT_119 sliceable_119 szOf_120 aggT_120 elemT_120 bytesOf_120 zeroOf_120 arrT_120 isStr_120 isBool_120 isPtr_120 isU8_120 isIfc_120 ifcT_120 seqT_120 sliceable_120 szOf_121 aggT_121 elemT_121 bytesOf_121 zeroOf_121 arrT_121 isStr_121 isBool_121 isPtr_121 isU8_121 isIfc_121 ifcT_121 seqT_121 sliceable_121 szOf_122 aggT_122 elemT_122 bytesOf_122 zeroOf_122 arrT_122 isStr_122 isBool_122 isPtr_122 isU8_122 isIfc_122 ifcT_122 seqT_122 sliceable_122 szOf_123 aggT_123 elemT_123 bytesOf_123 zeroOf_123 arrT_123 isStr_123 isBool_123 isPtr_123 isU8_123 isIfc_123 ifcT_123 seqT_123 sliceable_123 szOf_125 aggT_125 elemT_125 bytesOf_125 zeroOf_125 arrT_125 isStr_125 isBool_125 isPtr_125 isU8_125 isIfc_125 ifcT_125 seqT_125 sliceable_125 szOf_128 aggT_128 elemT_128 bytesOf_128 zeroOf_128 arrT_128 isStr_128 isBool_128 isPtr_128 isU8_128 isIfc_128 ifcT_128 seqT_128 sliceable_128 szOf_130 aggT_130 elemT_130 bytesOf_130 zeroOf_130 arrT_130 isStr_130 isBool_130 isPtr_130 isU8_130 isIfc_130 ifcT_130 seqT_130 sliceable_130 szOf_141 aggT_141 elemT_141 bytesOf_141 zeroOf_141 arrT_141 isStr_141 isBool_141 isPtr_141 isU8_141 isIfc_141 ifcT_141 seqT_141 sliceable_141 szOf_142 aggT_142 elemT_142 bytesOf_142 zeroOf_142 arrT_142 isStr_142 isBool_142 isPtr_142 isU8_142 isIfc_142 ifcT_142 seqT_142 sliceable_142 szOf_144 aggT_144 elemT_144 bytesOf_144 zeroOf_144 arrT_144 fieldT_144_0 fieldT_144_1 isStr_144 isBool_144 isPtr_144 isU8_144 isIfc_144 ifcT_144 fieldsOk_144 seqT_144 sliceable_144 szOf_146 aggT_146 elemT_146 bytesOf_146 zeroOf_146 arrT_146 isStr_146 isBool_146 isPtr_146 isU8_146 isIfc_146 ifcT_146 seqT_146 sliceable_146 szOf_150 aggT_150 elemT_150 bytesOf_150 zeroOf_150 arrT_150 fieldT_150_0 fieldT_150_1 isStr_150 isBool_150 isPtr_150 isU8_150 isIfc_150 ifcT_150 fieldsOk_150 seqT_150 sliceable_150 szOf_151 aggT_151 elemT_151 bytesOf_151 zeroOf_151 arrT_151 isStr_151 isBool_151 isPtr_151 isU8_151 isIfc_151 ifcT_151 fieldsOk_151 seqT_151 sliceable_151 szOf_153 aggT_153 elemT_153 bytesOf_153 zeroOf_153 arrT_153 isStr_153 isBool_153 isPtr_153 isU8_153 isIfc_153 ifcT_153 seqT_153 sliceable_153 szOf_158 aggT_158 elemT_158 bytesOf_158 arrT_158 isStr_158 isBool_158 isPtr_158 isU8_158 isIfc_158 ifcT_158 fieldsOk_158 seqT_158 sliceable_158 szOf_162 aggT_162 elemT_162 bytesOf_162 zeroOf_162 arrT_162 isStr_162 isBool_162 isPtr_162 isU8_162 isIfc_162 ifcT_162 seqT_162 sliceable_162 szOf_167 aggT_167 elemT_167 bytesOf_167 zeroOf_167 arrT_167 isStr_167 isBool_167 isPtr_167 isU8_167 isIfc_167 ifcT_167 seqT_167 sliceable_167 szOf_173 aggT_173 elemT_173 bytesOf_173 zeroOf_173 arrT_173 isStr_173 isBool_173 isPtr_173 isU8_173 isIfc_173 ifcT_173 fieldsOk_173 seqT_173 sliceable_173 szOf_191 aggT_191 elemT_191 bytesOf_191 zeroOf_191 arrT_191 isStr_191 isBool_191 isPtr_191 isU8_191 isIfc_191 ifcT_191 seqT_191 sliceable_191
attribute [simp] Tryz.underlying2 Tryz.underlying3 Tryz.underlying4 Tryz.underlying5 Tryz.underlying6 Tryz.underlying7 Tryz.underlying8 Tryz.underlying9 Tryz.underlying10 Tryz.underlying11 Tryz.underlying12 Tryz.underlying13 Tryz.underlying14 Tryz.underlying15 Tryz.underlying16 Tryz.underlying17 Tryz.underlying18 Tryz.underlying19 Tryz.underlying20 Tryz.underlying21 Tryz.underlying22 Tryz.underlying23 Tryz.underlying24 Tryz.underlying25 Tryz.underlying26 Tryz.underlying27 Tryz.underlying28 Tryz.underlying31 Tryz.underlying39 Tryz.underlying66 Tryz.underlying90 Tryz.underlying91 Tryz.underlying93 Tryz.underlying94 Tryz.underlying95 Tryz.underlying98 Tryz.underlying99 Tryz.underlying100 Tryz.underlying103 Tryz.underlying104 Tryz.underlying105 Tryz.underlying110 Tryz.underlying115 Tryz.underlying128 Tryz.underlying130 Tryz.underlying139 Tryz.underlying141 Tryz.underlying142 Tryz.underlying143 Tryz.underlying144 Tryz.underlying149 Tryz.underlying150 Tryz.underlying151 Tryz.underlying152 Tryz.underlying153 Tryz.underlying157 Tryz.underlying158 Tryz.underlying162 Tryz.underlying167 Tryz.underlying173 Tryz.underlying181 Tryz.underlying189 Tryz.underlying190 Tryz.underlying191 Tryz.underlying194 Tryz.underlying203 Tryz.underlying204 Tryz.underlying206 Tryz.underlying207 Tryz.underlying208 Tryz.underlying209 Tryz.underlying214 Tryz.underlying215 Tryz.underlying217 Tryz.underlying218 Tryz.underlying219 Tryz.underlying220 Tryz.underlying221 Tryz.underlying222 Tryz.underlying223 Tryz.underlying224 Tryz.underlying225 Tryz.underlying226 Tryz.underlying227 Tryz.underlying229 Tryz.underlying230 Tryz.underlying231 Tryz.underlying232 Tryz.underlying233
end AE
end Go.Proofs.YthoomlenmgdebaaGreatDoor
