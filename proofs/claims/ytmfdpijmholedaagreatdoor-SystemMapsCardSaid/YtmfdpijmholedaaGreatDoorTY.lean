/- Printed by wip/types.py: what the evaluator asks of each type. -/
import Derived.Test.YtmfdpijmholedaaGreatDoorAE1
namespace Go.Proofs.YtmfdpijmholedaaGreatDoor
namespace AE
open Go
theorem szOf_1 : szOf Tryz.prog 1 = 1 := by kernel_rfl
theorem aggT_1 : aggT Tryz.prog 1 = some false := by kernel_rfl
theorem elemT_1 : elemT Tryz.prog 1 = none := by kernel_rfl
theorem bytesOf_1 : bytesOf Tryz.prog 1 = some 8 := by kernel_rfl
theorem zeroOf_1 : zeroOf Tryz.prog 1 = some [A.nilf] := by kernel_rfl
theorem arrT_1 : arrT Tryz.prog 1 = none := by kernel_rfl
theorem isStr_1 : isStr Tryz.prog 1 = false := by kernel_rfl
theorem isBool_1 : isBool Tryz.prog 1 = false := by kernel_rfl
theorem isPtr_1 : isPtr Tryz.prog 1 = false := by kernel_rfl
theorem isU8_1 : isU8 Tryz.prog 1 = false := by kernel_rfl
theorem isIfc_1 : isIfc Tryz.prog 1 = false := by kernel_rfl
theorem ifcT_1 : ifcT Tryz.prog 1 = false := by kernel_rfl
theorem seqT_1 : seqT Tryz.prog 1 = false := by kernel_rfl
theorem sliceable_1 : sliceable Tryz.prog 1 = false := by kernel_rfl
theorem szOf_2 : szOf Tryz.prog 2 = 1 := by kernel_rfl
theorem aggT_2 : aggT Tryz.prog 2 = some false := by kernel_rfl
theorem elemT_2 : elemT Tryz.prog 2 = none := by kernel_rfl
theorem bytesOf_2 : bytesOf Tryz.prog 2 = some 8 := by kernel_rfl
theorem zeroOf_2 : zeroOf Tryz.prog 2 = some [A.int .i64 0] := by kernel_rfl
theorem arrT_2 : arrT Tryz.prog 2 = none := by kernel_rfl
theorem isStr_2 : isStr Tryz.prog 2 = false := by kernel_rfl
theorem isBool_2 : isBool Tryz.prog 2 = false := by kernel_rfl
theorem isPtr_2 : isPtr Tryz.prog 2 = false := by kernel_rfl
theorem isU8_2 : isU8 Tryz.prog 2 = false := by kernel_rfl
theorem isIfc_2 : isIfc Tryz.prog 2 = false := by kernel_rfl
theorem ifcT_2 : ifcT Tryz.prog 2 = false := by kernel_rfl
theorem seqT_2 : seqT Tryz.prog 2 = false := by kernel_rfl
theorem sliceable_2 : sliceable Tryz.prog 2 = false := by kernel_rfl
theorem szOf_3 : szOf Tryz.prog 3 = 1 := by kernel_rfl
theorem aggT_3 : aggT Tryz.prog 3 = some false := by kernel_rfl
theorem elemT_3 : elemT Tryz.prog 3 = none := by kernel_rfl
theorem bytesOf_3 : bytesOf Tryz.prog 3 = some 8 := by kernel_rfl
theorem zeroOf_3 : zeroOf Tryz.prog 3 = some [A.int .i64 0] := by kernel_rfl
theorem arrT_3 : arrT Tryz.prog 3 = none := by kernel_rfl
theorem isStr_3 : isStr Tryz.prog 3 = false := by kernel_rfl
theorem isBool_3 : isBool Tryz.prog 3 = false := by kernel_rfl
theorem isPtr_3 : isPtr Tryz.prog 3 = false := by kernel_rfl
theorem isU8_3 : isU8 Tryz.prog 3 = false := by kernel_rfl
theorem isIfc_3 : isIfc Tryz.prog 3 = false := by kernel_rfl
theorem ifcT_3 : ifcT Tryz.prog 3 = false := by kernel_rfl
theorem seqT_3 : seqT Tryz.prog 3 = false := by kernel_rfl
theorem sliceable_3 : sliceable Tryz.prog 3 = false := by kernel_rfl
theorem szOf_4 : szOf Tryz.prog 4 = 1 := by kernel_rfl
theorem aggT_4 : aggT Tryz.prog 4 = some false := by kernel_rfl
theorem elemT_4 : elemT Tryz.prog 4 = none := by kernel_rfl
theorem bytesOf_4 : bytesOf Tryz.prog 4 = some 1 := by kernel_rfl
theorem zeroOf_4 : zeroOf Tryz.prog 4 = some [A.bool false] := by kernel_rfl
theorem arrT_4 : arrT Tryz.prog 4 = none := by kernel_rfl
theorem isStr_4 : isStr Tryz.prog 4 = false := by kernel_rfl
theorem isBool_4 : isBool Tryz.prog 4 = true := by kernel_rfl
theorem isPtr_4 : isPtr Tryz.prog 4 = false := by kernel_rfl
theorem isU8_4 : isU8 Tryz.prog 4 = false := by kernel_rfl
theorem isIfc_4 : isIfc Tryz.prog 4 = false := by kernel_rfl
theorem ifcT_4 : ifcT Tryz.prog 4 = false := by kernel_rfl
theorem seqT_4 : seqT Tryz.prog 4 = false := by kernel_rfl
theorem sliceable_4 : sliceable Tryz.prog 4 = false := by kernel_rfl
theorem szOf_5 : szOf Tryz.prog 5 = 1 := by kernel_rfl
theorem aggT_5 : aggT Tryz.prog 5 = some false := by kernel_rfl
theorem elemT_5 : elemT Tryz.prog 5 = none := by kernel_rfl
theorem bytesOf_5 : bytesOf Tryz.prog 5 = some 1 := by kernel_rfl
theorem zeroOf_5 : zeroOf Tryz.prog 5 = some [A.int .u8 0] := by kernel_rfl
theorem arrT_5 : arrT Tryz.prog 5 = none := by kernel_rfl
theorem isStr_5 : isStr Tryz.prog 5 = false := by kernel_rfl
theorem isBool_5 : isBool Tryz.prog 5 = false := by kernel_rfl
theorem isPtr_5 : isPtr Tryz.prog 5 = false := by kernel_rfl
theorem isU8_5 : isU8 Tryz.prog 5 = true := by kernel_rfl
theorem isIfc_5 : isIfc Tryz.prog 5 = false := by kernel_rfl
theorem ifcT_5 : ifcT Tryz.prog 5 = false := by kernel_rfl
theorem seqT_5 : seqT Tryz.prog 5 = false := by kernel_rfl
theorem sliceable_5 : sliceable Tryz.prog 5 = false := by kernel_rfl
theorem szOf_9 : szOf Tryz.prog 9 = 1 := by kernel_rfl
theorem aggT_9 : aggT Tryz.prog 9 = some false := by kernel_rfl
theorem elemT_9 : elemT Tryz.prog 9 = none := by kernel_rfl
theorem bytesOf_9 : bytesOf Tryz.prog 9 = some 16 := by kernel_rfl
theorem zeroOf_9 : zeroOf Tryz.prog 9 = some [A.str []] := by kernel_rfl
theorem arrT_9 : arrT Tryz.prog 9 = none := by kernel_rfl
theorem isStr_9 : isStr Tryz.prog 9 = true := by kernel_rfl
theorem isBool_9 : isBool Tryz.prog 9 = false := by kernel_rfl
theorem isPtr_9 : isPtr Tryz.prog 9 = false := by kernel_rfl
theorem isU8_9 : isU8 Tryz.prog 9 = false := by kernel_rfl
theorem isIfc_9 : isIfc Tryz.prog 9 = false := by kernel_rfl
theorem ifcT_9 : ifcT Tryz.prog 9 = false := by kernel_rfl
theorem seqT_9 : seqT Tryz.prog 9 = true := by kernel_rfl
theorem sliceable_9 : sliceable Tryz.prog 9 = true := by kernel_rfl
theorem szOf_10 : szOf Tryz.prog 10 = 1 := by kernel_rfl
theorem aggT_10 : aggT Tryz.prog 10 = some false := by kernel_rfl
theorem elemT_10 : elemT Tryz.prog 10 = none := by kernel_rfl
theorem bytesOf_10 : bytesOf Tryz.prog 10 = some 16 := by kernel_rfl
theorem zeroOf_10 : zeroOf Tryz.prog 10 = some [A.str []] := by kernel_rfl
theorem arrT_10 : arrT Tryz.prog 10 = none := by kernel_rfl
theorem isStr_10 : isStr Tryz.prog 10 = true := by kernel_rfl
theorem isBool_10 : isBool Tryz.prog 10 = false := by kernel_rfl
theorem isPtr_10 : isPtr Tryz.prog 10 = false := by kernel_rfl
theorem isU8_10 : isU8 Tryz.prog 10 = false := by kernel_rfl
theorem isIfc_10 : isIfc Tryz.prog 10 = false := by kernel_rfl
theorem ifcT_10 : ifcT Tryz.prog 10 = false := by kernel_rfl
theorem seqT_10 : seqT Tryz.prog 10 = true := by kernel_rfl
theorem sliceable_10 : sliceable Tryz.prog 10 = true := by kernel_rfl
theorem szOf_20 : szOf Tryz.prog 20 = 1 := by kernel_rfl
theorem aggT_20 : aggT Tryz.prog 20 = some false := by kernel_rfl
theorem elemT_20 : elemT Tryz.prog 20 = none := by kernel_rfl
theorem bytesOf_20 : bytesOf Tryz.prog 20 = some 16 := by kernel_rfl
theorem zeroOf_20 : zeroOf Tryz.prog 20 = some [A.nili] := by kernel_rfl
theorem arrT_20 : arrT Tryz.prog 20 = none := by kernel_rfl
theorem isStr_20 : isStr Tryz.prog 20 = false := by kernel_rfl
theorem isBool_20 : isBool Tryz.prog 20 = false := by kernel_rfl
theorem isPtr_20 : isPtr Tryz.prog 20 = false := by kernel_rfl
theorem isU8_20 : isU8 Tryz.prog 20 = false := by kernel_rfl
theorem isIfc_20 : isIfc Tryz.prog 20 = true := by kernel_rfl
theorem ifcT_20 : ifcT Tryz.prog 20 = true := by kernel_rfl
theorem seqT_20 : seqT Tryz.prog 20 = false := by kernel_rfl
theorem sliceable_20 : sliceable Tryz.prog 20 = false := by kernel_rfl
theorem szOf_21 : szOf Tryz.prog 21 = 1 := by kernel_rfl
theorem aggT_21 : aggT Tryz.prog 21 = some false := by kernel_rfl
theorem elemT_21 : elemT Tryz.prog 21 = none := by kernel_rfl
theorem bytesOf_21 : bytesOf Tryz.prog 21 = some 4 := by kernel_rfl
theorem zeroOf_21 : zeroOf Tryz.prog 21 = some [A.int .i32 0] := by kernel_rfl
theorem arrT_21 : arrT Tryz.prog 21 = none := by kernel_rfl
theorem isStr_21 : isStr Tryz.prog 21 = false := by kernel_rfl
theorem isBool_21 : isBool Tryz.prog 21 = false := by kernel_rfl
theorem isPtr_21 : isPtr Tryz.prog 21 = false := by kernel_rfl
theorem isU8_21 : isU8 Tryz.prog 21 = false := by kernel_rfl
theorem isIfc_21 : isIfc Tryz.prog 21 = false := by kernel_rfl
theorem ifcT_21 : ifcT Tryz.prog 21 = false := by kernel_rfl
theorem seqT_21 : seqT Tryz.prog 21 = false := by kernel_rfl
theorem sliceable_21 : sliceable Tryz.prog 21 = false := by kernel_rfl
theorem szOf_22 : szOf Tryz.prog 22 = 1 := by kernel_rfl
theorem aggT_22 : aggT Tryz.prog 22 = some false := by kernel_rfl
theorem elemT_22 : elemT Tryz.prog 22 = some 24 := by kernel_rfl
theorem bytesOf_22 : bytesOf Tryz.prog 22 = some 24 := by kernel_rfl
theorem zeroOf_22 : zeroOf Tryz.prog 22 = some [A.nils] := by kernel_rfl
theorem arrT_22 : arrT Tryz.prog 22 = none := by kernel_rfl
theorem isStr_22 : isStr Tryz.prog 22 = false := by kernel_rfl
theorem isBool_22 : isBool Tryz.prog 22 = false := by kernel_rfl
theorem isPtr_22 : isPtr Tryz.prog 22 = false := by kernel_rfl
theorem isU8_22 : isU8 Tryz.prog 22 = false := by kernel_rfl
theorem isIfc_22 : isIfc Tryz.prog 22 = false := by kernel_rfl
theorem ifcT_22 : ifcT Tryz.prog 22 = false := by kernel_rfl
theorem seqT_22 : seqT Tryz.prog 22 = true := by kernel_rfl
theorem sliceable_22 : sliceable Tryz.prog 22 = true := by kernel_rfl
theorem szOf_24 : szOf Tryz.prog 24 = 3 := by kernel_rfl
theorem aggT_24 : aggT Tryz.prog 24 = some true := by kernel_rfl
theorem elemT_24 : elemT Tryz.prog 24 = none := by kernel_rfl
theorem bytesOf_24 : bytesOf Tryz.prog 24 = some 40 := by kernel_rfl
theorem zeroOf_24 : zeroOf Tryz.prog 24 = some [A.int .i64 0, A.int .i64 0, A.nils] := by kernel_rfl
theorem arrT_24 : arrT Tryz.prog 24 = none := by kernel_rfl
theorem fieldT_24_0 : fieldT Tryz.prog 24 0 = some (0, 3) := by kernel_rfl
theorem fieldT_24_1 : fieldT Tryz.prog 24 1 = some (1, 3) := by kernel_rfl
theorem fieldT_24_2 : fieldT Tryz.prog 24 2 = some (2, 22) := by kernel_rfl
theorem isStr_24 : isStr Tryz.prog 24 = false := by kernel_rfl
theorem isBool_24 : isBool Tryz.prog 24 = false := by kernel_rfl
theorem isPtr_24 : isPtr Tryz.prog 24 = false := by kernel_rfl
theorem isU8_24 : isU8 Tryz.prog 24 = false := by kernel_rfl
theorem isIfc_24 : isIfc Tryz.prog 24 = false := by kernel_rfl
theorem ifcT_24 : ifcT Tryz.prog 24 = false := by kernel_rfl
theorem fieldsOk_24 : fieldsOk Tryz.prog 24 = true := by kernel_rfl
theorem seqT_24 : seqT Tryz.prog 24 = false := by kernel_rfl
theorem sliceable_24 : sliceable Tryz.prog 24 = false := by kernel_rfl
theorem szOf_25 : szOf Tryz.prog 25 = 1 := by kernel_rfl
theorem aggT_25 : aggT Tryz.prog 25 = some false := by kernel_rfl
theorem elemT_25 : elemT Tryz.prog 25 = some 47 := by kernel_rfl
theorem bytesOf_25 : bytesOf Tryz.prog 25 = some 24 := by kernel_rfl
theorem zeroOf_25 : zeroOf Tryz.prog 25 = some [A.nils] := by kernel_rfl
theorem arrT_25 : arrT Tryz.prog 25 = none := by kernel_rfl
theorem isStr_25 : isStr Tryz.prog 25 = false := by kernel_rfl
theorem isBool_25 : isBool Tryz.prog 25 = false := by kernel_rfl
theorem isPtr_25 : isPtr Tryz.prog 25 = false := by kernel_rfl
theorem isU8_25 : isU8 Tryz.prog 25 = false := by kernel_rfl
theorem isIfc_25 : isIfc Tryz.prog 25 = false := by kernel_rfl
theorem ifcT_25 : ifcT Tryz.prog 25 = false := by kernel_rfl
theorem seqT_25 : seqT Tryz.prog 25 = true := by kernel_rfl
theorem sliceable_25 : sliceable Tryz.prog 25 = true := by kernel_rfl
theorem szOf_27 : szOf Tryz.prog 27 = 4 := by kernel_rfl
theorem aggT_27 : aggT Tryz.prog 27 = some true := by kernel_rfl
theorem elemT_27 : elemT Tryz.prog 27 = none := by kernel_rfl
theorem bytesOf_27 : bytesOf Tryz.prog 27 = some 64 := by kernel_rfl
theorem zeroOf_27 : zeroOf Tryz.prog 27 = some [A.int .i64 0, A.int .i64 0, A.nils, A.nils] := by kernel_rfl
theorem arrT_27 : arrT Tryz.prog 27 = none := by kernel_rfl
theorem fieldT_27_0 : fieldT Tryz.prog 27 0 = some (0, 24) := by kernel_rfl
theorem fieldT_27_1 : fieldT Tryz.prog 27 1 = some (3, 25) := by kernel_rfl
theorem isStr_27 : isStr Tryz.prog 27 = false := by kernel_rfl
theorem isBool_27 : isBool Tryz.prog 27 = false := by kernel_rfl
theorem isPtr_27 : isPtr Tryz.prog 27 = false := by kernel_rfl
theorem isU8_27 : isU8 Tryz.prog 27 = false := by kernel_rfl
theorem isIfc_27 : isIfc Tryz.prog 27 = false := by kernel_rfl
theorem ifcT_27 : ifcT Tryz.prog 27 = false := by kernel_rfl
theorem fieldsOk_27 : fieldsOk Tryz.prog 27 = true := by kernel_rfl
theorem seqT_27 : seqT Tryz.prog 27 = false := by kernel_rfl
theorem sliceable_27 : sliceable Tryz.prog 27 = false := by kernel_rfl
theorem szOf_28 : szOf Tryz.prog 28 = 1 := by kernel_rfl
theorem aggT_28 : aggT Tryz.prog 28 = some false := by kernel_rfl
theorem elemT_28 : elemT Tryz.prog 28 = some 3 := by kernel_rfl
theorem bytesOf_28 : bytesOf Tryz.prog 28 = some 24 := by kernel_rfl
theorem zeroOf_28 : zeroOf Tryz.prog 28 = some [A.nils] := by kernel_rfl
theorem arrT_28 : arrT Tryz.prog 28 = none := by kernel_rfl
theorem isStr_28 : isStr Tryz.prog 28 = false := by kernel_rfl
theorem isBool_28 : isBool Tryz.prog 28 = false := by kernel_rfl
theorem isPtr_28 : isPtr Tryz.prog 28 = false := by kernel_rfl
theorem isU8_28 : isU8 Tryz.prog 28 = false := by kernel_rfl
theorem isIfc_28 : isIfc Tryz.prog 28 = false := by kernel_rfl
theorem ifcT_28 : ifcT Tryz.prog 28 = false := by kernel_rfl
theorem seqT_28 : seqT Tryz.prog 28 = true := by kernel_rfl
theorem sliceable_28 : sliceable Tryz.prog 28 = true := by kernel_rfl
theorem szOf_29 : szOf Tryz.prog 29 = 1 := by kernel_rfl
theorem aggT_29 : aggT Tryz.prog 29 = some false := by kernel_rfl
theorem elemT_29 : elemT Tryz.prog 29 = none := by kernel_rfl
theorem bytesOf_29 : bytesOf Tryz.prog 29 = some 8 := by kernel_rfl
theorem zeroOf_29 : zeroOf Tryz.prog 29 = some [A.nilf] := by kernel_rfl
theorem arrT_29 : arrT Tryz.prog 29 = none := by kernel_rfl
theorem isStr_29 : isStr Tryz.prog 29 = false := by kernel_rfl
theorem isBool_29 : isBool Tryz.prog 29 = false := by kernel_rfl
theorem isPtr_29 : isPtr Tryz.prog 29 = false := by kernel_rfl
theorem isU8_29 : isU8 Tryz.prog 29 = false := by kernel_rfl
theorem isIfc_29 : isIfc Tryz.prog 29 = false := by kernel_rfl
theorem ifcT_29 : ifcT Tryz.prog 29 = false := by kernel_rfl
theorem seqT_29 : seqT Tryz.prog 29 = false := by kernel_rfl
theorem sliceable_29 : sliceable Tryz.prog 29 = false := by kernel_rfl
theorem szOf_30 : szOf Tryz.prog 30 = 1 := by kernel_rfl
theorem aggT_30 : aggT Tryz.prog 30 = some false := by kernel_rfl
theorem elemT_30 : elemT Tryz.prog 30 = none := by kernel_rfl
theorem bytesOf_30 : bytesOf Tryz.prog 30 = some 8 := by kernel_rfl
theorem zeroOf_30 : zeroOf Tryz.prog 30 = some [A.nilf] := by kernel_rfl
theorem arrT_30 : arrT Tryz.prog 30 = none := by kernel_rfl
theorem isStr_30 : isStr Tryz.prog 30 = false := by kernel_rfl
theorem isBool_30 : isBool Tryz.prog 30 = false := by kernel_rfl
theorem isPtr_30 : isPtr Tryz.prog 30 = false := by kernel_rfl
theorem isU8_30 : isU8 Tryz.prog 30 = false := by kernel_rfl
theorem isIfc_30 : isIfc Tryz.prog 30 = false := by kernel_rfl
theorem ifcT_30 : ifcT Tryz.prog 30 = false := by kernel_rfl
theorem seqT_30 : seqT Tryz.prog 30 = false := by kernel_rfl
theorem sliceable_30 : sliceable Tryz.prog 30 = false := by kernel_rfl
theorem szOf_31 : szOf Tryz.prog 31 = 1 := by kernel_rfl
theorem aggT_31 : aggT Tryz.prog 31 = some false := by kernel_rfl
theorem elemT_31 : elemT Tryz.prog 31 = none := by kernel_rfl
theorem bytesOf_31 : bytesOf Tryz.prog 31 = some 8 := by kernel_rfl
theorem zeroOf_31 : zeroOf Tryz.prog 31 = some [A.int .i64 0] := by kernel_rfl
theorem arrT_31 : arrT Tryz.prog 31 = none := by kernel_rfl
theorem isStr_31 : isStr Tryz.prog 31 = false := by kernel_rfl
theorem isBool_31 : isBool Tryz.prog 31 = false := by kernel_rfl
theorem isPtr_31 : isPtr Tryz.prog 31 = false := by kernel_rfl
theorem isU8_31 : isU8 Tryz.prog 31 = false := by kernel_rfl
theorem isIfc_31 : isIfc Tryz.prog 31 = false := by kernel_rfl
theorem ifcT_31 : ifcT Tryz.prog 31 = false := by kernel_rfl
theorem seqT_31 : seqT Tryz.prog 31 = false := by kernel_rfl
theorem sliceable_31 : sliceable Tryz.prog 31 = false := by kernel_rfl
theorem szOf_40 : szOf Tryz.prog 40 = 1 := by kernel_rfl
theorem aggT_40 : aggT Tryz.prog 40 = some false := by kernel_rfl
theorem elemT_40 : elemT Tryz.prog 40 = some 5 := by kernel_rfl
theorem bytesOf_40 : bytesOf Tryz.prog 40 = some 24 := by kernel_rfl
theorem zeroOf_40 : zeroOf Tryz.prog 40 = some [A.nils] := by kernel_rfl
theorem arrT_40 : arrT Tryz.prog 40 = none := by kernel_rfl
theorem isStr_40 : isStr Tryz.prog 40 = false := by kernel_rfl
theorem isBool_40 : isBool Tryz.prog 40 = false := by kernel_rfl
theorem isPtr_40 : isPtr Tryz.prog 40 = false := by kernel_rfl
theorem isU8_40 : isU8 Tryz.prog 40 = false := by kernel_rfl
theorem isIfc_40 : isIfc Tryz.prog 40 = false := by kernel_rfl
theorem ifcT_40 : ifcT Tryz.prog 40 = false := by kernel_rfl
theorem seqT_40 : seqT Tryz.prog 40 = true := by kernel_rfl
theorem sliceable_40 : sliceable Tryz.prog 40 = true := by kernel_rfl
theorem szOf_42 : szOf Tryz.prog 42 = 1 := by kernel_rfl
theorem aggT_42 : aggT Tryz.prog 42 = some false := by kernel_rfl
theorem elemT_42 : elemT Tryz.prog 42 = none := by kernel_rfl
theorem bytesOf_42 : bytesOf Tryz.prog 42 = some 8 := by kernel_rfl
theorem zeroOf_42 : zeroOf Tryz.prog 42 = some [A.nilf] := by kernel_rfl
theorem arrT_42 : arrT Tryz.prog 42 = none := by kernel_rfl
theorem isStr_42 : isStr Tryz.prog 42 = false := by kernel_rfl
theorem isBool_42 : isBool Tryz.prog 42 = false := by kernel_rfl
theorem isPtr_42 : isPtr Tryz.prog 42 = false := by kernel_rfl
theorem isU8_42 : isU8 Tryz.prog 42 = false := by kernel_rfl
theorem isIfc_42 : isIfc Tryz.prog 42 = false := by kernel_rfl
theorem ifcT_42 : ifcT Tryz.prog 42 = false := by kernel_rfl
theorem seqT_42 : seqT Tryz.prog 42 = false := by kernel_rfl
theorem sliceable_42 : sliceable Tryz.prog 42 = false := by kernel_rfl
theorem szOf_43 : szOf Tryz.prog 43 = 1 := by kernel_rfl
theorem aggT_43 : aggT Tryz.prog 43 = some false := by kernel_rfl
theorem elemT_43 : elemT Tryz.prog 43 = none := by kernel_rfl
theorem bytesOf_43 : bytesOf Tryz.prog 43 = some 8 := by kernel_rfl
theorem zeroOf_43 : zeroOf Tryz.prog 43 = some [A.nilf] := by kernel_rfl
theorem arrT_43 : arrT Tryz.prog 43 = none := by kernel_rfl
theorem isStr_43 : isStr Tryz.prog 43 = false := by kernel_rfl
theorem isBool_43 : isBool Tryz.prog 43 = false := by kernel_rfl
theorem isPtr_43 : isPtr Tryz.prog 43 = false := by kernel_rfl
theorem isU8_43 : isU8 Tryz.prog 43 = false := by kernel_rfl
theorem isIfc_43 : isIfc Tryz.prog 43 = false := by kernel_rfl
theorem ifcT_43 : ifcT Tryz.prog 43 = false := by kernel_rfl
theorem seqT_43 : seqT Tryz.prog 43 = false := by kernel_rfl
theorem sliceable_43 : sliceable Tryz.prog 43 = false := by kernel_rfl
theorem szOf_44 : szOf Tryz.prog 44 = 1 := by kernel_rfl
theorem aggT_44 : aggT Tryz.prog 44 = some false := by kernel_rfl
theorem elemT_44 : elemT Tryz.prog 44 = none := by kernel_rfl
theorem bytesOf_44 : bytesOf Tryz.prog 44 = some 8 := by kernel_rfl
theorem zeroOf_44 : zeroOf Tryz.prog 44 = some [A.nilf] := by kernel_rfl
theorem arrT_44 : arrT Tryz.prog 44 = none := by kernel_rfl
theorem isStr_44 : isStr Tryz.prog 44 = false := by kernel_rfl
theorem isBool_44 : isBool Tryz.prog 44 = false := by kernel_rfl
theorem isPtr_44 : isPtr Tryz.prog 44 = false := by kernel_rfl
theorem isU8_44 : isU8 Tryz.prog 44 = false := by kernel_rfl
theorem isIfc_44 : isIfc Tryz.prog 44 = false := by kernel_rfl
theorem ifcT_44 : ifcT Tryz.prog 44 = false := by kernel_rfl
theorem seqT_44 : seqT Tryz.prog 44 = false := by kernel_rfl
theorem sliceable_44 : sliceable Tryz.prog 44 = false := by kernel_rfl
theorem szOf_47 : szOf Tryz.prog 47 = 3 := by kernel_rfl
theorem aggT_47 : aggT Tryz.prog 47 = some true := by kernel_rfl
theorem elemT_47 : elemT Tryz.prog 47 = none := by kernel_rfl
theorem bytesOf_47 : bytesOf Tryz.prog 47 = some 56 := by kernel_rfl
theorem zeroOf_47 : zeroOf Tryz.prog 47 = some [A.int .i64 0, A.nils, A.nils] := by kernel_rfl
theorem arrT_47 : arrT Tryz.prog 47 = none := by kernel_rfl
theorem fieldT_47_0 : fieldT Tryz.prog 47 0 = some (0, 3) := by kernel_rfl
theorem fieldT_47_1 : fieldT Tryz.prog 47 1 = some (1, 25) := by kernel_rfl
theorem fieldT_47_2 : fieldT Tryz.prog 47 2 = some (2, 28) := by kernel_rfl
theorem isStr_47 : isStr Tryz.prog 47 = false := by kernel_rfl
theorem isBool_47 : isBool Tryz.prog 47 = false := by kernel_rfl
theorem isPtr_47 : isPtr Tryz.prog 47 = false := by kernel_rfl
theorem isU8_47 : isU8 Tryz.prog 47 = false := by kernel_rfl
theorem isIfc_47 : isIfc Tryz.prog 47 = false := by kernel_rfl
theorem ifcT_47 : ifcT Tryz.prog 47 = false := by kernel_rfl
theorem fieldsOk_47 : fieldsOk Tryz.prog 47 = true := by kernel_rfl
theorem seqT_47 : seqT Tryz.prog 47 = false := by kernel_rfl
theorem sliceable_47 : sliceable Tryz.prog 47 = false := by kernel_rfl
theorem szOf_48 : szOf Tryz.prog 48 = 1 := by kernel_rfl
theorem aggT_48 : aggT Tryz.prog 48 = some false := by kernel_rfl
theorem elemT_48 : elemT Tryz.prog 48 = none := by kernel_rfl
theorem bytesOf_48 : bytesOf Tryz.prog 48 = some 8 := by kernel_rfl
theorem zeroOf_48 : zeroOf Tryz.prog 48 = some [A.nilf] := by kernel_rfl
theorem arrT_48 : arrT Tryz.prog 48 = none := by kernel_rfl
theorem isStr_48 : isStr Tryz.prog 48 = false := by kernel_rfl
theorem isBool_48 : isBool Tryz.prog 48 = false := by kernel_rfl
theorem isPtr_48 : isPtr Tryz.prog 48 = false := by kernel_rfl
theorem isU8_48 : isU8 Tryz.prog 48 = false := by kernel_rfl
theorem isIfc_48 : isIfc Tryz.prog 48 = false := by kernel_rfl
theorem ifcT_48 : ifcT Tryz.prog 48 = false := by kernel_rfl
theorem seqT_48 : seqT Tryz.prog 48 = false := by kernel_rfl
theorem sliceable_48 : sliceable Tryz.prog 48 = false := by kernel_rfl
theorem szOf_49 : szOf Tryz.prog 49 = 1 := by kernel_rfl
theorem aggT_49 : aggT Tryz.prog 49 = some false := by kernel_rfl
theorem elemT_49 : elemT Tryz.prog 49 = none := by kernel_rfl
theorem bytesOf_49 : bytesOf Tryz.prog 49 = some 8 := by kernel_rfl
theorem zeroOf_49 : zeroOf Tryz.prog 49 = some [A.nilf] := by kernel_rfl
theorem arrT_49 : arrT Tryz.prog 49 = none := by kernel_rfl
theorem isStr_49 : isStr Tryz.prog 49 = false := by kernel_rfl
theorem isBool_49 : isBool Tryz.prog 49 = false := by kernel_rfl
theorem isPtr_49 : isPtr Tryz.prog 49 = false := by kernel_rfl
theorem isU8_49 : isU8 Tryz.prog 49 = false := by kernel_rfl
theorem isIfc_49 : isIfc Tryz.prog 49 = false := by kernel_rfl
theorem ifcT_49 : ifcT Tryz.prog 49 = false := by kernel_rfl
theorem seqT_49 : seqT Tryz.prog 49 = false := by kernel_rfl
theorem sliceable_49 : sliceable Tryz.prog 49 = false := by kernel_rfl
theorem szOf_50 : szOf Tryz.prog 50 = 1 := by kernel_rfl
theorem aggT_50 : aggT Tryz.prog 50 = some false := by kernel_rfl
theorem elemT_50 : elemT Tryz.prog 50 = none := by kernel_rfl
theorem bytesOf_50 : bytesOf Tryz.prog 50 = some 8 := by kernel_rfl
theorem zeroOf_50 : zeroOf Tryz.prog 50 = some [A.nilf] := by kernel_rfl
theorem arrT_50 : arrT Tryz.prog 50 = none := by kernel_rfl
theorem isStr_50 : isStr Tryz.prog 50 = false := by kernel_rfl
theorem isBool_50 : isBool Tryz.prog 50 = false := by kernel_rfl
theorem isPtr_50 : isPtr Tryz.prog 50 = false := by kernel_rfl
theorem isU8_50 : isU8 Tryz.prog 50 = false := by kernel_rfl
theorem isIfc_50 : isIfc Tryz.prog 50 = false := by kernel_rfl
theorem ifcT_50 : ifcT Tryz.prog 50 = false := by kernel_rfl
theorem seqT_50 : seqT Tryz.prog 50 = false := by kernel_rfl
theorem sliceable_50 : sliceable Tryz.prog 50 = false := by kernel_rfl
theorem szOf_51 : szOf Tryz.prog 51 = 1 := by kernel_rfl
theorem aggT_51 : aggT Tryz.prog 51 = some false := by kernel_rfl
theorem elemT_51 : elemT Tryz.prog 51 = none := by kernel_rfl
theorem bytesOf_51 : bytesOf Tryz.prog 51 = some 8 := by kernel_rfl
theorem zeroOf_51 : zeroOf Tryz.prog 51 = some [A.nilf] := by kernel_rfl
theorem arrT_51 : arrT Tryz.prog 51 = none := by kernel_rfl
theorem isStr_51 : isStr Tryz.prog 51 = false := by kernel_rfl
theorem isBool_51 : isBool Tryz.prog 51 = false := by kernel_rfl
theorem isPtr_51 : isPtr Tryz.prog 51 = false := by kernel_rfl
theorem isU8_51 : isU8 Tryz.prog 51 = false := by kernel_rfl
theorem isIfc_51 : isIfc Tryz.prog 51 = false := by kernel_rfl
theorem ifcT_51 : ifcT Tryz.prog 51 = false := by kernel_rfl
theorem seqT_51 : seqT Tryz.prog 51 = false := by kernel_rfl
theorem sliceable_51 : sliceable Tryz.prog 51 = false := by kernel_rfl
theorem szOf_52 : szOf Tryz.prog 52 = 1 := by kernel_rfl
theorem aggT_52 : aggT Tryz.prog 52 = some false := by kernel_rfl
theorem elemT_52 : elemT Tryz.prog 52 = none := by kernel_rfl
theorem bytesOf_52 : bytesOf Tryz.prog 52 = some 8 := by kernel_rfl
theorem zeroOf_52 : zeroOf Tryz.prog 52 = some [A.nilf] := by kernel_rfl
theorem arrT_52 : arrT Tryz.prog 52 = none := by kernel_rfl
theorem isStr_52 : isStr Tryz.prog 52 = false := by kernel_rfl
theorem isBool_52 : isBool Tryz.prog 52 = false := by kernel_rfl
theorem isPtr_52 : isPtr Tryz.prog 52 = false := by kernel_rfl
theorem isU8_52 : isU8 Tryz.prog 52 = false := by kernel_rfl
theorem isIfc_52 : isIfc Tryz.prog 52 = false := by kernel_rfl
theorem ifcT_52 : ifcT Tryz.prog 52 = false := by kernel_rfl
theorem seqT_52 : seqT Tryz.prog 52 = false := by kernel_rfl
theorem sliceable_52 : sliceable Tryz.prog 52 = false := by kernel_rfl
theorem szOf_53 : szOf Tryz.prog 53 = 1 := by kernel_rfl
theorem aggT_53 : aggT Tryz.prog 53 = some false := by kernel_rfl
theorem elemT_53 : elemT Tryz.prog 53 = none := by kernel_rfl
theorem bytesOf_53 : bytesOf Tryz.prog 53 = some 8 := by kernel_rfl
theorem zeroOf_53 : zeroOf Tryz.prog 53 = some [A.nilf] := by kernel_rfl
theorem arrT_53 : arrT Tryz.prog 53 = none := by kernel_rfl
theorem isStr_53 : isStr Tryz.prog 53 = false := by kernel_rfl
theorem isBool_53 : isBool Tryz.prog 53 = false := by kernel_rfl
theorem isPtr_53 : isPtr Tryz.prog 53 = false := by kernel_rfl
theorem isU8_53 : isU8 Tryz.prog 53 = false := by kernel_rfl
theorem isIfc_53 : isIfc Tryz.prog 53 = false := by kernel_rfl
theorem ifcT_53 : ifcT Tryz.prog 53 = false := by kernel_rfl
theorem seqT_53 : seqT Tryz.prog 53 = false := by kernel_rfl
theorem sliceable_53 : sliceable Tryz.prog 53 = false := by kernel_rfl
theorem szOf_55 : szOf Tryz.prog 55 = 1 := by kernel_rfl
theorem aggT_55 : aggT Tryz.prog 55 = some false := by kernel_rfl
theorem elemT_55 : elemT Tryz.prog 55 = none := by kernel_rfl
theorem bytesOf_55 : bytesOf Tryz.prog 55 = some 8 := by kernel_rfl
theorem zeroOf_55 : zeroOf Tryz.prog 55 = some [A.nilf] := by kernel_rfl
theorem arrT_55 : arrT Tryz.prog 55 = none := by kernel_rfl
theorem isStr_55 : isStr Tryz.prog 55 = false := by kernel_rfl
theorem isBool_55 : isBool Tryz.prog 55 = false := by kernel_rfl
theorem isPtr_55 : isPtr Tryz.prog 55 = false := by kernel_rfl
theorem isU8_55 : isU8 Tryz.prog 55 = false := by kernel_rfl
theorem isIfc_55 : isIfc Tryz.prog 55 = false := by kernel_rfl
theorem ifcT_55 : ifcT Tryz.prog 55 = false := by kernel_rfl
theorem seqT_55 : seqT Tryz.prog 55 = false := by kernel_rfl
theorem sliceable_55 : sliceable Tryz.prog 55 = false := by kernel_rfl
theorem szOf_56 : szOf Tryz.prog 56 = 1 := by kernel_rfl
theorem aggT_56 : aggT Tryz.prog 56 = some false := by kernel_rfl
theorem elemT_56 : elemT Tryz.prog 56 = none := by kernel_rfl
theorem bytesOf_56 : bytesOf Tryz.prog 56 = some 8 := by kernel_rfl
theorem zeroOf_56 : zeroOf Tryz.prog 56 = some [A.nilf] := by kernel_rfl
theorem arrT_56 : arrT Tryz.prog 56 = none := by kernel_rfl
theorem isStr_56 : isStr Tryz.prog 56 = false := by kernel_rfl
theorem isBool_56 : isBool Tryz.prog 56 = false := by kernel_rfl
theorem isPtr_56 : isPtr Tryz.prog 56 = false := by kernel_rfl
theorem isU8_56 : isU8 Tryz.prog 56 = false := by kernel_rfl
theorem isIfc_56 : isIfc Tryz.prog 56 = false := by kernel_rfl
theorem ifcT_56 : ifcT Tryz.prog 56 = false := by kernel_rfl
theorem seqT_56 : seqT Tryz.prog 56 = false := by kernel_rfl
theorem sliceable_56 : sliceable Tryz.prog 56 = false := by kernel_rfl
theorem szOf_58 : szOf Tryz.prog 58 = 1 := by kernel_rfl
theorem aggT_58 : aggT Tryz.prog 58 = some false := by kernel_rfl
theorem elemT_58 : elemT Tryz.prog 58 = none := by kernel_rfl
theorem bytesOf_58 : bytesOf Tryz.prog 58 = some 8 := by kernel_rfl
theorem zeroOf_58 : zeroOf Tryz.prog 58 = some [A.nilf] := by kernel_rfl
theorem arrT_58 : arrT Tryz.prog 58 = none := by kernel_rfl
theorem isStr_58 : isStr Tryz.prog 58 = false := by kernel_rfl
theorem isBool_58 : isBool Tryz.prog 58 = false := by kernel_rfl
theorem isPtr_58 : isPtr Tryz.prog 58 = false := by kernel_rfl
theorem isU8_58 : isU8 Tryz.prog 58 = false := by kernel_rfl
theorem isIfc_58 : isIfc Tryz.prog 58 = false := by kernel_rfl
theorem ifcT_58 : ifcT Tryz.prog 58 = false := by kernel_rfl
theorem seqT_58 : seqT Tryz.prog 58 = false := by kernel_rfl
theorem sliceable_58 : sliceable Tryz.prog 58 = false := by kernel_rfl
theorem szOf_61 : szOf Tryz.prog 61 = 1 := by kernel_rfl
theorem aggT_61 : aggT Tryz.prog 61 = some false := by kernel_rfl
theorem elemT_61 : elemT Tryz.prog 61 = none := by kernel_rfl
theorem bytesOf_61 : bytesOf Tryz.prog 61 = some 8 := by kernel_rfl
theorem zeroOf_61 : zeroOf Tryz.prog 61 = some [A.nilf] := by kernel_rfl
theorem arrT_61 : arrT Tryz.prog 61 = none := by kernel_rfl
theorem isStr_61 : isStr Tryz.prog 61 = false := by kernel_rfl
theorem isBool_61 : isBool Tryz.prog 61 = false := by kernel_rfl
theorem isPtr_61 : isPtr Tryz.prog 61 = false := by kernel_rfl
theorem isU8_61 : isU8 Tryz.prog 61 = false := by kernel_rfl
theorem isIfc_61 : isIfc Tryz.prog 61 = false := by kernel_rfl
theorem ifcT_61 : ifcT Tryz.prog 61 = false := by kernel_rfl
theorem seqT_61 : seqT Tryz.prog 61 = false := by kernel_rfl
theorem sliceable_61 : sliceable Tryz.prog 61 = false := by kernel_rfl
theorem szOf_62 : szOf Tryz.prog 62 = 1 := by kernel_rfl
theorem aggT_62 : aggT Tryz.prog 62 = some false := by kernel_rfl
theorem elemT_62 : elemT Tryz.prog 62 = none := by kernel_rfl
theorem bytesOf_62 : bytesOf Tryz.prog 62 = some 8 := by kernel_rfl
theorem zeroOf_62 : zeroOf Tryz.prog 62 = some [A.nilp] := by kernel_rfl
theorem arrT_62 : arrT Tryz.prog 62 = none := by kernel_rfl
theorem isStr_62 : isStr Tryz.prog 62 = false := by kernel_rfl
theorem isBool_62 : isBool Tryz.prog 62 = false := by kernel_rfl
theorem isPtr_62 : isPtr Tryz.prog 62 = true := by kernel_rfl
theorem isU8_62 : isU8 Tryz.prog 62 = false := by kernel_rfl
theorem isIfc_62 : isIfc Tryz.prog 62 = false := by kernel_rfl
theorem ifcT_62 : ifcT Tryz.prog 62 = false := by kernel_rfl
theorem seqT_62 : seqT Tryz.prog 62 = false := by kernel_rfl
theorem sliceable_62 : sliceable Tryz.prog 62 = false := by kernel_rfl
theorem szOf_64 : szOf Tryz.prog 64 = 1 := by kernel_rfl
theorem aggT_64 : aggT Tryz.prog 64 = some false := by kernel_rfl
theorem elemT_64 : elemT Tryz.prog 64 = some 27 := by kernel_rfl
theorem bytesOf_64 : bytesOf Tryz.prog 64 = some 24 := by kernel_rfl
theorem zeroOf_64 : zeroOf Tryz.prog 64 = some [A.nils] := by kernel_rfl
theorem arrT_64 : arrT Tryz.prog 64 = none := by kernel_rfl
theorem isStr_64 : isStr Tryz.prog 64 = false := by kernel_rfl
theorem isBool_64 : isBool Tryz.prog 64 = false := by kernel_rfl
theorem isPtr_64 : isPtr Tryz.prog 64 = false := by kernel_rfl
theorem isU8_64 : isU8 Tryz.prog 64 = false := by kernel_rfl
theorem isIfc_64 : isIfc Tryz.prog 64 = false := by kernel_rfl
theorem ifcT_64 : ifcT Tryz.prog 64 = false := by kernel_rfl
theorem seqT_64 : seqT Tryz.prog 64 = true := by kernel_rfl
theorem sliceable_64 : sliceable Tryz.prog 64 = true := by kernel_rfl
theorem szOf_65 : szOf Tryz.prog 65 = 1 := by kernel_rfl
theorem aggT_65 : aggT Tryz.prog 65 = some false := by kernel_rfl
theorem elemT_65 : elemT Tryz.prog 65 = none := by kernel_rfl
theorem bytesOf_65 : bytesOf Tryz.prog 65 = some 8 := by kernel_rfl
theorem zeroOf_65 : zeroOf Tryz.prog 65 = some [A.nilf] := by kernel_rfl
theorem arrT_65 : arrT Tryz.prog 65 = none := by kernel_rfl
theorem isStr_65 : isStr Tryz.prog 65 = false := by kernel_rfl
theorem isBool_65 : isBool Tryz.prog 65 = false := by kernel_rfl
theorem isPtr_65 : isPtr Tryz.prog 65 = false := by kernel_rfl
theorem isU8_65 : isU8 Tryz.prog 65 = false := by kernel_rfl
theorem isIfc_65 : isIfc Tryz.prog 65 = false := by kernel_rfl
theorem ifcT_65 : ifcT Tryz.prog 65 = false := by kernel_rfl
theorem seqT_65 : seqT Tryz.prog 65 = false := by kernel_rfl
theorem sliceable_65 : sliceable Tryz.prog 65 = false := by kernel_rfl
theorem szOf_66 : szOf Tryz.prog 66 = 1 := by kernel_rfl
theorem aggT_66 : aggT Tryz.prog 66 = some false := by kernel_rfl
theorem elemT_66 : elemT Tryz.prog 66 = none := by kernel_rfl
theorem bytesOf_66 : bytesOf Tryz.prog 66 = some 8 := by kernel_rfl
theorem zeroOf_66 : zeroOf Tryz.prog 66 = some [A.nilf] := by kernel_rfl
theorem arrT_66 : arrT Tryz.prog 66 = none := by kernel_rfl
theorem isStr_66 : isStr Tryz.prog 66 = false := by kernel_rfl
theorem isBool_66 : isBool Tryz.prog 66 = false := by kernel_rfl
theorem isPtr_66 : isPtr Tryz.prog 66 = false := by kernel_rfl
theorem isU8_66 : isU8 Tryz.prog 66 = false := by kernel_rfl
theorem isIfc_66 : isIfc Tryz.prog 66 = false := by kernel_rfl
theorem ifcT_66 : ifcT Tryz.prog 66 = false := by kernel_rfl
theorem seqT_66 : seqT Tryz.prog 66 = false := by kernel_rfl
theorem sliceable_66 : sliceable Tryz.prog 66 = false := by kernel_rfl
theorem szOf_68 : szOf Tryz.prog 68 = 1 := by kernel_rfl
theorem aggT_68 : aggT Tryz.prog 68 = some false := by kernel_rfl
theorem elemT_68 : elemT Tryz.prog 68 = none := by kernel_rfl
theorem bytesOf_68 : bytesOf Tryz.prog 68 = some 8 := by kernel_rfl
theorem zeroOf_68 : zeroOf Tryz.prog 68 = some [A.nilf] := by kernel_rfl
theorem arrT_68 : arrT Tryz.prog 68 = none := by kernel_rfl
theorem isStr_68 : isStr Tryz.prog 68 = false := by kernel_rfl
theorem isBool_68 : isBool Tryz.prog 68 = false := by kernel_rfl
theorem isPtr_68 : isPtr Tryz.prog 68 = false := by kernel_rfl
theorem isU8_68 : isU8 Tryz.prog 68 = false := by kernel_rfl
theorem isIfc_68 : isIfc Tryz.prog 68 = false := by kernel_rfl
theorem ifcT_68 : ifcT Tryz.prog 68 = false := by kernel_rfl
theorem seqT_68 : seqT Tryz.prog 68 = false := by kernel_rfl
theorem sliceable_68 : sliceable Tryz.prog 68 = false := by kernel_rfl
theorem szOf_69 : szOf Tryz.prog 69 = 1 := by kernel_rfl
theorem aggT_69 : aggT Tryz.prog 69 = some false := by kernel_rfl
theorem elemT_69 : elemT Tryz.prog 69 = none := by kernel_rfl
theorem bytesOf_69 : bytesOf Tryz.prog 69 = some 8 := by kernel_rfl
theorem zeroOf_69 : zeroOf Tryz.prog 69 = some [A.nilf] := by kernel_rfl
theorem arrT_69 : arrT Tryz.prog 69 = none := by kernel_rfl
theorem isStr_69 : isStr Tryz.prog 69 = false := by kernel_rfl
theorem isBool_69 : isBool Tryz.prog 69 = false := by kernel_rfl
theorem isPtr_69 : isPtr Tryz.prog 69 = false := by kernel_rfl
theorem isU8_69 : isU8 Tryz.prog 69 = false := by kernel_rfl
theorem isIfc_69 : isIfc Tryz.prog 69 = false := by kernel_rfl
theorem ifcT_69 : ifcT Tryz.prog 69 = false := by kernel_rfl
theorem seqT_69 : seqT Tryz.prog 69 = false := by kernel_rfl
theorem sliceable_69 : sliceable Tryz.prog 69 = false := by kernel_rfl
theorem szOf_71 : szOf Tryz.prog 71 = 1 := by kernel_rfl
theorem aggT_71 : aggT Tryz.prog 71 = some false := by kernel_rfl
theorem elemT_71 : elemT Tryz.prog 71 = none := by kernel_rfl
theorem bytesOf_71 : bytesOf Tryz.prog 71 = some 8 := by kernel_rfl
theorem zeroOf_71 : zeroOf Tryz.prog 71 = some [A.nilf] := by kernel_rfl
theorem arrT_71 : arrT Tryz.prog 71 = none := by kernel_rfl
theorem isStr_71 : isStr Tryz.prog 71 = false := by kernel_rfl
theorem isBool_71 : isBool Tryz.prog 71 = false := by kernel_rfl
theorem isPtr_71 : isPtr Tryz.prog 71 = false := by kernel_rfl
theorem isU8_71 : isU8 Tryz.prog 71 = false := by kernel_rfl
theorem isIfc_71 : isIfc Tryz.prog 71 = false := by kernel_rfl
theorem ifcT_71 : ifcT Tryz.prog 71 = false := by kernel_rfl
theorem seqT_71 : seqT Tryz.prog 71 = false := by kernel_rfl
theorem sliceable_71 : sliceable Tryz.prog 71 = false := by kernel_rfl
theorem szOf_76 : szOf Tryz.prog 76 = 1 := by kernel_rfl
theorem aggT_76 : aggT Tryz.prog 76 = some false := by kernel_rfl
theorem elemT_76 : elemT Tryz.prog 76 = none := by kernel_rfl
theorem bytesOf_76 : bytesOf Tryz.prog 76 = some 8 := by kernel_rfl
theorem zeroOf_76 : zeroOf Tryz.prog 76 = some [A.nilp] := by kernel_rfl
theorem arrT_76 : arrT Tryz.prog 76 = none := by kernel_rfl
theorem isStr_76 : isStr Tryz.prog 76 = false := by kernel_rfl
theorem isBool_76 : isBool Tryz.prog 76 = false := by kernel_rfl
theorem isPtr_76 : isPtr Tryz.prog 76 = true := by kernel_rfl
theorem isU8_76 : isU8 Tryz.prog 76 = false := by kernel_rfl
theorem isIfc_76 : isIfc Tryz.prog 76 = false := by kernel_rfl
theorem ifcT_76 : ifcT Tryz.prog 76 = false := by kernel_rfl
theorem seqT_76 : seqT Tryz.prog 76 = false := by kernel_rfl
theorem sliceable_76 : sliceable Tryz.prog 76 = false := by kernel_rfl
theorem szOf_78 : szOf Tryz.prog 78 = 2 := by kernel_rfl
theorem aggT_78 : aggT Tryz.prog 78 = some true := by kernel_rfl
theorem elemT_78 : elemT Tryz.prog 78 = none := by kernel_rfl
theorem bytesOf_78 : bytesOf Tryz.prog 78 = some 32 := by kernel_rfl
theorem zeroOf_78 : zeroOf Tryz.prog 78 = some [A.nilp, A.nils] := by kernel_rfl
theorem arrT_78 : arrT Tryz.prog 78 = none := by kernel_rfl
theorem fieldT_78_0 : fieldT Tryz.prog 78 0 = some (0, 76) := by kernel_rfl
theorem fieldT_78_1 : fieldT Tryz.prog 78 1 = some (1, 40) := by kernel_rfl
theorem isStr_78 : isStr Tryz.prog 78 = false := by kernel_rfl
theorem isBool_78 : isBool Tryz.prog 78 = false := by kernel_rfl
theorem isPtr_78 : isPtr Tryz.prog 78 = false := by kernel_rfl
theorem isU8_78 : isU8 Tryz.prog 78 = false := by kernel_rfl
theorem isIfc_78 : isIfc Tryz.prog 78 = false := by kernel_rfl
theorem ifcT_78 : ifcT Tryz.prog 78 = false := by kernel_rfl
theorem fieldsOk_78 : fieldsOk Tryz.prog 78 = true := by kernel_rfl
theorem seqT_78 : seqT Tryz.prog 78 = false := by kernel_rfl
theorem sliceable_78 : sliceable Tryz.prog 78 = false := by kernel_rfl
theorem szOf_80 : szOf Tryz.prog 80 = 1 := by kernel_rfl
theorem aggT_80 : aggT Tryz.prog 80 = some false := by kernel_rfl
theorem elemT_80 : elemT Tryz.prog 80 = none := by kernel_rfl
theorem bytesOf_80 : bytesOf Tryz.prog 80 = some 16 := by kernel_rfl
theorem zeroOf_80 : zeroOf Tryz.prog 80 = some [A.nili] := by kernel_rfl
theorem arrT_80 : arrT Tryz.prog 80 = none := by kernel_rfl
theorem isStr_80 : isStr Tryz.prog 80 = false := by kernel_rfl
theorem isBool_80 : isBool Tryz.prog 80 = false := by kernel_rfl
theorem isPtr_80 : isPtr Tryz.prog 80 = false := by kernel_rfl
theorem isU8_80 : isU8 Tryz.prog 80 = false := by kernel_rfl
theorem isIfc_80 : isIfc Tryz.prog 80 = true := by kernel_rfl
theorem ifcT_80 : ifcT Tryz.prog 80 = true := by kernel_rfl
theorem seqT_80 : seqT Tryz.prog 80 = false := by kernel_rfl
theorem sliceable_80 : sliceable Tryz.prog 80 = false := by kernel_rfl
theorem szOf_88 : szOf Tryz.prog 88 = 1 := by kernel_rfl
theorem aggT_88 : aggT Tryz.prog 88 = some false := by kernel_rfl
theorem elemT_88 : elemT Tryz.prog 88 = some 9 := by kernel_rfl
theorem bytesOf_88 : bytesOf Tryz.prog 88 = some 24 := by kernel_rfl
theorem zeroOf_88 : zeroOf Tryz.prog 88 = some [A.nils] := by kernel_rfl
theorem arrT_88 : arrT Tryz.prog 88 = none := by kernel_rfl
theorem isStr_88 : isStr Tryz.prog 88 = false := by kernel_rfl
theorem isBool_88 : isBool Tryz.prog 88 = false := by kernel_rfl
theorem isPtr_88 : isPtr Tryz.prog 88 = false := by kernel_rfl
theorem isU8_88 : isU8 Tryz.prog 88 = false := by kernel_rfl
theorem isIfc_88 : isIfc Tryz.prog 88 = false := by kernel_rfl
theorem ifcT_88 : ifcT Tryz.prog 88 = false := by kernel_rfl
theorem seqT_88 : seqT Tryz.prog 88 = true := by kernel_rfl
theorem sliceable_88 : sliceable Tryz.prog 88 = true := by kernel_rfl
theorem szOf_90 : szOf Tryz.prog 90 = 1 := by kernel_rfl
theorem aggT_90 : aggT Tryz.prog 90 = some false := by kernel_rfl
theorem elemT_90 : elemT Tryz.prog 90 = none := by kernel_rfl
theorem bytesOf_90 : bytesOf Tryz.prog 90 = some 8 := by kernel_rfl
theorem zeroOf_90 : zeroOf Tryz.prog 90 = some [A.nilf] := by kernel_rfl
theorem arrT_90 : arrT Tryz.prog 90 = none := by kernel_rfl
theorem isStr_90 : isStr Tryz.prog 90 = false := by kernel_rfl
theorem isBool_90 : isBool Tryz.prog 90 = false := by kernel_rfl
theorem isPtr_90 : isPtr Tryz.prog 90 = false := by kernel_rfl
theorem isU8_90 : isU8 Tryz.prog 90 = false := by kernel_rfl
theorem isIfc_90 : isIfc Tryz.prog 90 = false := by kernel_rfl
theorem ifcT_90 : ifcT Tryz.prog 90 = false := by kernel_rfl
theorem seqT_90 : seqT Tryz.prog 90 = false := by kernel_rfl
theorem sliceable_90 : sliceable Tryz.prog 90 = false := by kernel_rfl
theorem szOf_91 : szOf Tryz.prog 91 = 1 := by kernel_rfl
theorem aggT_91 : aggT Tryz.prog 91 = some false := by kernel_rfl
theorem elemT_91 : elemT Tryz.prog 91 = none := by kernel_rfl
theorem bytesOf_91 : bytesOf Tryz.prog 91 = some 8 := by kernel_rfl
theorem zeroOf_91 : zeroOf Tryz.prog 91 = some [A.nilf] := by kernel_rfl
theorem arrT_91 : arrT Tryz.prog 91 = none := by kernel_rfl
theorem isStr_91 : isStr Tryz.prog 91 = false := by kernel_rfl
theorem isBool_91 : isBool Tryz.prog 91 = false := by kernel_rfl
theorem isPtr_91 : isPtr Tryz.prog 91 = false := by kernel_rfl
theorem isU8_91 : isU8 Tryz.prog 91 = false := by kernel_rfl
theorem isIfc_91 : isIfc Tryz.prog 91 = false := by kernel_rfl
theorem ifcT_91 : ifcT Tryz.prog 91 = false := by kernel_rfl
theorem seqT_91 : seqT Tryz.prog 91 = false := by kernel_rfl
theorem sliceable_91 : sliceable Tryz.prog 91 = false := by kernel_rfl
theorem szOf_93 : szOf Tryz.prog 93 = 1 := by kernel_rfl
theorem aggT_93 : aggT Tryz.prog 93 = some false := by kernel_rfl
theorem elemT_93 : elemT Tryz.prog 93 = none := by kernel_rfl
theorem bytesOf_93 : bytesOf Tryz.prog 93 = some 8 := by kernel_rfl
theorem zeroOf_93 : zeroOf Tryz.prog 93 = some [A.nilf] := by kernel_rfl
theorem arrT_93 : arrT Tryz.prog 93 = none := by kernel_rfl
theorem isStr_93 : isStr Tryz.prog 93 = false := by kernel_rfl
theorem isBool_93 : isBool Tryz.prog 93 = false := by kernel_rfl
theorem isPtr_93 : isPtr Tryz.prog 93 = false := by kernel_rfl
theorem isU8_93 : isU8 Tryz.prog 93 = false := by kernel_rfl
theorem isIfc_93 : isIfc Tryz.prog 93 = false := by kernel_rfl
theorem ifcT_93 : ifcT Tryz.prog 93 = false := by kernel_rfl
theorem seqT_93 : seqT Tryz.prog 93 = false := by kernel_rfl
theorem sliceable_93 : sliceable Tryz.prog 93 = false := by kernel_rfl
theorem szOf_97 : szOf Tryz.prog 97 = 1 := by kernel_rfl
theorem aggT_97 : aggT Tryz.prog 97 = some false := by kernel_rfl
theorem elemT_97 : elemT Tryz.prog 97 = none := by kernel_rfl
theorem bytesOf_97 : bytesOf Tryz.prog 97 = some 8 := by kernel_rfl
theorem zeroOf_97 : zeroOf Tryz.prog 97 = some [A.nilf] := by kernel_rfl
theorem arrT_97 : arrT Tryz.prog 97 = none := by kernel_rfl
theorem isStr_97 : isStr Tryz.prog 97 = false := by kernel_rfl
theorem isBool_97 : isBool Tryz.prog 97 = false := by kernel_rfl
theorem isPtr_97 : isPtr Tryz.prog 97 = false := by kernel_rfl
theorem isU8_97 : isU8 Tryz.prog 97 = false := by kernel_rfl
theorem isIfc_97 : isIfc Tryz.prog 97 = false := by kernel_rfl
theorem ifcT_97 : ifcT Tryz.prog 97 = false := by kernel_rfl
theorem seqT_97 : seqT Tryz.prog 97 = false := by kernel_rfl
theorem sliceable_97 : sliceable Tryz.prog 97 = false := by kernel_rfl
theorem szOf_99 : szOf Tryz.prog 99 = 1 := by kernel_rfl
theorem aggT_99 : aggT Tryz.prog 99 = some false := by kernel_rfl
theorem elemT_99 : elemT Tryz.prog 99 = none := by kernel_rfl
theorem bytesOf_99 : bytesOf Tryz.prog 99 = some 8 := by kernel_rfl
theorem zeroOf_99 : zeroOf Tryz.prog 99 = some [A.nilf] := by kernel_rfl
theorem arrT_99 : arrT Tryz.prog 99 = none := by kernel_rfl
theorem isStr_99 : isStr Tryz.prog 99 = false := by kernel_rfl
theorem isBool_99 : isBool Tryz.prog 99 = false := by kernel_rfl
theorem isPtr_99 : isPtr Tryz.prog 99 = false := by kernel_rfl
theorem isU8_99 : isU8 Tryz.prog 99 = false := by kernel_rfl
theorem isIfc_99 : isIfc Tryz.prog 99 = false := by kernel_rfl
theorem ifcT_99 : ifcT Tryz.prog 99 = false := by kernel_rfl
theorem seqT_99 : seqT Tryz.prog 99 = false := by kernel_rfl
theorem sliceable_99 : sliceable Tryz.prog 99 = false := by kernel_rfl
theorem szOf_100 : szOf Tryz.prog 100 = 1 := by kernel_rfl
theorem aggT_100 : aggT Tryz.prog 100 = some false := by kernel_rfl
theorem elemT_100 : elemT Tryz.prog 100 = none := by kernel_rfl
theorem bytesOf_100 : bytesOf Tryz.prog 100 = some 8 := by kernel_rfl
theorem zeroOf_100 : zeroOf Tryz.prog 100 = some [A.nilf] := by kernel_rfl
theorem arrT_100 : arrT Tryz.prog 100 = none := by kernel_rfl
theorem isStr_100 : isStr Tryz.prog 100 = false := by kernel_rfl
theorem isBool_100 : isBool Tryz.prog 100 = false := by kernel_rfl
theorem isPtr_100 : isPtr Tryz.prog 100 = false := by kernel_rfl
theorem isU8_100 : isU8 Tryz.prog 100 = false := by kernel_rfl
theorem isIfc_100 : isIfc Tryz.prog 100 = false := by kernel_rfl
theorem ifcT_100 : ifcT Tryz.prog 100 = false := by kernel_rfl
theorem seqT_100 : seqT Tryz.prog 100 = false := by kernel_rfl
theorem sliceable_100 : sliceable Tryz.prog 100 = false := by kernel_rfl
theorem szOf_101 : szOf Tryz.prog 101 = 1 := by kernel_rfl
theorem aggT_101 : aggT Tryz.prog 101 = some false := by kernel_rfl
theorem elemT_101 : elemT Tryz.prog 101 = none := by kernel_rfl
theorem bytesOf_101 : bytesOf Tryz.prog 101 = some 8 := by kernel_rfl
theorem zeroOf_101 : zeroOf Tryz.prog 101 = some [A.nilf] := by kernel_rfl
theorem arrT_101 : arrT Tryz.prog 101 = none := by kernel_rfl
theorem isStr_101 : isStr Tryz.prog 101 = false := by kernel_rfl
theorem isBool_101 : isBool Tryz.prog 101 = false := by kernel_rfl
theorem isPtr_101 : isPtr Tryz.prog 101 = false := by kernel_rfl
theorem isU8_101 : isU8 Tryz.prog 101 = false := by kernel_rfl
theorem isIfc_101 : isIfc Tryz.prog 101 = false := by kernel_rfl
theorem ifcT_101 : ifcT Tryz.prog 101 = false := by kernel_rfl
theorem seqT_101 : seqT Tryz.prog 101 = false := by kernel_rfl
theorem sliceable_101 : sliceable Tryz.prog 101 = false := by kernel_rfl
theorem szOf_102 : szOf Tryz.prog 102 = 1 := by kernel_rfl
theorem aggT_102 : aggT Tryz.prog 102 = some false := by kernel_rfl
theorem elemT_102 : elemT Tryz.prog 102 = none := by kernel_rfl
theorem bytesOf_102 : bytesOf Tryz.prog 102 = some 8 := by kernel_rfl
theorem zeroOf_102 : zeroOf Tryz.prog 102 = some [A.nilf] := by kernel_rfl
theorem arrT_102 : arrT Tryz.prog 102 = none := by kernel_rfl
theorem isStr_102 : isStr Tryz.prog 102 = false := by kernel_rfl
theorem isBool_102 : isBool Tryz.prog 102 = false := by kernel_rfl
theorem isPtr_102 : isPtr Tryz.prog 102 = false := by kernel_rfl
theorem isU8_102 : isU8 Tryz.prog 102 = false := by kernel_rfl
theorem isIfc_102 : isIfc Tryz.prog 102 = false := by kernel_rfl
theorem ifcT_102 : ifcT Tryz.prog 102 = false := by kernel_rfl
theorem seqT_102 : seqT Tryz.prog 102 = false := by kernel_rfl
theorem sliceable_102 : sliceable Tryz.prog 102 = false := by kernel_rfl
theorem szOf_103 : szOf Tryz.prog 103 = 1 := by kernel_rfl
theorem aggT_103 : aggT Tryz.prog 103 = some false := by kernel_rfl
theorem elemT_103 : elemT Tryz.prog 103 = none := by kernel_rfl
theorem bytesOf_103 : bytesOf Tryz.prog 103 = some 8 := by kernel_rfl
theorem zeroOf_103 : zeroOf Tryz.prog 103 = some [A.nilf] := by kernel_rfl
theorem arrT_103 : arrT Tryz.prog 103 = none := by kernel_rfl
theorem isStr_103 : isStr Tryz.prog 103 = false := by kernel_rfl
theorem isBool_103 : isBool Tryz.prog 103 = false := by kernel_rfl
theorem isPtr_103 : isPtr Tryz.prog 103 = false := by kernel_rfl
theorem isU8_103 : isU8 Tryz.prog 103 = false := by kernel_rfl
theorem isIfc_103 : isIfc Tryz.prog 103 = false := by kernel_rfl
theorem ifcT_103 : ifcT Tryz.prog 103 = false := by kernel_rfl
theorem seqT_103 : seqT Tryz.prog 103 = false := by kernel_rfl
theorem sliceable_103 : sliceable Tryz.prog 103 = false := by kernel_rfl
theorem szOf_104 : szOf Tryz.prog 104 = 1 := by kernel_rfl
theorem aggT_104 : aggT Tryz.prog 104 = some false := by kernel_rfl
theorem elemT_104 : elemT Tryz.prog 104 = none := by kernel_rfl
theorem bytesOf_104 : bytesOf Tryz.prog 104 = some 8 := by kernel_rfl
theorem zeroOf_104 : zeroOf Tryz.prog 104 = some [A.nilf] := by kernel_rfl
theorem arrT_104 : arrT Tryz.prog 104 = none := by kernel_rfl
theorem isStr_104 : isStr Tryz.prog 104 = false := by kernel_rfl
theorem isBool_104 : isBool Tryz.prog 104 = false := by kernel_rfl
theorem isPtr_104 : isPtr Tryz.prog 104 = false := by kernel_rfl
theorem isU8_104 : isU8 Tryz.prog 104 = false := by kernel_rfl
theorem isIfc_104 : isIfc Tryz.prog 104 = false := by kernel_rfl
theorem ifcT_104 : ifcT Tryz.prog 104 = false := by kernel_rfl
theorem seqT_104 : seqT Tryz.prog 104 = false := by kernel_rfl
theorem sliceable_104 : sliceable Tryz.prog 104 = false := by kernel_rfl
theorem szOf_105 : szOf Tryz.prog 105 = 1 := by kernel_rfl
theorem aggT_105 : aggT Tryz.prog 105 = some false := by kernel_rfl
theorem elemT_105 : elemT Tryz.prog 105 = none := by kernel_rfl
theorem bytesOf_105 : bytesOf Tryz.prog 105 = some 8 := by kernel_rfl
theorem zeroOf_105 : zeroOf Tryz.prog 105 = some [A.nilf] := by kernel_rfl
theorem arrT_105 : arrT Tryz.prog 105 = none := by kernel_rfl
theorem isStr_105 : isStr Tryz.prog 105 = false := by kernel_rfl
theorem isBool_105 : isBool Tryz.prog 105 = false := by kernel_rfl
theorem isPtr_105 : isPtr Tryz.prog 105 = false := by kernel_rfl
theorem isU8_105 : isU8 Tryz.prog 105 = false := by kernel_rfl
theorem isIfc_105 : isIfc Tryz.prog 105 = false := by kernel_rfl
theorem ifcT_105 : ifcT Tryz.prog 105 = false := by kernel_rfl
theorem seqT_105 : seqT Tryz.prog 105 = false := by kernel_rfl
theorem sliceable_105 : sliceable Tryz.prog 105 = false := by kernel_rfl
theorem szOf_106 : szOf Tryz.prog 106 = 1 := by kernel_rfl
theorem aggT_106 : aggT Tryz.prog 106 = some false := by kernel_rfl
theorem elemT_106 : elemT Tryz.prog 106 = none := by kernel_rfl
theorem bytesOf_106 : bytesOf Tryz.prog 106 = some 8 := by kernel_rfl
theorem zeroOf_106 : zeroOf Tryz.prog 106 = some [A.nilf] := by kernel_rfl
theorem arrT_106 : arrT Tryz.prog 106 = none := by kernel_rfl
theorem isStr_106 : isStr Tryz.prog 106 = false := by kernel_rfl
theorem isBool_106 : isBool Tryz.prog 106 = false := by kernel_rfl
theorem isPtr_106 : isPtr Tryz.prog 106 = false := by kernel_rfl
theorem isU8_106 : isU8 Tryz.prog 106 = false := by kernel_rfl
theorem isIfc_106 : isIfc Tryz.prog 106 = false := by kernel_rfl
theorem ifcT_106 : ifcT Tryz.prog 106 = false := by kernel_rfl
theorem seqT_106 : seqT Tryz.prog 106 = false := by kernel_rfl
theorem sliceable_106 : sliceable Tryz.prog 106 = false := by kernel_rfl
theorem szOf_107 : szOf Tryz.prog 107 = 1 := by kernel_rfl
theorem aggT_107 : aggT Tryz.prog 107 = some false := by kernel_rfl
theorem elemT_107 : elemT Tryz.prog 107 = none := by kernel_rfl
theorem bytesOf_107 : bytesOf Tryz.prog 107 = some 8 := by kernel_rfl
theorem zeroOf_107 : zeroOf Tryz.prog 107 = some [A.nilf] := by kernel_rfl
theorem arrT_107 : arrT Tryz.prog 107 = none := by kernel_rfl
theorem isStr_107 : isStr Tryz.prog 107 = false := by kernel_rfl
theorem isBool_107 : isBool Tryz.prog 107 = false := by kernel_rfl
theorem isPtr_107 : isPtr Tryz.prog 107 = false := by kernel_rfl
theorem isU8_107 : isU8 Tryz.prog 107 = false := by kernel_rfl
theorem isIfc_107 : isIfc Tryz.prog 107 = false := by kernel_rfl
theorem ifcT_107 : ifcT Tryz.prog 107 = false := by kernel_rfl
theorem seqT_107 : seqT Tryz.prog 107 = false := by kernel_rfl
theorem sliceable_107 : sliceable Tryz.prog 107 = false := by kernel_rfl
theorem szOf_108 : szOf Tryz.prog 108 = 1 := by kernel_rfl
theorem aggT_108 : aggT Tryz.prog 108 = some false := by kernel_rfl
theorem elemT_108 : elemT Tryz.prog 108 = none := by kernel_rfl
theorem bytesOf_108 : bytesOf Tryz.prog 108 = some 8 := by kernel_rfl
theorem zeroOf_108 : zeroOf Tryz.prog 108 = some [A.nilf] := by kernel_rfl
theorem arrT_108 : arrT Tryz.prog 108 = none := by kernel_rfl
theorem isStr_108 : isStr Tryz.prog 108 = false := by kernel_rfl
theorem isBool_108 : isBool Tryz.prog 108 = false := by kernel_rfl
theorem isPtr_108 : isPtr Tryz.prog 108 = false := by kernel_rfl
theorem isU8_108 : isU8 Tryz.prog 108 = false := by kernel_rfl
theorem isIfc_108 : isIfc Tryz.prog 108 = false := by kernel_rfl
theorem ifcT_108 : ifcT Tryz.prog 108 = false := by kernel_rfl
theorem seqT_108 : seqT Tryz.prog 108 = false := by kernel_rfl
theorem sliceable_108 : sliceable Tryz.prog 108 = false := by kernel_rfl
theorem szOf_109 : szOf Tryz.prog 109 = 1 := by kernel_rfl
theorem aggT_109 : aggT Tryz.prog 109 = some false := by kernel_rfl
theorem elemT_109 : elemT Tryz.prog 109 = none := by kernel_rfl
theorem bytesOf_109 : bytesOf Tryz.prog 109 = some 8 := by kernel_rfl
theorem zeroOf_109 : zeroOf Tryz.prog 109 = some [A.nilf] := by kernel_rfl
theorem arrT_109 : arrT Tryz.prog 109 = none := by kernel_rfl
theorem isStr_109 : isStr Tryz.prog 109 = false := by kernel_rfl
theorem isBool_109 : isBool Tryz.prog 109 = false := by kernel_rfl
theorem isPtr_109 : isPtr Tryz.prog 109 = false := by kernel_rfl
theorem isU8_109 : isU8 Tryz.prog 109 = false := by kernel_rfl
theorem isIfc_109 : isIfc Tryz.prog 109 = false := by kernel_rfl
theorem ifcT_109 : ifcT Tryz.prog 109 = false := by kernel_rfl
theorem seqT_109 : seqT Tryz.prog 109 = false := by kernel_rfl
theorem sliceable_109 : sliceable Tryz.prog 109 = false := by kernel_rfl
theorem szOf_110 : szOf Tryz.prog 110 = 1 := by kernel_rfl
theorem aggT_110 : aggT Tryz.prog 110 = some false := by kernel_rfl
theorem elemT_110 : elemT Tryz.prog 110 = none := by kernel_rfl
theorem bytesOf_110 : bytesOf Tryz.prog 110 = some 8 := by kernel_rfl
theorem zeroOf_110 : zeroOf Tryz.prog 110 = some [A.nilf] := by kernel_rfl
theorem arrT_110 : arrT Tryz.prog 110 = none := by kernel_rfl
theorem isStr_110 : isStr Tryz.prog 110 = false := by kernel_rfl
theorem isBool_110 : isBool Tryz.prog 110 = false := by kernel_rfl
theorem isPtr_110 : isPtr Tryz.prog 110 = false := by kernel_rfl
theorem isU8_110 : isU8 Tryz.prog 110 = false := by kernel_rfl
theorem isIfc_110 : isIfc Tryz.prog 110 = false := by kernel_rfl
theorem ifcT_110 : ifcT Tryz.prog 110 = false := by kernel_rfl
theorem seqT_110 : seqT Tryz.prog 110 = false := by kernel_rfl
theorem sliceable_110 : sliceable Tryz.prog 110 = false := by kernel_rfl
theorem szOf_111 : szOf Tryz.prog 111 = 1 := by kernel_rfl
theorem aggT_111 : aggT Tryz.prog 111 = some false := by kernel_rfl
theorem elemT_111 : elemT Tryz.prog 111 = some 4 := by kernel_rfl
theorem bytesOf_111 : bytesOf Tryz.prog 111 = some 24 := by kernel_rfl
theorem zeroOf_111 : zeroOf Tryz.prog 111 = some [A.nils] := by kernel_rfl
theorem arrT_111 : arrT Tryz.prog 111 = none := by kernel_rfl
theorem isStr_111 : isStr Tryz.prog 111 = false := by kernel_rfl
theorem isBool_111 : isBool Tryz.prog 111 = false := by kernel_rfl
theorem isPtr_111 : isPtr Tryz.prog 111 = false := by kernel_rfl
theorem isU8_111 : isU8 Tryz.prog 111 = false := by kernel_rfl
theorem isIfc_111 : isIfc Tryz.prog 111 = false := by kernel_rfl
theorem ifcT_111 : ifcT Tryz.prog 111 = false := by kernel_rfl
theorem seqT_111 : seqT Tryz.prog 111 = true := by kernel_rfl
theorem sliceable_111 : sliceable Tryz.prog 111 = true := by kernel_rfl
theorem szOf_112 : szOf Tryz.prog 112 = 1 := by kernel_rfl
theorem aggT_112 : aggT Tryz.prog 112 = some false := by kernel_rfl
theorem elemT_112 : elemT Tryz.prog 112 = none := by kernel_rfl
theorem bytesOf_112 : bytesOf Tryz.prog 112 = some 8 := by kernel_rfl
theorem zeroOf_112 : zeroOf Tryz.prog 112 = some [A.nilf] := by kernel_rfl
theorem arrT_112 : arrT Tryz.prog 112 = none := by kernel_rfl
theorem isStr_112 : isStr Tryz.prog 112 = false := by kernel_rfl
theorem isBool_112 : isBool Tryz.prog 112 = false := by kernel_rfl
theorem isPtr_112 : isPtr Tryz.prog 112 = false := by kernel_rfl
theorem isU8_112 : isU8 Tryz.prog 112 = false := by kernel_rfl
theorem isIfc_112 : isIfc Tryz.prog 112 = false := by kernel_rfl
theorem ifcT_112 : ifcT Tryz.prog 112 = false := by kernel_rfl
theorem seqT_112 : seqT Tryz.prog 112 = false := by kernel_rfl
theorem sliceable_112 : sliceable Tryz.prog 112 = false := by kernel_rfl
theorem szOf_113 : szOf Tryz.prog 113 = 1 := by kernel_rfl
theorem aggT_113 : aggT Tryz.prog 113 = some false := by kernel_rfl
theorem elemT_113 : elemT Tryz.prog 113 = none := by kernel_rfl
theorem bytesOf_113 : bytesOf Tryz.prog 113 = some 8 := by kernel_rfl
theorem zeroOf_113 : zeroOf Tryz.prog 113 = some [A.nilf] := by kernel_rfl
theorem arrT_113 : arrT Tryz.prog 113 = none := by kernel_rfl
theorem isStr_113 : isStr Tryz.prog 113 = false := by kernel_rfl
theorem isBool_113 : isBool Tryz.prog 113 = false := by kernel_rfl
theorem isPtr_113 : isPtr Tryz.prog 113 = false := by kernel_rfl
theorem isU8_113 : isU8 Tryz.prog 113 = false := by kernel_rfl
theorem isIfc_113 : isIfc Tryz.prog 113 = false := by kernel_rfl
theorem ifcT_113 : ifcT Tryz.prog 113 = false := by kernel_rfl
theorem seqT_113 : seqT Tryz.prog 113 = false := by kernel_rfl
theorem sliceable_113 : sliceable Tryz.prog 113 = false := by kernel_rfl
theorem szOf_114 : szOf Tryz.prog 114 = 1 := by kernel_rfl
theorem aggT_114 : aggT Tryz.prog 114 = some false := by kernel_rfl
theorem elemT_114 : elemT Tryz.prog 114 = none := by kernel_rfl
theorem bytesOf_114 : bytesOf Tryz.prog 114 = some 8 := by kernel_rfl
theorem zeroOf_114 : zeroOf Tryz.prog 114 = some [A.nilf] := by kernel_rfl
theorem arrT_114 : arrT Tryz.prog 114 = none := by kernel_rfl
theorem isStr_114 : isStr Tryz.prog 114 = false := by kernel_rfl
theorem isBool_114 : isBool Tryz.prog 114 = false := by kernel_rfl
theorem isPtr_114 : isPtr Tryz.prog 114 = false := by kernel_rfl
theorem isU8_114 : isU8 Tryz.prog 114 = false := by kernel_rfl
theorem isIfc_114 : isIfc Tryz.prog 114 = false := by kernel_rfl
theorem ifcT_114 : ifcT Tryz.prog 114 = false := by kernel_rfl
theorem seqT_114 : seqT Tryz.prog 114 = false := by kernel_rfl
theorem sliceable_114 : sliceable Tryz.prog 114 = false := by kernel_rfl
theorem szOf_115 : szOf Tryz.prog 115 = 1 := by kernel_rfl
theorem aggT_115 : aggT Tryz.prog 115 = some false := by kernel_rfl
theorem elemT_115 : elemT Tryz.prog 115 = none := by kernel_rfl
theorem bytesOf_115 : bytesOf Tryz.prog 115 = some 8 := by kernel_rfl
theorem zeroOf_115 : zeroOf Tryz.prog 115 = some [A.nilf] := by kernel_rfl
theorem arrT_115 : arrT Tryz.prog 115 = none := by kernel_rfl
theorem isStr_115 : isStr Tryz.prog 115 = false := by kernel_rfl
theorem isBool_115 : isBool Tryz.prog 115 = false := by kernel_rfl
theorem isPtr_115 : isPtr Tryz.prog 115 = false := by kernel_rfl
theorem isU8_115 : isU8 Tryz.prog 115 = false := by kernel_rfl
theorem isIfc_115 : isIfc Tryz.prog 115 = false := by kernel_rfl
theorem ifcT_115 : ifcT Tryz.prog 115 = false := by kernel_rfl
theorem seqT_115 : seqT Tryz.prog 115 = false := by kernel_rfl
theorem sliceable_115 : sliceable Tryz.prog 115 = false := by kernel_rfl
theorem szOf_116 : szOf Tryz.prog 116 = 1 := by kernel_rfl
theorem aggT_116 : aggT Tryz.prog 116 = some false := by kernel_rfl
theorem elemT_116 : elemT Tryz.prog 116 = none := by kernel_rfl
theorem bytesOf_116 : bytesOf Tryz.prog 116 = some 8 := by kernel_rfl
theorem zeroOf_116 : zeroOf Tryz.prog 116 = some [A.nilp] := by kernel_rfl
theorem arrT_116 : arrT Tryz.prog 116 = none := by kernel_rfl
theorem isStr_116 : isStr Tryz.prog 116 = false := by kernel_rfl
theorem isBool_116 : isBool Tryz.prog 116 = false := by kernel_rfl
theorem isPtr_116 : isPtr Tryz.prog 116 = true := by kernel_rfl
theorem isU8_116 : isU8 Tryz.prog 116 = false := by kernel_rfl
theorem isIfc_116 : isIfc Tryz.prog 116 = false := by kernel_rfl
theorem ifcT_116 : ifcT Tryz.prog 116 = false := by kernel_rfl
theorem seqT_116 : seqT Tryz.prog 116 = false := by kernel_rfl
theorem sliceable_116 : sliceable Tryz.prog 116 = false := by kernel_rfl
theorem szOf_117 : szOf Tryz.prog 117 = 1 := by kernel_rfl
theorem aggT_117 : aggT Tryz.prog 117 = some false := by kernel_rfl
theorem elemT_117 : elemT Tryz.prog 117 = none := by kernel_rfl
theorem bytesOf_117 : bytesOf Tryz.prog 117 = some 8 := by kernel_rfl
theorem zeroOf_117 : zeroOf Tryz.prog 117 = some [A.nilf] := by kernel_rfl
theorem arrT_117 : arrT Tryz.prog 117 = none := by kernel_rfl
theorem isStr_117 : isStr Tryz.prog 117 = false := by kernel_rfl
theorem isBool_117 : isBool Tryz.prog 117 = false := by kernel_rfl
theorem isPtr_117 : isPtr Tryz.prog 117 = false := by kernel_rfl
theorem isU8_117 : isU8 Tryz.prog 117 = false := by kernel_rfl
theorem isIfc_117 : isIfc Tryz.prog 117 = false := by kernel_rfl
theorem ifcT_117 : ifcT Tryz.prog 117 = false := by kernel_rfl
theorem seqT_117 : seqT Tryz.prog 117 = false := by kernel_rfl
theorem sliceable_117 : sliceable Tryz.prog 117 = false := by kernel_rfl
theorem szOf_118 : szOf Tryz.prog 118 = 1 := by kernel_rfl
theorem aggT_118 : aggT Tryz.prog 118 = some false := by kernel_rfl
theorem elemT_118 : elemT Tryz.prog 118 = none := by kernel_rfl
theorem bytesOf_118 : bytesOf Tryz.prog 118 = some 8 := by kernel_rfl
theorem zeroOf_118 : zeroOf Tryz.prog 118 = some [A.nilf] := by kernel_rfl
theorem arrT_118 : arrT Tryz.prog 118 = none := by kernel_rfl
theorem isStr_118 : isStr Tryz.prog 118 = false := by kernel_rfl
theorem isBool_118 : isBool Tryz.prog 118 = false := by kernel_rfl
theorem isPtr_118 : isPtr Tryz.prog 118 = false := by kernel_rfl
theorem isU8_118 : isU8 Tryz.prog 118 = false := by kernel_rfl
theorem isIfc_118 : isIfc Tryz.prog 118 = false := by kernel_rfl
theorem ifcT_118 : ifcT Tryz.prog 118 = false := by kernel_rfl
theorem seqT_118 : seqT Tryz.prog 118 = false := by kernel_rfl
theorem sliceable_118 : sliceable Tryz.prog 118 = false := by kernel_rfl
theorem szOf_119 : szOf Tryz.prog 119 = 1 := by kernel_rfl
theorem aggT_119 : aggT Tryz.prog 119 = some false := by kernel_rfl
theorem elemT_119 : elemT Tryz.prog 119 = none := by kernel_rfl
theorem bytesOf_119 : bytesOf Tryz.prog 119 = some 8 := by kernel_rfl
theorem zeroOf_119 : zeroOf Tryz.prog 119 = some [A.nilf] := by kernel_rfl
theorem arrT_119 : arrT Tryz.prog 119 = none := by kernel_rfl
theorem isStr_119 : isStr Tryz.prog 119 = false := by kernel_rfl
theorem isBool_119 : isBool Tryz.prog 119 = false := by kernel_rfl
theorem isPtr_119 : isPtr Tryz.prog 119 = false := by kernel_rfl
theorem isU8_119 : isU8 Tryz.prog 119 = false := by kernel_rfl
theorem isIfc_119 : isIfc Tryz.prog 119 = false := by kernel_rfl
theorem ifcT_119 : ifcT Tryz.prog 119 = false := by kernel_rfl
theorem seqT_119 : seqT Tryz.prog 119 = false := by kernel_rfl
theorem sliceable_119 : sliceable Tryz.prog 119 = false := by kernel_rfl
theorem szOf_120 : szOf Tryz.prog 120 = 1 := by kernel_rfl
theorem aggT_120 : aggT Tryz.prog 120 = some false := by kernel_rfl
theorem elemT_120 : elemT Tryz.prog 120 = none := by kernel_rfl
theorem bytesOf_120 : bytesOf Tryz.prog 120 = some 8 := by kernel_rfl
theorem zeroOf_120 : zeroOf Tryz.prog 120 = some [A.nilf] := by kernel_rfl
theorem arrT_120 : arrT Tryz.prog 120 = none := by kernel_rfl
theorem isStr_120 : isStr Tryz.prog 120 = false := by kernel_rfl
theorem isBool_120 : isBool Tryz.prog 120 = false := by kernel_rfl
theorem isPtr_120 : isPtr Tryz.prog 120 = false := by kernel_rfl
theorem isU8_120 : isU8 Tryz.prog 120 = false := by kernel_rfl
theorem isIfc_120 : isIfc Tryz.prog 120 = false := by kernel_rfl
theorem ifcT_120 : ifcT Tryz.prog 120 = false := by kernel_rfl
theorem seqT_120 : seqT Tryz.prog 120 = false := by kernel_rfl
theorem sliceable_120 : sliceable Tryz.prog 120 = false := by kernel_rfl
theorem szOf_121 : szOf Tryz.prog 121 = 1 := by kernel_rfl
theorem aggT_121 : aggT Tryz.prog 121 = some false := by kernel_rfl
theorem elemT_121 : elemT Tryz.prog 121 = none := by kernel_rfl
theorem bytesOf_121 : bytesOf Tryz.prog 121 = some 8 := by kernel_rfl
theorem zeroOf_121 : zeroOf Tryz.prog 121 = some [A.nilf] := by kernel_rfl
theorem arrT_121 : arrT Tryz.prog 121 = none := by kernel_rfl
theorem isStr_121 : isStr Tryz.prog 121 = false := by kernel_rfl
theorem isBool_121 : isBool Tryz.prog 121 = false := by kernel_rfl
theorem isPtr_121 : isPtr Tryz.prog 121 = false := by kernel_rfl
theorem isU8_121 : isU8 Tryz.prog 121 = false := by kernel_rfl
theorem isIfc_121 : isIfc Tryz.prog 121 = false := by kernel_rfl
theorem ifcT_121 : ifcT Tryz.prog 121 = false := by kernel_rfl
theorem seqT_121 : seqT Tryz.prog 121 = false := by kernel_rfl
theorem sliceable_121 : sliceable Tryz.prog 121 = false := by kernel_rfl
theorem szOf_122 : szOf Tryz.prog 122 = 1 := by kernel_rfl
theorem aggT_122 : aggT Tryz.prog 122 = some false := by kernel_rfl
theorem elemT_122 : elemT Tryz.prog 122 = none := by kernel_rfl
theorem bytesOf_122 : bytesOf Tryz.prog 122 = some 8 := by kernel_rfl
theorem zeroOf_122 : zeroOf Tryz.prog 122 = some [A.nilf] := by kernel_rfl
theorem arrT_122 : arrT Tryz.prog 122 = none := by kernel_rfl
theorem isStr_122 : isStr Tryz.prog 122 = false := by kernel_rfl
theorem isBool_122 : isBool Tryz.prog 122 = false := by kernel_rfl
theorem isPtr_122 : isPtr Tryz.prog 122 = false := by kernel_rfl
theorem isU8_122 : isU8 Tryz.prog 122 = false := by kernel_rfl
theorem isIfc_122 : isIfc Tryz.prog 122 = false := by kernel_rfl
theorem ifcT_122 : ifcT Tryz.prog 122 = false := by kernel_rfl
theorem seqT_122 : seqT Tryz.prog 122 = false := by kernel_rfl
theorem sliceable_122 : sliceable Tryz.prog 122 = false := by kernel_rfl
theorem szOf_125 : szOf Tryz.prog 125 = 1 := by kernel_rfl
theorem aggT_125 : aggT Tryz.prog 125 = some false := by kernel_rfl
theorem elemT_125 : elemT Tryz.prog 125 = none := by kernel_rfl
theorem bytesOf_125 : bytesOf Tryz.prog 125 = some 8 := by kernel_rfl
theorem zeroOf_125 : zeroOf Tryz.prog 125 = some [A.nilf] := by kernel_rfl
theorem arrT_125 : arrT Tryz.prog 125 = none := by kernel_rfl
theorem isStr_125 : isStr Tryz.prog 125 = false := by kernel_rfl
theorem isBool_125 : isBool Tryz.prog 125 = false := by kernel_rfl
theorem isPtr_125 : isPtr Tryz.prog 125 = false := by kernel_rfl
theorem isU8_125 : isU8 Tryz.prog 125 = false := by kernel_rfl
theorem isIfc_125 : isIfc Tryz.prog 125 = false := by kernel_rfl
theorem ifcT_125 : ifcT Tryz.prog 125 = false := by kernel_rfl
theorem seqT_125 : seqT Tryz.prog 125 = false := by kernel_rfl
theorem sliceable_125 : sliceable Tryz.prog 125 = false := by kernel_rfl
theorem szOf_126 : szOf Tryz.prog 126 = 1 := by kernel_rfl
theorem aggT_126 : aggT Tryz.prog 126 = some false := by kernel_rfl
theorem elemT_126 : elemT Tryz.prog 126 = none := by kernel_rfl
theorem bytesOf_126 : bytesOf Tryz.prog 126 = some 8 := by kernel_rfl
theorem zeroOf_126 : zeroOf Tryz.prog 126 = some [A.nilp] := by kernel_rfl
theorem arrT_126 : arrT Tryz.prog 126 = none := by kernel_rfl
theorem isStr_126 : isStr Tryz.prog 126 = false := by kernel_rfl
theorem isBool_126 : isBool Tryz.prog 126 = false := by kernel_rfl
theorem isPtr_126 : isPtr Tryz.prog 126 = true := by kernel_rfl
theorem isU8_126 : isU8 Tryz.prog 126 = false := by kernel_rfl
theorem isIfc_126 : isIfc Tryz.prog 126 = false := by kernel_rfl
theorem ifcT_126 : ifcT Tryz.prog 126 = false := by kernel_rfl
theorem seqT_126 : seqT Tryz.prog 126 = false := by kernel_rfl
theorem sliceable_126 : sliceable Tryz.prog 126 = false := by kernel_rfl
theorem szOf_128 : szOf Tryz.prog 128 = 1 := by kernel_rfl
theorem aggT_128 : aggT Tryz.prog 128 = some false := by kernel_rfl
theorem elemT_128 : elemT Tryz.prog 128 = none := by kernel_rfl
theorem bytesOf_128 : bytesOf Tryz.prog 128 = some 8 := by kernel_rfl
theorem zeroOf_128 : zeroOf Tryz.prog 128 = some [A.nilf] := by kernel_rfl
theorem arrT_128 : arrT Tryz.prog 128 = none := by kernel_rfl
theorem isStr_128 : isStr Tryz.prog 128 = false := by kernel_rfl
theorem isBool_128 : isBool Tryz.prog 128 = false := by kernel_rfl
theorem isPtr_128 : isPtr Tryz.prog 128 = false := by kernel_rfl
theorem isU8_128 : isU8 Tryz.prog 128 = false := by kernel_rfl
theorem isIfc_128 : isIfc Tryz.prog 128 = false := by kernel_rfl
theorem ifcT_128 : ifcT Tryz.prog 128 = false := by kernel_rfl
theorem seqT_128 : seqT Tryz.prog 128 = false := by kernel_rfl
theorem sliceable_128 : sliceable Tryz.prog 128 = false := by kernel_rfl
theorem szOf_133 : szOf Tryz.prog 133 = 0 := by kernel_rfl
theorem aggT_133 : aggT Tryz.prog 133 = some true := by kernel_rfl
theorem elemT_133 : elemT Tryz.prog 133 = none := by kernel_rfl
theorem bytesOf_133 : bytesOf Tryz.prog 133 = some 0 := by kernel_rfl
theorem zeroOf_133 : zeroOf Tryz.prog 133 = some [] := by kernel_rfl
theorem arrT_133 : arrT Tryz.prog 133 = none := by kernel_rfl
theorem isStr_133 : isStr Tryz.prog 133 = false := by kernel_rfl
theorem isBool_133 : isBool Tryz.prog 133 = false := by kernel_rfl
theorem isPtr_133 : isPtr Tryz.prog 133 = false := by kernel_rfl
theorem isU8_133 : isU8 Tryz.prog 133 = false := by kernel_rfl
theorem isIfc_133 : isIfc Tryz.prog 133 = false := by kernel_rfl
theorem ifcT_133 : ifcT Tryz.prog 133 = false := by kernel_rfl
theorem fieldsOk_133 : fieldsOk Tryz.prog 133 = true := by kernel_rfl
theorem seqT_133 : seqT Tryz.prog 133 = false := by kernel_rfl
theorem sliceable_133 : sliceable Tryz.prog 133 = false := by kernel_rfl
theorem szOf_135 : szOf Tryz.prog 135 = 1 := by kernel_rfl
theorem aggT_135 : aggT Tryz.prog 135 = some false := by kernel_rfl
theorem elemT_135 : elemT Tryz.prog 135 = none := by kernel_rfl
theorem bytesOf_135 : bytesOf Tryz.prog 135 = some 8 := by kernel_rfl
theorem zeroOf_135 : zeroOf Tryz.prog 135 = some [A.nilp] := by kernel_rfl
theorem arrT_135 : arrT Tryz.prog 135 = none := by kernel_rfl
theorem isStr_135 : isStr Tryz.prog 135 = false := by kernel_rfl
theorem isBool_135 : isBool Tryz.prog 135 = false := by kernel_rfl
theorem isPtr_135 : isPtr Tryz.prog 135 = true := by kernel_rfl
theorem isU8_135 : isU8 Tryz.prog 135 = false := by kernel_rfl
theorem isIfc_135 : isIfc Tryz.prog 135 = false := by kernel_rfl
theorem ifcT_135 : ifcT Tryz.prog 135 = false := by kernel_rfl
theorem seqT_135 : seqT Tryz.prog 135 = false := by kernel_rfl
theorem sliceable_135 : sliceable Tryz.prog 135 = false := by kernel_rfl
theorem szOf_137 : szOf Tryz.prog 137 = 1 := by kernel_rfl
theorem aggT_137 : aggT Tryz.prog 137 = some true := by kernel_rfl
theorem elemT_137 : elemT Tryz.prog 137 = none := by kernel_rfl
theorem bytesOf_137 : bytesOf Tryz.prog 137 = some 16 := by kernel_rfl
theorem zeroOf_137 : zeroOf Tryz.prog 137 = some [A.str []] := by kernel_rfl
theorem arrT_137 : arrT Tryz.prog 137 = none := by kernel_rfl
theorem fieldT_137_0 : fieldT Tryz.prog 137 0 = some (0, 9) := by kernel_rfl
theorem isStr_137 : isStr Tryz.prog 137 = false := by kernel_rfl
theorem isBool_137 : isBool Tryz.prog 137 = false := by kernel_rfl
theorem isPtr_137 : isPtr Tryz.prog 137 = false := by kernel_rfl
theorem isU8_137 : isU8 Tryz.prog 137 = false := by kernel_rfl
theorem isIfc_137 : isIfc Tryz.prog 137 = false := by kernel_rfl
theorem ifcT_137 : ifcT Tryz.prog 137 = false := by kernel_rfl
theorem fieldsOk_137 : fieldsOk Tryz.prog 137 = true := by kernel_rfl
theorem seqT_137 : seqT Tryz.prog 137 = false := by kernel_rfl
theorem sliceable_137 : sliceable Tryz.prog 137 = false := by kernel_rfl
theorem szOf_140 : szOf Tryz.prog 140 = 0 := by kernel_rfl
theorem aggT_140 : aggT Tryz.prog 140 = some true := by kernel_rfl
theorem elemT_140 : elemT Tryz.prog 140 = none := by kernel_rfl
theorem bytesOf_140 : bytesOf Tryz.prog 140 = some 0 := by kernel_rfl
theorem zeroOf_140 : zeroOf Tryz.prog 140 = some [] := by kernel_rfl
theorem arrT_140 : arrT Tryz.prog 140 = none := by kernel_rfl
theorem isStr_140 : isStr Tryz.prog 140 = false := by kernel_rfl
theorem isBool_140 : isBool Tryz.prog 140 = false := by kernel_rfl
theorem isPtr_140 : isPtr Tryz.prog 140 = false := by kernel_rfl
theorem isU8_140 : isU8 Tryz.prog 140 = false := by kernel_rfl
theorem isIfc_140 : isIfc Tryz.prog 140 = false := by kernel_rfl
theorem ifcT_140 : ifcT Tryz.prog 140 = false := by kernel_rfl
theorem fieldsOk_140 : fieldsOk Tryz.prog 140 = true := by kernel_rfl
theorem seqT_140 : seqT Tryz.prog 140 = false := by kernel_rfl
theorem sliceable_140 : sliceable Tryz.prog 140 = false := by kernel_rfl
theorem szOf_142 : szOf Tryz.prog 142 = 1 := by kernel_rfl
theorem aggT_142 : aggT Tryz.prog 142 = some false := by kernel_rfl
theorem elemT_142 : elemT Tryz.prog 142 = none := by kernel_rfl
theorem bytesOf_142 : bytesOf Tryz.prog 142 = some 8 := by kernel_rfl
theorem zeroOf_142 : zeroOf Tryz.prog 142 = some [A.nilp] := by kernel_rfl
theorem arrT_142 : arrT Tryz.prog 142 = none := by kernel_rfl
theorem isStr_142 : isStr Tryz.prog 142 = false := by kernel_rfl
theorem isBool_142 : isBool Tryz.prog 142 = false := by kernel_rfl
theorem isPtr_142 : isPtr Tryz.prog 142 = true := by kernel_rfl
theorem isU8_142 : isU8 Tryz.prog 142 = false := by kernel_rfl
theorem isIfc_142 : isIfc Tryz.prog 142 = false := by kernel_rfl
theorem ifcT_142 : ifcT Tryz.prog 142 = false := by kernel_rfl
theorem seqT_142 : seqT Tryz.prog 142 = false := by kernel_rfl
theorem sliceable_142 : sliceable Tryz.prog 142 = false := by kernel_rfl
theorem szOf_144 : szOf Tryz.prog 144 = 1 := by kernel_rfl
theorem aggT_144 : aggT Tryz.prog 144 = some true := by kernel_rfl
theorem elemT_144 : elemT Tryz.prog 144 = none := by kernel_rfl
theorem bytesOf_144 : bytesOf Tryz.prog 144 = some 16 := by kernel_rfl
theorem zeroOf_144 : zeroOf Tryz.prog 144 = some [A.str []] := by kernel_rfl
theorem arrT_144 : arrT Tryz.prog 144 = none := by kernel_rfl
theorem fieldT_144_0 : fieldT Tryz.prog 144 0 = some (0, 9) := by kernel_rfl
theorem isStr_144 : isStr Tryz.prog 144 = false := by kernel_rfl
theorem isBool_144 : isBool Tryz.prog 144 = false := by kernel_rfl
theorem isPtr_144 : isPtr Tryz.prog 144 = false := by kernel_rfl
theorem isU8_144 : isU8 Tryz.prog 144 = false := by kernel_rfl
theorem isIfc_144 : isIfc Tryz.prog 144 = false := by kernel_rfl
theorem ifcT_144 : ifcT Tryz.prog 144 = false := by kernel_rfl
theorem fieldsOk_144 : fieldsOk Tryz.prog 144 = true := by kernel_rfl
theorem seqT_144 : seqT Tryz.prog 144 = false := by kernel_rfl
theorem sliceable_144 : sliceable Tryz.prog 144 = false := by kernel_rfl
theorem szOf_148 : szOf Tryz.prog 148 = 1 := by kernel_rfl
theorem aggT_148 : aggT Tryz.prog 148 = some false := by kernel_rfl
theorem elemT_148 : elemT Tryz.prog 148 = none := by kernel_rfl
theorem bytesOf_148 : bytesOf Tryz.prog 148 = some 8 := by kernel_rfl
theorem zeroOf_148 : zeroOf Tryz.prog 148 = some [A.nilp] := by kernel_rfl
theorem arrT_148 : arrT Tryz.prog 148 = none := by kernel_rfl
theorem isStr_148 : isStr Tryz.prog 148 = false := by kernel_rfl
theorem isBool_148 : isBool Tryz.prog 148 = false := by kernel_rfl
theorem isPtr_148 : isPtr Tryz.prog 148 = true := by kernel_rfl
theorem isU8_148 : isU8 Tryz.prog 148 = false := by kernel_rfl
theorem isIfc_148 : isIfc Tryz.prog 148 = false := by kernel_rfl
theorem ifcT_148 : ifcT Tryz.prog 148 = false := by kernel_rfl
theorem seqT_148 : seqT Tryz.prog 148 = false := by kernel_rfl
theorem sliceable_148 : sliceable Tryz.prog 148 = false := by kernel_rfl
theorem szOf_150 : szOf Tryz.prog 150 = 2 := by kernel_rfl
theorem aggT_150 : aggT Tryz.prog 150 = some true := by kernel_rfl
theorem elemT_150 : elemT Tryz.prog 150 = none := by kernel_rfl
theorem bytesOf_150 : bytesOf Tryz.prog 150 = some 32 := by kernel_rfl
theorem zeroOf_150 : zeroOf Tryz.prog 150 = some [A.nils, A.bool false] := by kernel_rfl
theorem arrT_150 : arrT Tryz.prog 150 = none := by kernel_rfl
theorem fieldT_150_0 : fieldT Tryz.prog 150 0 = some (0, 88) := by kernel_rfl
theorem fieldT_150_1 : fieldT Tryz.prog 150 1 = some (1, 4) := by kernel_rfl
theorem isStr_150 : isStr Tryz.prog 150 = false := by kernel_rfl
theorem isBool_150 : isBool Tryz.prog 150 = false := by kernel_rfl
theorem isPtr_150 : isPtr Tryz.prog 150 = false := by kernel_rfl
theorem isU8_150 : isU8 Tryz.prog 150 = false := by kernel_rfl
theorem isIfc_150 : isIfc Tryz.prog 150 = false := by kernel_rfl
theorem ifcT_150 : ifcT Tryz.prog 150 = false := by kernel_rfl
theorem fieldsOk_150 : fieldsOk Tryz.prog 150 = true := by kernel_rfl
theorem seqT_150 : seqT Tryz.prog 150 = false := by kernel_rfl
theorem sliceable_150 : sliceable Tryz.prog 150 = false := by kernel_rfl
theorem szOf_156 : szOf Tryz.prog 156 = 1 := by kernel_rfl
theorem aggT_156 : aggT Tryz.prog 156 = some false := by kernel_rfl
theorem elemT_156 : elemT Tryz.prog 156 = none := by kernel_rfl
theorem bytesOf_156 : bytesOf Tryz.prog 156 = some 8 := by kernel_rfl
theorem zeroOf_156 : zeroOf Tryz.prog 156 = some [A.nilf] := by kernel_rfl
theorem arrT_156 : arrT Tryz.prog 156 = none := by kernel_rfl
theorem isStr_156 : isStr Tryz.prog 156 = false := by kernel_rfl
theorem isBool_156 : isBool Tryz.prog 156 = false := by kernel_rfl
theorem isPtr_156 : isPtr Tryz.prog 156 = false := by kernel_rfl
theorem isU8_156 : isU8 Tryz.prog 156 = false := by kernel_rfl
theorem isIfc_156 : isIfc Tryz.prog 156 = false := by kernel_rfl
theorem ifcT_156 : ifcT Tryz.prog 156 = false := by kernel_rfl
theorem seqT_156 : seqT Tryz.prog 156 = false := by kernel_rfl
theorem sliceable_156 : sliceable Tryz.prog 156 = false := by kernel_rfl
theorem szOf_161 : szOf Tryz.prog 161 = 1 := by kernel_rfl
theorem aggT_161 : aggT Tryz.prog 161 = some false := by kernel_rfl
theorem elemT_161 : elemT Tryz.prog 161 = none := by kernel_rfl
theorem bytesOf_161 : bytesOf Tryz.prog 161 = some 8 := by kernel_rfl
theorem zeroOf_161 : zeroOf Tryz.prog 161 = some [A.nilf] := by kernel_rfl
theorem arrT_161 : arrT Tryz.prog 161 = none := by kernel_rfl
theorem isStr_161 : isStr Tryz.prog 161 = false := by kernel_rfl
theorem isBool_161 : isBool Tryz.prog 161 = false := by kernel_rfl
theorem isPtr_161 : isPtr Tryz.prog 161 = false := by kernel_rfl
theorem isU8_161 : isU8 Tryz.prog 161 = false := by kernel_rfl
theorem isIfc_161 : isIfc Tryz.prog 161 = false := by kernel_rfl
theorem ifcT_161 : ifcT Tryz.prog 161 = false := by kernel_rfl
theorem seqT_161 : seqT Tryz.prog 161 = false := by kernel_rfl
theorem sliceable_161 : sliceable Tryz.prog 161 = false := by kernel_rfl
theorem szOf_166 : szOf Tryz.prog 166 = 1 := by kernel_rfl
theorem aggT_166 : aggT Tryz.prog 166 = some false := by kernel_rfl
theorem elemT_166 : elemT Tryz.prog 166 = none := by kernel_rfl
theorem bytesOf_166 : bytesOf Tryz.prog 166 = some 8 := by kernel_rfl
theorem zeroOf_166 : zeroOf Tryz.prog 166 = some [A.nilp] := by kernel_rfl
theorem arrT_166 : arrT Tryz.prog 166 = none := by kernel_rfl
theorem isStr_166 : isStr Tryz.prog 166 = false := by kernel_rfl
theorem isBool_166 : isBool Tryz.prog 166 = false := by kernel_rfl
theorem isPtr_166 : isPtr Tryz.prog 166 = true := by kernel_rfl
theorem isU8_166 : isU8 Tryz.prog 166 = false := by kernel_rfl
theorem isIfc_166 : isIfc Tryz.prog 166 = false := by kernel_rfl
theorem ifcT_166 : ifcT Tryz.prog 166 = false := by kernel_rfl
theorem seqT_166 : seqT Tryz.prog 166 = false := by kernel_rfl
theorem sliceable_166 : sliceable Tryz.prog 166 = false := by kernel_rfl
theorem szOf_167 : szOf Tryz.prog 167 = 1 := by kernel_rfl
theorem aggT_167 : aggT Tryz.prog 167 = some false := by kernel_rfl
theorem elemT_167 : elemT Tryz.prog 167 = none := by kernel_rfl
theorem bytesOf_167 : bytesOf Tryz.prog 167 = some 8 := by kernel_rfl
theorem zeroOf_167 : zeroOf Tryz.prog 167 = some [A.nilp] := by kernel_rfl
theorem arrT_167 : arrT Tryz.prog 167 = none := by kernel_rfl
theorem isStr_167 : isStr Tryz.prog 167 = false := by kernel_rfl
theorem isBool_167 : isBool Tryz.prog 167 = false := by kernel_rfl
theorem isPtr_167 : isPtr Tryz.prog 167 = true := by kernel_rfl
theorem isU8_167 : isU8 Tryz.prog 167 = false := by kernel_rfl
theorem isIfc_167 : isIfc Tryz.prog 167 = false := by kernel_rfl
theorem ifcT_167 : ifcT Tryz.prog 167 = false := by kernel_rfl
theorem seqT_167 : seqT Tryz.prog 167 = false := by kernel_rfl
theorem sliceable_167 : sliceable Tryz.prog 167 = false := by kernel_rfl
theorem szOf_169 : szOf Tryz.prog 169 = 3 := by kernel_rfl
theorem aggT_169 : aggT Tryz.prog 169 = some true := by kernel_rfl
theorem elemT_169 : elemT Tryz.prog 169 = none := by kernel_rfl
theorem bytesOf_169 : bytesOf Tryz.prog 169 = some 24 := by kernel_rfl
theorem zeroOf_169 : zeroOf Tryz.prog 169 = some [A.int .i64 0, A.int .i64 0, A.bool false] := by kernel_rfl
theorem arrT_169 : arrT Tryz.prog 169 = none := by kernel_rfl
theorem fieldT_169_0 : fieldT Tryz.prog 169 0 = some (0, 3) := by kernel_rfl
theorem fieldT_169_1 : fieldT Tryz.prog 169 1 = some (1, 3) := by kernel_rfl
theorem fieldT_169_2 : fieldT Tryz.prog 169 2 = some (2, 4) := by kernel_rfl
theorem isStr_169 : isStr Tryz.prog 169 = false := by kernel_rfl
theorem isBool_169 : isBool Tryz.prog 169 = false := by kernel_rfl
theorem isPtr_169 : isPtr Tryz.prog 169 = false := by kernel_rfl
theorem isU8_169 : isU8 Tryz.prog 169 = false := by kernel_rfl
theorem isIfc_169 : isIfc Tryz.prog 169 = false := by kernel_rfl
theorem ifcT_169 : ifcT Tryz.prog 169 = false := by kernel_rfl
theorem fieldsOk_169 : fieldsOk Tryz.prog 169 = true := by kernel_rfl
theorem seqT_169 : seqT Tryz.prog 169 = false := by kernel_rfl
theorem sliceable_169 : sliceable Tryz.prog 169 = false := by kernel_rfl
theorem szOf_171 : szOf Tryz.prog 171 = 1 := by kernel_rfl
theorem aggT_171 : aggT Tryz.prog 171 = some false := by kernel_rfl
theorem elemT_171 : elemT Tryz.prog 171 = none := by kernel_rfl
theorem bytesOf_171 : bytesOf Tryz.prog 171 = some 8 := by kernel_rfl
theorem zeroOf_171 : zeroOf Tryz.prog 171 = some [A.nilp] := by kernel_rfl
theorem arrT_171 : arrT Tryz.prog 171 = none := by kernel_rfl
theorem isStr_171 : isStr Tryz.prog 171 = false := by kernel_rfl
theorem isBool_171 : isBool Tryz.prog 171 = false := by kernel_rfl
theorem isPtr_171 : isPtr Tryz.prog 171 = false := by kernel_rfl
theorem isU8_171 : isU8 Tryz.prog 171 = false := by kernel_rfl
theorem isIfc_171 : isIfc Tryz.prog 171 = false := by kernel_rfl
theorem ifcT_171 : ifcT Tryz.prog 171 = false := by kernel_rfl
theorem seqT_171 : seqT Tryz.prog 171 = false := by kernel_rfl
theorem sliceable_171 : sliceable Tryz.prog 171 = false := by kernel_rfl
theorem szOf_177 : szOf Tryz.prog 177 = 256 := by kernel_rfl
theorem aggT_177 : aggT Tryz.prog 177 = some true := by kernel_rfl
theorem elemT_177 : elemT Tryz.prog 177 = none := by kernel_rfl
theorem bytesOf_177 : bytesOf Tryz.prog 177 = some 256 := by kernel_rfl
theorem arrT_177 : arrT Tryz.prog 177 = some (256, 4) := by kernel_rfl
theorem isStr_177 : isStr Tryz.prog 177 = false := by kernel_rfl
theorem isBool_177 : isBool Tryz.prog 177 = false := by kernel_rfl
theorem isPtr_177 : isPtr Tryz.prog 177 = false := by kernel_rfl
theorem isU8_177 : isU8 Tryz.prog 177 = false := by kernel_rfl
theorem isIfc_177 : isIfc Tryz.prog 177 = false := by kernel_rfl
theorem ifcT_177 : ifcT Tryz.prog 177 = false := by kernel_rfl
theorem fieldsOk_177 : fieldsOk Tryz.prog 177 = true := by kernel_rfl
theorem seqT_177 : seqT Tryz.prog 177 = false := by kernel_rfl
theorem sliceable_177 : sliceable Tryz.prog 177 = false := by kernel_rfl
theorem szOf_181 : szOf Tryz.prog 181 = 1 := by kernel_rfl
theorem aggT_181 : aggT Tryz.prog 181 = some false := by kernel_rfl
theorem elemT_181 : elemT Tryz.prog 181 = none := by kernel_rfl
theorem bytesOf_181 : bytesOf Tryz.prog 181 = some 8 := by kernel_rfl
theorem zeroOf_181 : zeroOf Tryz.prog 181 = some [A.nilp] := by kernel_rfl
theorem arrT_181 : arrT Tryz.prog 181 = none := by kernel_rfl
theorem isStr_181 : isStr Tryz.prog 181 = false := by kernel_rfl
theorem isBool_181 : isBool Tryz.prog 181 = false := by kernel_rfl
theorem isPtr_181 : isPtr Tryz.prog 181 = true := by kernel_rfl
theorem isU8_181 : isU8 Tryz.prog 181 = false := by kernel_rfl
theorem isIfc_181 : isIfc Tryz.prog 181 = false := by kernel_rfl
theorem ifcT_181 : ifcT Tryz.prog 181 = false := by kernel_rfl
theorem seqT_181 : seqT Tryz.prog 181 = false := by kernel_rfl
theorem sliceable_181 : sliceable Tryz.prog 181 = false := by kernel_rfl
theorem szOf_193 : szOf Tryz.prog 193 = 1 := by kernel_rfl
theorem aggT_193 : aggT Tryz.prog 193 = some false := by kernel_rfl
theorem elemT_193 : elemT Tryz.prog 193 = none := by kernel_rfl
theorem bytesOf_193 : bytesOf Tryz.prog 193 = some 8 := by kernel_rfl
theorem zeroOf_193 : zeroOf Tryz.prog 193 = some [A.nilf] := by kernel_rfl
theorem arrT_193 : arrT Tryz.prog 193 = none := by kernel_rfl
theorem isStr_193 : isStr Tryz.prog 193 = false := by kernel_rfl
theorem isBool_193 : isBool Tryz.prog 193 = false := by kernel_rfl
theorem isPtr_193 : isPtr Tryz.prog 193 = false := by kernel_rfl
theorem isU8_193 : isU8 Tryz.prog 193 = false := by kernel_rfl
theorem isIfc_193 : isIfc Tryz.prog 193 = false := by kernel_rfl
theorem ifcT_193 : ifcT Tryz.prog 193 = false := by kernel_rfl
theorem seqT_193 : seqT Tryz.prog 193 = false := by kernel_rfl
theorem sliceable_193 : sliceable Tryz.prog 193 = false := by kernel_rfl
theorem szOf_194 : szOf Tryz.prog 194 = 1 := by kernel_rfl
theorem aggT_194 : aggT Tryz.prog 194 = some false := by kernel_rfl
theorem elemT_194 : elemT Tryz.prog 194 = some 196 := by kernel_rfl
theorem bytesOf_194 : bytesOf Tryz.prog 194 = some 24 := by kernel_rfl
theorem zeroOf_194 : zeroOf Tryz.prog 194 = some [A.nils] := by kernel_rfl
theorem arrT_194 : arrT Tryz.prog 194 = none := by kernel_rfl
theorem isStr_194 : isStr Tryz.prog 194 = false := by kernel_rfl
theorem isBool_194 : isBool Tryz.prog 194 = false := by kernel_rfl
theorem isPtr_194 : isPtr Tryz.prog 194 = false := by kernel_rfl
theorem isU8_194 : isU8 Tryz.prog 194 = false := by kernel_rfl
theorem isIfc_194 : isIfc Tryz.prog 194 = false := by kernel_rfl
theorem ifcT_194 : ifcT Tryz.prog 194 = false := by kernel_rfl
theorem seqT_194 : seqT Tryz.prog 194 = true := by kernel_rfl
theorem sliceable_194 : sliceable Tryz.prog 194 = true := by kernel_rfl
theorem szOf_196 : szOf Tryz.prog 196 = 4 := by kernel_rfl
theorem aggT_196 : aggT Tryz.prog 196 = some true := by kernel_rfl
theorem elemT_196 : elemT Tryz.prog 196 = none := by kernel_rfl
theorem bytesOf_196 : bytesOf Tryz.prog 196 = some 64 := by kernel_rfl
theorem zeroOf_196 : zeroOf Tryz.prog 196 = some [A.int .i64 0, A.nils, A.nils, A.int .i64 0] := by kernel_rfl
theorem arrT_196 : arrT Tryz.prog 196 = none := by kernel_rfl
theorem fieldT_196_0 : fieldT Tryz.prog 196 0 = some (0, 47) := by kernel_rfl
theorem fieldT_196_1 : fieldT Tryz.prog 196 1 = some (3, 3) := by kernel_rfl
theorem isStr_196 : isStr Tryz.prog 196 = false := by kernel_rfl
theorem isBool_196 : isBool Tryz.prog 196 = false := by kernel_rfl
theorem isPtr_196 : isPtr Tryz.prog 196 = false := by kernel_rfl
theorem isU8_196 : isU8 Tryz.prog 196 = false := by kernel_rfl
theorem isIfc_196 : isIfc Tryz.prog 196 = false := by kernel_rfl
theorem ifcT_196 : ifcT Tryz.prog 196 = false := by kernel_rfl
theorem fieldsOk_196 : fieldsOk Tryz.prog 196 = true := by kernel_rfl
theorem seqT_196 : seqT Tryz.prog 196 = false := by kernel_rfl
theorem sliceable_196 : sliceable Tryz.prog 196 = false := by kernel_rfl
theorem szOf_198 : szOf Tryz.prog 198 = 1 := by kernel_rfl
theorem aggT_198 : aggT Tryz.prog 198 = some false := by kernel_rfl
theorem elemT_198 : elemT Tryz.prog 198 = none := by kernel_rfl
theorem bytesOf_198 : bytesOf Tryz.prog 198 = some 8 := by kernel_rfl
theorem zeroOf_198 : zeroOf Tryz.prog 198 = some [A.nilf] := by kernel_rfl
theorem arrT_198 : arrT Tryz.prog 198 = none := by kernel_rfl
theorem isStr_198 : isStr Tryz.prog 198 = false := by kernel_rfl
theorem isBool_198 : isBool Tryz.prog 198 = false := by kernel_rfl
theorem isPtr_198 : isPtr Tryz.prog 198 = false := by kernel_rfl
theorem isU8_198 : isU8 Tryz.prog 198 = false := by kernel_rfl
theorem isIfc_198 : isIfc Tryz.prog 198 = false := by kernel_rfl
theorem ifcT_198 : ifcT Tryz.prog 198 = false := by kernel_rfl
theorem seqT_198 : seqT Tryz.prog 198 = false := by kernel_rfl
theorem sliceable_198 : sliceable Tryz.prog 198 = false := by kernel_rfl
theorem szOf_201 : szOf Tryz.prog 201 = 2 := by kernel_rfl
theorem aggT_201 : aggT Tryz.prog 201 = some true := by kernel_rfl
theorem elemT_201 : elemT Tryz.prog 201 = none := by kernel_rfl
theorem bytesOf_201 : bytesOf Tryz.prog 201 = some 16 := by kernel_rfl
theorem zeroOf_201 : zeroOf Tryz.prog 201 = some [A.int .i64 0, A.int .i64 0] := by kernel_rfl
theorem arrT_201 : arrT Tryz.prog 201 = none := by kernel_rfl
theorem fieldT_201_0 : fieldT Tryz.prog 201 0 = some (0, 3) := by kernel_rfl
theorem fieldT_201_1 : fieldT Tryz.prog 201 1 = some (1, 3) := by kernel_rfl
theorem isStr_201 : isStr Tryz.prog 201 = false := by kernel_rfl
theorem isBool_201 : isBool Tryz.prog 201 = false := by kernel_rfl
theorem isPtr_201 : isPtr Tryz.prog 201 = false := by kernel_rfl
theorem isU8_201 : isU8 Tryz.prog 201 = false := by kernel_rfl
theorem isIfc_201 : isIfc Tryz.prog 201 = false := by kernel_rfl
theorem ifcT_201 : ifcT Tryz.prog 201 = false := by kernel_rfl
theorem fieldsOk_201 : fieldsOk Tryz.prog 201 = true := by kernel_rfl
theorem seqT_201 : seqT Tryz.prog 201 = false := by kernel_rfl
theorem sliceable_201 : sliceable Tryz.prog 201 = false := by kernel_rfl
theorem szOf_202 : szOf Tryz.prog 202 = 16 := by kernel_rfl
theorem aggT_202 : aggT Tryz.prog 202 = some true := by kernel_rfl
theorem elemT_202 : elemT Tryz.prog 202 = none := by kernel_rfl
theorem bytesOf_202 : bytesOf Tryz.prog 202 = some 128 := by kernel_rfl
theorem zeroOf_202 : zeroOf Tryz.prog 202 = some [A.int .i64 0, A.int .i64 0, A.int .i64 0, A.int .i64 0, A.int .i64 0, A.int .i64 0, A.int .i64 0, A.int .i64 0, A.int .i64 0, A.int .i64 0, A.int .i64 0, A.int .i64 0, A.int .i64 0, A.int .i64 0, A.int .i64 0, A.int .i64 0] := by kernel_rfl
theorem arrT_202 : arrT Tryz.prog 202 = some (8, 201) := by kernel_rfl
theorem isStr_202 : isStr Tryz.prog 202 = false := by kernel_rfl
theorem isBool_202 : isBool Tryz.prog 202 = false := by kernel_rfl
theorem isPtr_202 : isPtr Tryz.prog 202 = false := by kernel_rfl
theorem isU8_202 : isU8 Tryz.prog 202 = false := by kernel_rfl
theorem isIfc_202 : isIfc Tryz.prog 202 = false := by kernel_rfl
theorem ifcT_202 : ifcT Tryz.prog 202 = false := by kernel_rfl
theorem fieldsOk_202 : fieldsOk Tryz.prog 202 = true := by kernel_rfl
theorem seqT_202 : seqT Tryz.prog 202 = false := by kernel_rfl
theorem sliceable_202 : sliceable Tryz.prog 202 = false := by kernel_rfl
theorem szOf_203 : szOf Tryz.prog 203 = 24 := by kernel_rfl
theorem aggT_203 : aggT Tryz.prog 203 = some true := by kernel_rfl
theorem elemT_203 : elemT Tryz.prog 203 = none := by kernel_rfl
theorem bytesOf_203 : bytesOf Tryz.prog 203 = some 24 := by kernel_rfl
theorem zeroOf_203 : zeroOf Tryz.prog 203 = some [A.int .u8 0, A.int .u8 0, A.int .u8 0, A.int .u8 0, A.int .u8 0, A.int .u8 0, A.int .u8 0, A.int .u8 0, A.int .u8 0, A.int .u8 0, A.int .u8 0, A.int .u8 0, A.int .u8 0, A.int .u8 0, A.int .u8 0, A.int .u8 0, A.int .u8 0, A.int .u8 0, A.int .u8 0, A.int .u8 0, A.int .u8 0, A.int .u8 0, A.int .u8 0, A.int .u8 0] := by kernel_rfl
theorem arrT_203 : arrT Tryz.prog 203 = some (24, 5) := by kernel_rfl
theorem isStr_203 : isStr Tryz.prog 203 = false := by kernel_rfl
theorem isBool_203 : isBool Tryz.prog 203 = false := by kernel_rfl
theorem isPtr_203 : isPtr Tryz.prog 203 = false := by kernel_rfl
theorem isU8_203 : isU8 Tryz.prog 203 = false := by kernel_rfl
theorem isIfc_203 : isIfc Tryz.prog 203 = false := by kernel_rfl
theorem ifcT_203 : ifcT Tryz.prog 203 = false := by kernel_rfl
theorem fieldsOk_203 : fieldsOk Tryz.prog 203 = true := by kernel_rfl
theorem seqT_203 : seqT Tryz.prog 203 = false := by kernel_rfl
theorem sliceable_203 : sliceable Tryz.prog 203 = false := by kernel_rfl
theorem szOf_204 : szOf Tryz.prog 204 = 1 := by kernel_rfl
theorem aggT_204 : aggT Tryz.prog 204 = some false := by kernel_rfl
theorem elemT_204 : elemT Tryz.prog 204 = none := by kernel_rfl
theorem bytesOf_204 : bytesOf Tryz.prog 204 = some 8 := by kernel_rfl
theorem zeroOf_204 : zeroOf Tryz.prog 204 = some [A.int .u64 0] := by kernel_rfl
theorem arrT_204 : arrT Tryz.prog 204 = none := by kernel_rfl
theorem isStr_204 : isStr Tryz.prog 204 = false := by kernel_rfl
theorem isBool_204 : isBool Tryz.prog 204 = false := by kernel_rfl
theorem isPtr_204 : isPtr Tryz.prog 204 = false := by kernel_rfl
theorem isU8_204 : isU8 Tryz.prog 204 = false := by kernel_rfl
theorem isIfc_204 : isIfc Tryz.prog 204 = false := by kernel_rfl
theorem ifcT_204 : ifcT Tryz.prog 204 = false := by kernel_rfl
theorem seqT_204 : seqT Tryz.prog 204 = false := by kernel_rfl
theorem sliceable_204 : sliceable Tryz.prog 204 = false := by kernel_rfl
theorem szOf_215 : szOf Tryz.prog 215 = 1 := by kernel_rfl
theorem aggT_215 : aggT Tryz.prog 215 = some false := by kernel_rfl
theorem elemT_215 : elemT Tryz.prog 215 = none := by kernel_rfl
theorem bytesOf_215 : bytesOf Tryz.prog 215 = some 8 := by kernel_rfl
theorem zeroOf_215 : zeroOf Tryz.prog 215 = some [A.nilf] := by kernel_rfl
theorem arrT_215 : arrT Tryz.prog 215 = none := by kernel_rfl
theorem isStr_215 : isStr Tryz.prog 215 = false := by kernel_rfl
theorem isBool_215 : isBool Tryz.prog 215 = false := by kernel_rfl
theorem isPtr_215 : isPtr Tryz.prog 215 = false := by kernel_rfl
theorem isU8_215 : isU8 Tryz.prog 215 = false := by kernel_rfl
theorem isIfc_215 : isIfc Tryz.prog 215 = false := by kernel_rfl
theorem ifcT_215 : ifcT Tryz.prog 215 = false := by kernel_rfl
theorem seqT_215 : seqT Tryz.prog 215 = false := by kernel_rfl
theorem sliceable_215 : sliceable Tryz.prog 215 = false := by kernel_rfl
theorem szOf_222 : szOf Tryz.prog 222 = 1 := by kernel_rfl
theorem aggT_222 : aggT Tryz.prog 222 = some false := by kernel_rfl
theorem elemT_222 : elemT Tryz.prog 222 = none := by kernel_rfl
theorem bytesOf_222 : bytesOf Tryz.prog 222 = some 8 := by kernel_rfl
theorem zeroOf_222 : zeroOf Tryz.prog 222 = some [A.int .u64 0] := by kernel_rfl
theorem arrT_222 : arrT Tryz.prog 222 = none := by kernel_rfl
theorem isStr_222 : isStr Tryz.prog 222 = false := by kernel_rfl
theorem isBool_222 : isBool Tryz.prog 222 = false := by kernel_rfl
theorem isPtr_222 : isPtr Tryz.prog 222 = false := by kernel_rfl
theorem isU8_222 : isU8 Tryz.prog 222 = false := by kernel_rfl
theorem isIfc_222 : isIfc Tryz.prog 222 = false := by kernel_rfl
theorem ifcT_222 : ifcT Tryz.prog 222 = false := by kernel_rfl
theorem seqT_222 : seqT Tryz.prog 222 = false := by kernel_rfl
theorem sliceable_222 : sliceable Tryz.prog 222 = false := by kernel_rfl
theorem szOf_234 : szOf Tryz.prog 234 = 1 := by kernel_rfl
theorem aggT_234 : aggT Tryz.prog 234 = some false := by kernel_rfl
theorem elemT_234 : elemT Tryz.prog 234 = none := by kernel_rfl
theorem bytesOf_234 : bytesOf Tryz.prog 234 = some 8 := by kernel_rfl
theorem zeroOf_234 : zeroOf Tryz.prog 234 = some [A.int .i64 0] := by kernel_rfl
theorem arrT_234 : arrT Tryz.prog 234 = none := by kernel_rfl
theorem isStr_234 : isStr Tryz.prog 234 = false := by kernel_rfl
theorem isBool_234 : isBool Tryz.prog 234 = false := by kernel_rfl
theorem isPtr_234 : isPtr Tryz.prog 234 = false := by kernel_rfl
theorem isU8_234 : isU8 Tryz.prog 234 = false := by kernel_rfl
theorem isIfc_234 : isIfc Tryz.prog 234 = false := by kernel_rfl
theorem ifcT_234 : ifcT Tryz.prog 234 = false := by kernel_rfl
theorem seqT_234 : seqT Tryz.prog 234 = false := by kernel_rfl
theorem sliceable_234 : sliceable Tryz.prog 234 = false := by kernel_rfl
theorem szOf_249 : szOf Tryz.prog 249 = 1 := by kernel_rfl
theorem aggT_249 : aggT Tryz.prog 249 = some false := by kernel_rfl
theorem elemT_249 : elemT Tryz.prog 249 = none := by kernel_rfl
theorem bytesOf_249 : bytesOf Tryz.prog 249 = some 8 := by kernel_rfl
theorem zeroOf_249 : zeroOf Tryz.prog 249 = some [A.int .i64 0] := by kernel_rfl
theorem arrT_249 : arrT Tryz.prog 249 = none := by kernel_rfl
theorem isStr_249 : isStr Tryz.prog 249 = false := by kernel_rfl
theorem isBool_249 : isBool Tryz.prog 249 = false := by kernel_rfl
theorem isPtr_249 : isPtr Tryz.prog 249 = false := by kernel_rfl
theorem isU8_249 : isU8 Tryz.prog 249 = false := by kernel_rfl
theorem isIfc_249 : isIfc Tryz.prog 249 = false := by kernel_rfl
theorem ifcT_249 : ifcT Tryz.prog 249 = false := by kernel_rfl
theorem seqT_249 : seqT Tryz.prog 249 = false := by kernel_rfl
theorem sliceable_249 : sliceable Tryz.prog 249 = false := by kernel_rfl
theorem szOf_255 : szOf Tryz.prog 255 = 1 := by kernel_rfl
theorem aggT_255 : aggT Tryz.prog 255 = some false := by kernel_rfl
theorem elemT_255 : elemT Tryz.prog 255 = none := by kernel_rfl
theorem bytesOf_255 : bytesOf Tryz.prog 255 = some 8 := by kernel_rfl
theorem zeroOf_255 : zeroOf Tryz.prog 255 = some [A.int .u64 0] := by kernel_rfl
theorem arrT_255 : arrT Tryz.prog 255 = none := by kernel_rfl
theorem isStr_255 : isStr Tryz.prog 255 = false := by kernel_rfl
theorem isBool_255 : isBool Tryz.prog 255 = false := by kernel_rfl
theorem isPtr_255 : isPtr Tryz.prog 255 = false := by kernel_rfl
theorem isU8_255 : isU8 Tryz.prog 255 = false := by kernel_rfl
theorem isIfc_255 : isIfc Tryz.prog 255 = false := by kernel_rfl
theorem ifcT_255 : ifcT Tryz.prog 255 = false := by kernel_rfl
theorem seqT_255 : seqT Tryz.prog 255 = false := by kernel_rfl
theorem sliceable_255 : sliceable Tryz.prog 255 = false := by kernel_rfl
attribute [simp] szOf_1 aggT_1 elemT_1 bytesOf_1 zeroOf_1 arrT_1 isStr_1 isBool_1 isPtr_1 isU8_1 isIfc_1 ifcT_1 seqT_1 sliceable_1 szOf_2 aggT_2 elemT_2 bytesOf_2 zeroOf_2 arrT_2 isStr_2 isBool_2 isPtr_2 isU8_2 isIfc_2 ifcT_2 seqT_2 sliceable_2 szOf_3 aggT_3 elemT_3 bytesOf_3 zeroOf_3 arrT_3 isStr_3 isBool_3 isPtr_3 isU8_3 isIfc_3 ifcT_3 seqT_3 sliceable_3 szOf_4 aggT_4 elemT_4 bytesOf_4 zeroOf_4 arrT_4 isStr_4 isBool_4 isPtr_4 isU8_4 isIfc_4 ifcT_4 seqT_4 sliceable_4 szOf_5 aggT_5 elemT_5 bytesOf_5 zeroOf_5 arrT_5 isStr_5 isBool_5 isPtr_5 isU8_5 isIfc_5 ifcT_5 seqT_5 sliceable_5 szOf_9 aggT_9 elemT_9 bytesOf_9 zeroOf_9 arrT_9 isStr_9 isBool_9 isPtr_9 isU8_9 isIfc_9 ifcT_9 seqT_9 sliceable_9 szOf_10 aggT_10 elemT_10 bytesOf_10 zeroOf_10 arrT_10 isStr_10 isBool_10 isPtr_10 isU8_10 isIfc_10 ifcT_10 seqT_10 sliceable_10 szOf_20 aggT_20 elemT_20 bytesOf_20 zeroOf_20 arrT_20 isStr_20 isBool_20 isPtr_20 isU8_20 isIfc_20 ifcT_20 seqT_20 sliceable_20 szOf_21 aggT_21 elemT_21 bytesOf_21 zeroOf_21 arrT_21 isStr_21 isBool_21 isPtr_21 isU8_21 isIfc_21 ifcT_21 seqT_21 sliceable_21 szOf_22 aggT_22 elemT_22 bytesOf_22 zeroOf_22 arrT_22 isStr_22 isBool_22 isPtr_22 isU8_22 isIfc_22 ifcT_22 seqT_22 sliceable_22 szOf_24 aggT_24 elemT_24 bytesOf_24 zeroOf_24 arrT_24 fieldT_24_0 fieldT_24_1 fieldT_24_2 isStr_24 isBool_24 isPtr_24 isU8_24 isIfc_24 ifcT_24 fieldsOk_24 seqT_24 sliceable_24 szOf_25 aggT_25 elemT_25 bytesOf_25 zeroOf_25 arrT_25 isStr_25 isBool_25 isPtr_25 isU8_25 isIfc_25 ifcT_25 seqT_25 sliceable_25 szOf_27 aggT_27 elemT_27 bytesOf_27 zeroOf_27 arrT_27 fieldT_27_0 fieldT_27_1 isStr_27 isBool_27 isPtr_27 isU8_27 isIfc_27 ifcT_27 fieldsOk_27 seqT_27 sliceable_27 szOf_28 aggT_28 elemT_28 bytesOf_28 zeroOf_28 arrT_28 isStr_28 isBool_28 isPtr_28 isU8_28 isIfc_28 ifcT_28 seqT_28 sliceable_28 szOf_29 aggT_29 elemT_29 bytesOf_29 zeroOf_29 arrT_29 isStr_29 isBool_29 isPtr_29 isU8_29 isIfc_29 ifcT_29 seqT_29 sliceable_29 szOf_30 aggT_30 elemT_30 bytesOf_30 zeroOf_30 arrT_30 isStr_30 isBool_30 isPtr_30 isU8_30 isIfc_30 ifcT_30 seqT_30 sliceable_30 szOf_31 aggT_31 elemT_31 bytesOf_31 zeroOf_31 arrT_31 isStr_31 isBool_31 isPtr_31 isU8_31 isIfc_31 ifcT_31 seqT_31 sliceable_31 szOf_40 aggT_40 elemT_40 bytesOf_40 zeroOf_40 arrT_40 isStr_40 isBool_40 isPtr_40 isU8_40 isIfc_40 ifcT_40 seqT_40 sliceable_40 szOf_42 aggT_42 elemT_42 bytesOf_42 zeroOf_42 arrT_42 isStr_42 isBool_42 isPtr_42 isU8_42 isIfc_42 ifcT_42 seqT_42 sliceable_42 szOf_43 aggT_43 elemT_43 bytesOf_43 zeroOf_43 arrT_43 isStr_43 isBool_43 isPtr_43 isU8_43 isIfc_43 ifcT_43 seqT_43 sliceable_43 szOf_44 aggT_44 elemT_44 bytesOf_44 zeroOf_44 arrT_44 isStr_44 isBool_44 isPtr_44 isU8_44 isIfc_44 ifcT_44 seqT_44 sliceable_44 szOf_47 aggT_47 elemT_47 bytesOf_47 zeroOf_47 arrT_47 fieldT_47_0 fieldT_47_1 fieldT_47_2 isStr_47 isBool_47 isPtr_47 isU8_47 isIfc_47 ifcT_47 fieldsOk_47 seqT_47 sliceable_47 szOf_48 aggT_48 elemT_48 bytesOf_48 zeroOf_48 arrT_48 isStr_48 isBool_48 isPtr_48 isU8_48 isIfc_48 ifcT_48 seqT_48 sliceable_48 szOf_49 aggT_49 elemT_49 bytesOf_49 zeroOf_49 arrT_49 isStr_49 isBool_49 isPtr_49 isU8_49 isIfc_49 ifcT_49 seqT_49 sliceable_49 szOf_50 aggT_50 elemT_50 bytesOf_50 zeroOf_50 arrT_50 isStr_50 isBool_50 isPtr_50 isU8_50 isIfc_50 ifcT_50 seqT_50 sliceable_50 szOf_51 aggT_51 elemT_51 bytesOf_51 zeroOf_51 arrT_51 isStr_51 isBool_51 isPtr_51 isU8_51 isIfc_51 ifcT_51 seqT_51 sliceable_51 szOf_52 aggT_52 elemT_52 bytesOf_52 zeroOf_52 arrT_52 isStr_52 isBool_52 isPtr_52 isU8_52 isIfc_52 ifcT_52 seqT_52 sliceable_52 szOf_53 aggT_53 elemT_53 bytesOf_53 zeroOf_53 arrT_53 isStr_53 isBool_53 isPtr_53 isU8_53 isIfc_53 ifcT_53 seqT_53 sliceable_53 szOf_55 aggT_55 elemT_55 bytesOf_55 zeroOf_55 arrT_55 isStr_55 isBool_55 isPtr_55 isU8_55 isIfc_55 ifcT_55 seqT_55 sliceable_55 szOf_56 aggT_56 elemT_56 bytesOf_56 zeroOf_56 arrT_56 isStr_56 isBool_56 isPtr_56 isU8_56 isIfc_56 ifcT_56 seqT_56 sliceable_56 szOf_58 aggT_58 elemT_58 bytesOf_58 zeroOf_58 arrT_58 isStr_58 isBool_58 isPtr_58 isU8_58 isIfc_58 ifcT_58 seqT_58 sliceable_58 szOf_61 aggT_61 elemT_61 bytesOf_61 zeroOf_61 arrT_61 isStr_61 isBool_61 isPtr_61 isU8_61 isIfc_61 ifcT_61 seqT_61 sliceable_61 szOf_62 aggT_62 elemT_62 bytesOf_62 zeroOf_62 arrT_62 isStr_62 isBool_62 isPtr_62 isU8_62 isIfc_62 ifcT_62 seqT_62 sliceable_62 szOf_64 aggT_64 elemT_64 bytesOf_64 zeroOf_64 arrT_64 isStr_64 isBool_64 isPtr_64 isU8_64 isIfc_64 ifcT_64 seqT_64 sliceable_64 szOf_65 aggT_65 elemT_65 bytesOf_65 zeroOf_65 arrT_65 isStr_65 isBool_65 isPtr_65 isU8_65 isIfc_65 ifcT_65 seqT_65 sliceable_65 szOf_66 aggT_66 elemT_66 bytesOf_66 zeroOf_66 arrT_66 isStr_66 isBool_66 isPtr_66 isU8_66 isIfc_66 ifcT_66 seqT_66 sliceable_66 szOf_68 aggT_68 elemT_68 bytesOf_68 zeroOf_68 arrT_68 isStr_68 isBool_68 isPtr_68 isU8_68 isIfc_68 ifcT_68 seqT_68 sliceable_68 szOf_69 aggT_69 elemT_69 bytesOf_69 zeroOf_69 arrT_69 isStr_69 isBool_69 isPtr_69 isU8_69 isIfc_69 ifcT_69 seqT_69 sliceable_69 szOf_71 aggT_71 elemT_71 bytesOf_71 zeroOf_71 arrT_71 isStr_71 isBool_71 isPtr_71 isU8_71 isIfc_71 ifcT_71 seqT_71 sliceable_71 szOf_76 aggT_76 elemT_76 bytesOf_76 zeroOf_76 arrT_76 isStr_76 isBool_76 isPtr_76 isU8_76 isIfc_76 ifcT_76 seqT_76 sliceable_76 szOf_78 aggT_78 elemT_78 bytesOf_78 zeroOf_78 arrT_78 fieldT_78_0 fieldT_78_1 isStr_78 isBool_78 isPtr_78 isU8_78 isIfc_78 ifcT_78 fieldsOk_78 seqT_78 sliceable_78 szOf_80 aggT_80 elemT_80 bytesOf_80 zeroOf_80 arrT_80 isStr_80 isBool_80 isPtr_80 isU8_80 isIfc_80 ifcT_80 seqT_80 sliceable_80 szOf_88 aggT_88 elemT_88 bytesOf_88 zeroOf_88 arrT_88 isStr_88 isBool_88 isPtr_88 isU8_88 isIfc_88 ifcT_88 seqT_88 sliceable_88 szOf_90 aggT_90 elemT_90 bytesOf_90 zeroOf_90 arrT_90 isStr_90 isBool_90 isPtr_90 isU8_90 isIfc_90 ifcT_90 seqT_90 sliceable_90 szOf_91 aggT_91 elemT_91 bytesOf_91 zeroOf_91 arrT_91 isStr_91 isBool_91 isPtr_91 isU8_91 isIfc_91 ifcT_91 seqT_91 sliceable_91 szOf_93 aggT_93 elemT_93 bytesOf_93 zeroOf_93 arrT_93 isStr_93 isBool_93 isPtr_93 isU8_93 isIfc_93 ifcT_93 seqT_93 sliceable_93 szOf_97 aggT_97 elemT_97 bytesOf_97 zeroOf_97 arrT_97 isStr_97 isBool_97 isPtr_97 isU8_97 isIfc_97 ifcT_97 seqT_97 sliceable_97 szOf_99 aggT_99 elemT_99 bytesOf_99 zeroOf_99 arrT_99 isStr_99 isBool_99 isPtr_99 isU8_99 isIfc_99 ifcT_99 seqT_99 sliceable_99 szOf_100 aggT_100 elemT_100 bytesOf_100 zeroOf_100 arrT_100 isStr_100 isBool_100 isPtr_100 isU8_100 isIfc_100 ifcT_100 seqT_100 sliceable_100 szOf_101 aggT_101 elemT_101 bytesOf_101 zeroOf_101 arrT_101 isStr_101 isBool_101 isPtr_101 isU8_101 isIfc_101 ifcT_101 seqT_101 sliceable_101 szOf_102 aggT_102 elemT_102 bytesOf_102 zeroOf_102 arrT_102 isStr_102 isBool_102 isPtr_102 isU8_102 isIfc_102 ifcT_102 seqT_102 sliceable_102 szOf_103 aggT_103 elemT_103 bytesOf_103 zeroOf_103 arrT_103 isStr_103 isBool_103 isPtr_103 isU8_103 isIfc_103 ifcT_103 seqT_103 sliceable_103 szOf_104 aggT_104 elemT_104 bytesOf_104 zeroOf_104 arrT_104 isStr_104 isBool_104 isPtr_104 isU8_104 isIfc_104 ifcT_104 seqT_104 sliceable_104 szOf_105 aggT_105 elemT_105 bytesOf_105 zeroOf_105 arrT_105 isStr_105 isBool_105 isPtr_105 isU8_105 isIfc_105 ifcT_105 seqT_105 sliceable_105 szOf_106 aggT_106 elemT_106 bytesOf_106 zeroOf_106 arrT_106 isStr_106 isBool_106 isPtr_106 isU8_106 isIfc_106 ifcT_106 seqT_106 sliceable_106 szOf_107 aggT_107 elemT_107 bytesOf_107 zeroOf_107 arrT_107 isStr_107 isBool_107 isPtr_107 isU8_107 isIfc_107 ifcT_107 seqT_107 sliceable_107 szOf_108 aggT_108 elemT_108 bytesOf_108 zeroOf_108 arrT_108 isStr_108 isBool_108 isPtr_108 isU8_108 isIfc_108 ifcT_108 seqT_108 sliceable_108 szOf_109 aggT_109 elemT_109 bytesOf_109 zeroOf_109 arrT_109 isStr_109 isBool_109 isPtr_109 isU8_109 isIfc_109 ifcT_109 seqT_109 sliceable_109 szOf_110 aggT_110 elemT_110 bytesOf_110 zeroOf_110 arrT_110 isStr_110 isBool_110 isPtr_110 isU8_110 isIfc_110 ifcT_110 seqT_110 sliceable_110 szOf_111 aggT_111 elemT_111 bytesOf_111 zeroOf_111 arrT_111 isStr_111 isBool_111 isPtr_111 isU8_111 isIfc_111 ifcT_111 seqT_111 sliceable_111 szOf_112 aggT_112 elemT_112 bytesOf_112 zeroOf_112 arrT_112 isStr_112 isBool_112 isPtr_112 isU8_112 isIfc_112 ifcT_112 seqT_112 sliceable_112 szOf_113 aggT_113 elemT_113 bytesOf_113 zeroOf_113 arrT_113 isStr_113 isBool_113 isPtr_113 isU8_113 isIfc_113 ifcT_113 seqT_113 sliceable_113 szOf_114 aggT_114 elemT_114 bytesOf_114 zeroOf_114 arrT_114 isStr_114 isBool_114 isPtr_114 isU8_114 isIfc_114 ifcT_114 seqT_114 sliceable_114 szOf_115 aggT_115 elemT_115 bytesOf_115 zeroOf_115 arrT_115 isStr_115 isBool_115 isPtr_115 isU8_115 isIfc_115 ifcT_115 seqT_115 sliceable_115 szOf_116 aggT_116 elemT_116 bytesOf_116 zeroOf_116 arrT_116 isStr_116 isBool_116 isPtr_116 isU8_116 isIfc_116 ifcT_116 seqT_116 sliceable_116 szOf_117 aggT_117 elemT_117 bytesOf_117 zeroOf_117 arrT_117 isStr_117 isBool_117 isPtr_117 isU8_117 isIfc_117 ifcT_117 seqT_117 sliceable_117 szOf_118 aggT_118 elemT_118 bytesOf_118 zeroOf_118 arrT_118 isStr_118 isBool_118 isPtr_118 isU8_118 isIfc_118 ifcT_118 seqT_118 sliceable_118 szOf_119 aggT_119 elemT_119 bytesOf_119 zeroOf_119 arrT_119 isStr_119 isBool_119 isPtr_119 isU8_119 isIfc_119 ifcT_119 seqT_119 sliceable_119 szOf_120 aggT_120 elemT_120 bytesOf_120 zeroOf_120 arrT_120 isStr_120 isBool_120 isPtr_120 isU8_120 isIfc_120 ifcT_120 seqT_120 sliceable_120 szOf_121 aggT_121 elemT_121 bytesOf_121 zeroOf_121 arrT_121 isStr_121 isBool_121 isPtr_121 isU8_121 isIfc_121 ifcT_121 seqT_121 sliceable_121 szOf_122 aggT_122 elemT_122 bytesOf_122 zeroOf_122 arrT_122 isStr_122 isBool_122 isPtr_122 isU8_122 isIfc_122 ifcT_122 seqT_122 sliceable_122 szOf_125 aggT_125 elemT_125 bytesOf_125 zeroOf_125 arrT_125 isStr_125 isBool_125 isPtr_125 isU8_125 isIfc_125 ifcT_125 seqT_125 sliceable_125 szOf_126 aggT_126 elemT_126 bytesOf_126 zeroOf_126 arrT_126 isStr_126 isBool_126 isPtr_126 isU8_126 isIfc_126 ifcT_126 seqT_126 sliceable_126 szOf_128 aggT_128 elemT_128 bytesOf_128 zeroOf_128 arrT_128 isStr_128 isBool_128 isPtr_128 isU8_128 isIfc_128 ifcT_128 seqT_128 sliceable_128 szOf_133 aggT_133 elemT_133 bytesOf_133 zeroOf_133 arrT_133 isStr_133 isBool_133 isPtr_133 isU8_133 isIfc_133 ifcT_133 fieldsOk_133 seqT_133 sliceable_133 szOf_135 aggT_135 elemT_135 bytesOf_135 zeroOf_135 arrT_135 isStr_135 isBool_135 isPtr_135 isU8_135 isIfc_135 ifcT_135 seqT_135 sliceable_135 szOf_137 aggT_137 elemT_137 bytesOf_137 zeroOf_137 arrT_137 fieldT_137_0 isStr_137 isBool_137 isPtr_137 isU8_137 isIfc_137 ifcT_137 fieldsOk_137 seqT_137 sliceable_137 szOf_140 aggT_140 elemT_140 bytesOf_140 zeroOf_140 arrT_140 isStr_140 isBool_140 isPtr_140 isU8_140 isIfc_140 ifcT_140 fieldsOk_140 seqT_140 sliceable_140 szOf_142 aggT_142 elemT_142 bytesOf_142 zeroOf_142 arrT_142 isStr_142 isBool_142 isPtr_142 isU8_142 isIfc_142 ifcT_142 seqT_142 sliceable_142 szOf_144 aggT_144 elemT_144 bytesOf_144 zeroOf_144 arrT_144 fieldT_144_0 isStr_144 isBool_144 isPtr_144 isU8_144 isIfc_144 ifcT_144 fieldsOk_144 seqT_144 sliceable_144 szOf_148 aggT_148 elemT_148 bytesOf_148 zeroOf_148 arrT_148 isStr_148 isBool_148 isPtr_148 isU8_148 isIfc_148 ifcT_148 seqT_148 sliceable_148 szOf_150 aggT_150 elemT_150 bytesOf_150 zeroOf_150 arrT_150 fieldT_150_0 fieldT_150_1 isStr_150 isBool_150 isPtr_150 isU8_150 isIfc_150 ifcT_150 fieldsOk_150 seqT_150 sliceable_150 szOf_156 aggT_156 elemT_156 bytesOf_156 zeroOf_156 arrT_156 isStr_156 isBool_156 isPtr_156 isU8_156 isIfc_156 ifcT_156 seqT_156 sliceable_156 szOf_161 aggT_161 elemT_161 bytesOf_161 zeroOf_161 arrT_161 isStr_161 isBool_161 isPtr_161 isU8_161 isIfc_161 ifcT_161 seqT_161 sliceable_161 szOf_166 aggT_166 elemT_166 bytesOf_166 zeroOf_166 arrT_166 isStr_166 isBool_166 isPtr_166 isU8_166 isIfc_166 ifcT_166 seqT_166 sliceable_166 szOf_167 aggT_167 elemT_167 bytesOf_167 zeroOf_167 arrT_167 isStr_167 isBool_167 isPtr_167 isU8_167 isIfc_167 ifcT_167 seqT_167 sliceable_167 szOf_169 aggT_169 elemT_169 bytesOf_169 zeroOf_169 arrT_169 fieldT_169_0 fieldT_169_1 fieldT_169_2 isStr_169 isBool_169 isPtr_169 isU8_169 isIfc_169 ifcT_169 fieldsOk_169 seqT_169 sliceable_169 szOf_171 aggT_171 elemT_171 bytesOf_171 zeroOf_171 arrT_171 isStr_171 isBool_171 isPtr_171 isU8_171 isIfc_171 ifcT_171 seqT_171 sliceable_171 szOf_177 aggT_177 elemT_177 bytesOf_177 arrT_177 isStr_177 isBool_177 isPtr_177 isU8_177 isIfc_177 ifcT_177 fieldsOk_177 seqT_177 sliceable_177 szOf_181 aggT_181 elemT_181 bytesOf_181 zeroOf_181 arrT_181 isStr_181 isBool_181 isPtr_181 isU8_181 isIfc_181 ifcT_181 seqT_181 sliceable_181 szOf_193 aggT_193 elemT_193 bytesOf_193 zeroOf_193 arrT_193 isStr_193 isBool_193 isPtr_193 isU8_193 isIfc_193 ifcT_193 seqT_193 sliceable_193 szOf_194 aggT_194 elemT_194 bytesOf_194 zeroOf_194 arrT_194 isStr_194 isBool_194 isPtr_194 isU8_194 isIfc_194 ifcT_194 seqT_194 sliceable_194 szOf_196 aggT_196 elemT_196 bytesOf_196 zeroOf_196 arrT_196 fieldT_196_0 fieldT_196_1 isStr_196 isBool_196 isPtr_196 isU8_196 isIfc_196 ifcT_196 fieldsOk_196 seqT_196 sliceable_196 szOf_198 aggT_198 elemT_198 bytesOf_198 zeroOf_198 arrT_198 isStr_198 isBool_198 isPtr_198 isU8_198 isIfc_198 ifcT_198 seqT_198 sliceable_198 szOf_201 aggT_201 elemT_201 bytesOf_201 zeroOf_201 arrT_201 fieldT_201_0 fieldT_201_1 isStr_201 isBool_201 isPtr_201 isU8_201 isIfc_201 ifcT_201 fieldsOk_201 seqT_201 sliceable_201 szOf_202 aggT_202 elemT_202 bytesOf_202 zeroOf_202 arrT_202 isStr_202 isBool_202 isPtr_202 isU8_202 isIfc_202 ifcT_202 fieldsOk_202 seqT_202 sliceable_202 szOf_203 aggT_203 elemT_203 bytesOf_203 zeroOf_203 arrT_203 isStr_203 isBool_203 isPtr_203 isU8_203 isIfc_203 ifcT_203 fieldsOk_203 seqT_203 sliceable_203 szOf_204 aggT_204 elemT_204 bytesOf_204 zeroOf_204 arrT_204 isStr_204 isBool_204 isPtr_204 isU8_204 isIfc_204 ifcT_204 seqT_204 sliceable_204 szOf_215 aggT_215 elemT_215 bytesOf_215 zeroOf_215 arrT_215 isStr_215 isBool_215 isPtr_215 isU8_215 isIfc_215 ifcT_215 seqT_215 sliceable_215 szOf_222 aggT_222 elemT_222 bytesOf_222 zeroOf_222 arrT_222 isStr_222 isBool_222 isPtr_222 isU8_222 isIfc_222 ifcT_222 seqT_222 sliceable_222 szOf_234 aggT_234 elemT_234 bytesOf_234 zeroOf_234 arrT_234 isStr_234 isBool_234 isPtr_234 isU8_234 isIfc_234 ifcT_234 seqT_234 sliceable_234 szOf_249 aggT_249 elemT_249 bytesOf_249 zeroOf_249 arrT_249 isStr_249 isBool_249 isPtr_249 isU8_249 isIfc_249 ifcT_249 seqT_249 sliceable_249 szOf_255 aggT_255 elemT_255 bytesOf_255 zeroOf_255 arrT_255 isStr_255 isBool_255 isPtr_255 isU8_255 isIfc_255 ifcT_255 seqT_255 sliceable_255
attribute [simp] Tryz.underlying2 Tryz.underlying3 Tryz.underlying4 Tryz.underlying5 Tryz.underlying6 Tryz.underlying7 Tryz.underlying8 Tryz.underlying9 Tryz.underlying10 Tryz.underlying11 Tryz.underlying12 Tryz.underlying13 Tryz.underlying14 Tryz.underlying15 Tryz.underlying16 Tryz.underlying17 Tryz.underlying18 Tryz.underlying19 Tryz.underlying20 Tryz.underlying21 Tryz.underlying22 Tryz.underlying23 Tryz.underlying24 Tryz.underlying25 Tryz.underlying26 Tryz.underlying27 Tryz.underlying28 Tryz.underlying31 Tryz.underlying40 Tryz.underlying46 Tryz.underlying47 Tryz.underlying62 Tryz.underlying64 Tryz.underlying76 Tryz.underlying77 Tryz.underlying78 Tryz.underlying79 Tryz.underlying80 Tryz.underlying88 Tryz.underlying111 Tryz.underlying116 Tryz.underlying126 Tryz.underlying132 Tryz.underlying133 Tryz.underlying135 Tryz.underlying136 Tryz.underlying137 Tryz.underlying140 Tryz.underlying142 Tryz.underlying143 Tryz.underlying144 Tryz.underlying148 Tryz.underlying149 Tryz.underlying150 Tryz.underlying166 Tryz.underlying167 Tryz.underlying168 Tryz.underlying169 Tryz.underlying171 Tryz.underlying176 Tryz.underlying177 Tryz.underlying181 Tryz.underlying194 Tryz.underlying195 Tryz.underlying196 Tryz.underlying200 Tryz.underlying201 Tryz.underlying202 Tryz.underlying203 Tryz.underlying204 Tryz.underlying222 Tryz.underlying225 Tryz.underlying226 Tryz.underlying227 Tryz.underlying234 Tryz.underlying244 Tryz.underlying245 Tryz.underlying246 Tryz.underlying247 Tryz.underlying249 Tryz.underlying252 Tryz.underlying255 Tryz.underlying260 Tryz.underlying261 Tryz.underlying264 Tryz.underlying265 Tryz.underlying267 Tryz.underlying270 Tryz.underlying271 Tryz.underlying272 Tryz.underlying273 Tryz.underlying274 Tryz.underlying275 Tryz.underlying276 Tryz.underlying277 Tryz.underlying278 Tryz.underlying279 Tryz.underlying281 Tryz.underlying282 Tryz.underlying283 Tryz.underlying284
end AE
end Go.Proofs.YtmfdpijmholedaaGreatDoor
