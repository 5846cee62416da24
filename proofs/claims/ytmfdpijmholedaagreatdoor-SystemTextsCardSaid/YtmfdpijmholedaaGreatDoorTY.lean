/- Printed by wip/types.py: what the evaluator asks of each type. -/
import Derived.Test.YtmfdpijmholedaaGreatDoorAE1
namespace Go.Proofs.YtmfdpijmholedaaGreatDoor
namespace AE
open Go
noncomputable abbrev Q:Program:=Tryz.prog
abbrev TyR(t s:Nat)(e:Option TypeId)(b:Nat)(z:List A)(p q:Bool):Prop:=ao Q t=s∧dV Q t=some false∧bI Q t=e∧bt Q t=some b∧bk Q t=some z∧ga Q t=none∧di Q t=false∧cv Q t=false∧dM Q t=p∧gJ Q t=false∧dN Q t=false∧gu Q t=false∧ie Q t=q∧aX Q t=q
theorem ty_1:TyR 1 1 none 8 [A.nilf] false false:=by and_intros<;>kernel_rfl
theorem ty_2:TyR 2 1 none 8 [A.int .i64 0] false false:=by and_intros<;>kernel_rfl
theorem ty_3:TyR 3 1 none 8 [A.int .i64 0] false false:=by and_intros<;>kernel_rfl
theorem ty_4:ao Q 4=1∧dV Q 4=some false∧bI Q 4=none∧bt Q 4=some 1∧bk Q 4=some [A.bool false]∧ga Q 4=none∧di Q 4=false∧cv Q 4=true∧dM Q 4=false∧gJ Q 4=false∧dN Q 4=false∧gu Q 4=false∧ie Q 4=false∧aX Q 4=false:=by and_intros<;>kernel_rfl
theorem ty_5:ao Q 5=1∧dV Q 5=some false∧bI Q 5=none∧bt Q 5=some 1∧bk Q 5=some [A.int .u8 0]∧ga Q 5=none∧di Q 5=false∧cv Q 5=false∧dM Q 5=false∧gJ Q 5=true∧dN Q 5=false∧gu Q 5=false∧ie Q 5=false∧aX Q 5=false:=by and_intros<;>kernel_rfl
theorem ty_9:ao Q 9=1∧dV Q 9=some false∧bI Q 9=none∧bt Q 9=some 16∧bk Q 9=some [A.str []]∧ga Q 9=none∧di Q 9=true∧cv Q 9=false∧dM Q 9=false∧gJ Q 9=false∧dN Q 9=false∧gu Q 9=false∧ie Q 9=true∧aX Q 9=true:=by and_intros<;>kernel_rfl
theorem ty_10:ao Q 10=1∧dV Q 10=some false∧bI Q 10=none∧bt Q 10=some 16∧bk Q 10=some [A.str []]∧ga Q 10=none∧di Q 10=true∧cv Q 10=false∧dM Q 10=false∧gJ Q 10=false∧dN Q 10=false∧gu Q 10=false∧ie Q 10=true∧aX Q 10=true:=by and_intros<;>kernel_rfl
theorem ty_20:ao Q 20=1∧dV Q 20=some false∧bI Q 20=none∧bt Q 20=some 16∧bk Q 20=some [A.nili]∧ga Q 20=none∧di Q 20=false∧cv Q 20=false∧dM Q 20=false∧gJ Q 20=false∧dN Q 20=true∧gu Q 20=true∧ie Q 20=false∧aX Q 20=false:=by and_intros<;>kernel_rfl
theorem ty_21:TyR 21 1 none 4 [A.int .i32 0] false false:=by and_intros<;>kernel_rfl
theorem ty_22:TyR 22 1 (some 24) 24 [A.nils] false true:=by and_intros<;>kernel_rfl
theorem ty_24:ao Q 24=3∧dV Q 24=some true∧bI Q 24=none∧bt Q 24=some 40∧bk Q 24=some [A.int .i64 0,A.int .i64 0,A.nils]∧ga Q 24=none∧bB Q 24 0=some (0,3)∧bB Q 24 1=some (1,3)∧bB Q 24 2=some (2,22)∧di Q 24=false∧cv Q 24=false∧dM Q 24=false∧gJ Q 24=false∧dN Q 24=false∧gu Q 24=false∧bQ Q 24=true∧ie Q 24=false∧aX Q 24=false:=by and_intros<;>kernel_rfl
theorem ty_25:TyR 25 1 (some 47) 24 [A.nils] false true:=by and_intros<;>kernel_rfl
theorem ty_27:ao Q 27=4∧dV Q 27=some true∧bI Q 27=none∧bt Q 27=some 64∧bk Q 27=some [A.int .i64 0,A.int .i64 0,A.nils,A.nils]∧ga Q 27=none∧bB Q 27 0=some (0,24)∧bB Q 27 1=some (3,25)∧di Q 27=false∧cv Q 27=false∧dM Q 27=false∧gJ Q 27=false∧dN Q 27=false∧gu Q 27=false∧bQ Q 27=true∧ie Q 27=false∧aX Q 27=false:=by and_intros<;>kernel_rfl
theorem ty_28:TyR 28 1 (some 3) 24 [A.nils] false true:=by and_intros<;>kernel_rfl
theorem ty_29:TyR 29 1 none 8 [A.nilf] false false:=by and_intros<;>kernel_rfl
theorem ty_30:TyR 30 1 none 8 [A.nilf] false false:=by and_intros<;>kernel_rfl
theorem ty_31:TyR 31 1 none 8 [A.int .i64 0] false false:=by and_intros<;>kernel_rfl
theorem ty_40:TyR 40 1 (some 5) 24 [A.nils] false true:=by and_intros<;>kernel_rfl
theorem ty_42:TyR 42 1 none 8 [A.nilf] false false:=by and_intros<;>kernel_rfl
theorem ty_43:TyR 43 1 none 8 [A.nilf] false false:=by and_intros<;>kernel_rfl
theorem ty_44:TyR 44 1 none 8 [A.nilf] false false:=by and_intros<;>kernel_rfl
theorem ty_47:ao Q 47=3∧dV Q 47=some true∧bI Q 47=none∧bt Q 47=some 56∧bk Q 47=some [A.int .i64 0,A.nils,A.nils]∧ga Q 47=none∧bB Q 47 0=some (0,3)∧bB Q 47 1=some (1,25)∧bB Q 47 2=some (2,28)∧di Q 47=false∧cv Q 47=false∧dM Q 47=false∧gJ Q 47=false∧dN Q 47=false∧gu Q 47=false∧bQ Q 47=true∧ie Q 47=false∧aX Q 47=false:=by and_intros<;>kernel_rfl
theorem ty_48:TyR 48 1 none 8 [A.nilf] false false:=by and_intros<;>kernel_rfl
theorem ty_49:TyR 49 1 none 8 [A.nilf] false false:=by and_intros<;>kernel_rfl
theorem ty_50:TyR 50 1 none 8 [A.nilf] false false:=by and_intros<;>kernel_rfl
theorem ty_51:TyR 51 1 none 8 [A.nilf] false false:=by and_intros<;>kernel_rfl
theorem ty_52:TyR 52 1 none 8 [A.nilf] false false:=by and_intros<;>kernel_rfl
theorem ty_53:TyR 53 1 none 8 [A.nilf] false false:=by and_intros<;>kernel_rfl
theorem ty_55:TyR 55 1 none 8 [A.nilf] false false:=by and_intros<;>kernel_rfl
theorem ty_56:TyR 56 1 none 8 [A.nilf] false false:=by and_intros<;>kernel_rfl
theorem ty_58:TyR 58 1 none 8 [A.nilf] false false:=by and_intros<;>kernel_rfl
theorem ty_61:TyR 61 1 none 8 [A.nilf] false false:=by and_intros<;>kernel_rfl
theorem ty_62:TyR 62 1 none 8 [A.nilp] true false:=by and_intros<;>kernel_rfl
theorem ty_64:TyR 64 1 (some 27) 24 [A.nils] false true:=by and_intros<;>kernel_rfl
theorem ty_65:TyR 65 1 none 8 [A.nilf] false false:=by and_intros<;>kernel_rfl
theorem ty_66:TyR 66 1 none 8 [A.nilf] false false:=by and_intros<;>kernel_rfl
theorem ty_68:TyR 68 1 none 8 [A.nilf] false false:=by and_intros<;>kernel_rfl
theorem ty_69:TyR 69 1 none 8 [A.nilf] false false:=by and_intros<;>kernel_rfl
theorem ty_71:TyR 71 1 none 8 [A.nilf] false false:=by and_intros<;>kernel_rfl
theorem ty_76:TyR 76 1 none 8 [A.nilp] true false:=by and_intros<;>kernel_rfl
theorem ty_78:ao Q 78=2∧dV Q 78=some true∧bI Q 78=none∧bt Q 78=some 32∧bk Q 78=some [A.nilp,A.nils]∧ga Q 78=none∧bB Q 78 0=some (0,76)∧bB Q 78 1=some (1,40)∧di Q 78=false∧cv Q 78=false∧dM Q 78=false∧gJ Q 78=false∧dN Q 78=false∧gu Q 78=false∧bQ Q 78=true∧ie Q 78=false∧aX Q 78=false:=by and_intros<;>kernel_rfl
theorem ty_80:ao Q 80=1∧dV Q 80=some false∧bI Q 80=none∧bt Q 80=some 16∧bk Q 80=some [A.nili]∧ga Q 80=none∧di Q 80=false∧cv Q 80=false∧dM Q 80=false∧gJ Q 80=false∧dN Q 80=true∧gu Q 80=true∧ie Q 80=false∧aX Q 80=false:=by and_intros<;>kernel_rfl
theorem ty_88:TyR 88 1 (some 9) 24 [A.nils] false true:=by and_intros<;>kernel_rfl
theorem ty_90:TyR 90 1 none 8 [A.nilf] false false:=by and_intros<;>kernel_rfl
theorem ty_91:TyR 91 1 none 8 [A.nilf] false false:=by and_intros<;>kernel_rfl
theorem ty_93:TyR 93 1 none 8 [A.nilf] false false:=by and_intros<;>kernel_rfl
theorem ty_97:TyR 97 1 none 8 [A.nilf] false false:=by and_intros<;>kernel_rfl
theorem ty_99:TyR 99 1 none 8 [A.nilf] false false:=by and_intros<;>kernel_rfl
theorem ty_100:TyR 100 1 none 8 [A.nilf] false false:=by and_intros<;>kernel_rfl
theorem ty_101:TyR 101 1 none 8 [A.nilf] false false:=by and_intros<;>kernel_rfl
theorem ty_102:TyR 102 1 none 8 [A.nilf] false false:=by and_intros<;>kernel_rfl
theorem ty_103:TyR 103 1 none 8 [A.nilf] false false:=by and_intros<;>kernel_rfl
theorem ty_104:TyR 104 1 none 8 [A.nilf] false false:=by and_intros<;>kernel_rfl
theorem ty_105:TyR 105 1 none 8 [A.nilf] false false:=by and_intros<;>kernel_rfl
theorem ty_106:TyR 106 1 none 8 [A.nilf] false false:=by and_intros<;>kernel_rfl
theorem ty_107:TyR 107 1 none 8 [A.nilf] false false:=by and_intros<;>kernel_rfl
theorem ty_108:TyR 108 1 none 8 [A.nilf] false false:=by and_intros<;>kernel_rfl
theorem ty_109:TyR 109 1 none 8 [A.nilf] false false:=by and_intros<;>kernel_rfl
theorem ty_110:TyR 110 1 none 8 [A.nilf] false false:=by and_intros<;>kernel_rfl
theorem ty_111:TyR 111 1 (some 4) 24 [A.nils] false true:=by and_intros<;>kernel_rfl
theorem ty_112:TyR 112 1 none 8 [A.nilf] false false:=by and_intros<;>kernel_rfl
theorem ty_113:TyR 113 1 none 8 [A.nilf] false false:=by and_intros<;>kernel_rfl
theorem ty_114:TyR 114 1 none 8 [A.nilf] false false:=by and_intros<;>kernel_rfl
theorem ty_115:TyR 115 1 none 8 [A.nilf] false false:=by and_intros<;>kernel_rfl
theorem ty_116:TyR 116 1 none 8 [A.nilp] true false:=by and_intros<;>kernel_rfl
theorem ty_117:TyR 117 1 none 8 [A.nilf] false false:=by and_intros<;>kernel_rfl
theorem ty_118:TyR 118 1 none 8 [A.nilf] false false:=by and_intros<;>kernel_rfl
theorem ty_119:TyR 119 1 none 8 [A.nilf] false false:=by and_intros<;>kernel_rfl
theorem ty_120:TyR 120 1 none 8 [A.nilf] false false:=by and_intros<;>kernel_rfl
theorem ty_121:TyR 121 1 none 8 [A.nilf] false false:=by and_intros<;>kernel_rfl
theorem ty_122:TyR 122 1 none 8 [A.nilf] false false:=by and_intros<;>kernel_rfl
theorem ty_125:TyR 125 1 none 8 [A.nilf] false false:=by and_intros<;>kernel_rfl
theorem ty_126:TyR 126 1 none 8 [A.nilp] true false:=by and_intros<;>kernel_rfl
theorem ty_128:TyR 128 1 none 8 [A.nilf] false false:=by and_intros<;>kernel_rfl
theorem ty_133:ao Q 133=0∧dV Q 133=some true∧bI Q 133=none∧bt Q 133=some 0∧bk Q 133=some []∧ga Q 133=none∧di Q 133=false∧cv Q 133=false∧dM Q 133=false∧gJ Q 133=false∧dN Q 133=false∧gu Q 133=false∧bQ Q 133=true∧ie Q 133=false∧aX Q 133=false:=by and_intros<;>kernel_rfl
theorem ty_135:TyR 135 1 none 8 [A.nilp] true false:=by and_intros<;>kernel_rfl
theorem ty_137:ao Q 137=1∧dV Q 137=some true∧bI Q 137=none∧bt Q 137=some 16∧bk Q 137=some [A.str []]∧ga Q 137=none∧bB Q 137 0=some (0,9)∧di Q 137=false∧cv Q 137=false∧dM Q 137=false∧gJ Q 137=false∧dN Q 137=false∧gu Q 137=false∧bQ Q 137=true∧ie Q 137=false∧aX Q 137=false:=by and_intros<;>kernel_rfl
theorem ty_140:ao Q 140=0∧dV Q 140=some true∧bI Q 140=none∧bt Q 140=some 0∧bk Q 140=some []∧ga Q 140=none∧di Q 140=false∧cv Q 140=false∧dM Q 140=false∧gJ Q 140=false∧dN Q 140=false∧gu Q 140=false∧bQ Q 140=true∧ie Q 140=false∧aX Q 140=false:=by and_intros<;>kernel_rfl
theorem ty_142:TyR 142 1 none 8 [A.nilp] true false:=by and_intros<;>kernel_rfl
theorem ty_144:ao Q 144=1∧dV Q 144=some true∧bI Q 144=none∧bt Q 144=some 16∧bk Q 144=some [A.str []]∧ga Q 144=none∧bB Q 144 0=some (0,9)∧di Q 144=false∧cv Q 144=false∧dM Q 144=false∧gJ Q 144=false∧dN Q 144=false∧gu Q 144=false∧bQ Q 144=true∧ie Q 144=false∧aX Q 144=false:=by and_intros<;>kernel_rfl
theorem ty_148:TyR 148 1 none 8 [A.nilp] true false:=by and_intros<;>kernel_rfl
theorem ty_150:ao Q 150=2∧dV Q 150=some true∧bI Q 150=none∧bt Q 150=some 32∧bk Q 150=some [A.nils,A.bool false]∧ga Q 150=none∧bB Q 150 0=some (0,88)∧bB Q 150 1=some (1,4)∧di Q 150=false∧cv Q 150=false∧dM Q 150=false∧gJ Q 150=false∧dN Q 150=false∧gu Q 150=false∧bQ Q 150=true∧ie Q 150=false∧aX Q 150=false:=by and_intros<;>kernel_rfl
theorem ty_156:TyR 156 1 none 8 [A.nilf] false false:=by and_intros<;>kernel_rfl
theorem ty_161:TyR 161 1 none 8 [A.nilf] false false:=by and_intros<;>kernel_rfl
theorem ty_166:TyR 166 1 none 8 [A.nilp] true false:=by and_intros<;>kernel_rfl
theorem ty_167:TyR 167 1 none 8 [A.nilp] true false:=by and_intros<;>kernel_rfl
theorem ty_169:ao Q 169=3∧dV Q 169=some true∧bI Q 169=none∧bt Q 169=some 24∧bk Q 169=some [A.int .i64 0,A.int .i64 0,A.bool false]∧ga Q 169=none∧bB Q 169 0=some (0,3)∧bB Q 169 1=some (1,3)∧bB Q 169 2=some (2,4)∧di Q 169=false∧cv Q 169=false∧dM Q 169=false∧gJ Q 169=false∧dN Q 169=false∧gu Q 169=false∧bQ Q 169=true∧ie Q 169=false∧aX Q 169=false:=by and_intros<;>kernel_rfl
theorem ty_171:TyR 171 1 none 8 [A.nilp] false false:=by and_intros<;>kernel_rfl
theorem ty_177:ao Q 177=256∧dV Q 177=some true∧bI Q 177=none∧bt Q 177=some 256∧ga Q 177=some (256,4)∧di Q 177=false∧cv Q 177=false∧dM Q 177=false∧gJ Q 177=false∧dN Q 177=false∧gu Q 177=false∧bQ Q 177=true∧ie Q 177=false∧aX Q 177=false:=by and_intros<;>kernel_rfl
theorem ty_181:TyR 181 1 none 8 [A.nilp] true false:=by and_intros<;>kernel_rfl
theorem ty_193:TyR 193 1 none 8 [A.nilf] false false:=by and_intros<;>kernel_rfl
theorem ty_194:TyR 194 1 (some 196) 24 [A.nils] false true:=by and_intros<;>kernel_rfl
theorem ty_196:ao Q 196=4∧dV Q 196=some true∧bI Q 196=none∧bt Q 196=some 64∧bk Q 196=some [A.int .i64 0,A.nils,A.nils,A.int .i64 0]∧ga Q 196=none∧bB Q 196 0=some (0,47)∧bB Q 196 1=some (3,3)∧di Q 196=false∧cv Q 196=false∧dM Q 196=false∧gJ Q 196=false∧dN Q 196=false∧gu Q 196=false∧bQ Q 196=true∧ie Q 196=false∧aX Q 196=false:=by and_intros<;>kernel_rfl
theorem ty_198:TyR 198 1 none 8 [A.nilf] false false:=by and_intros<;>kernel_rfl
theorem ty_201:ao Q 201=2∧dV Q 201=some true∧bI Q 201=none∧bt Q 201=some 16∧bk Q 201=some [A.int .i64 0,A.int .i64 0]∧ga Q 201=none∧bB Q 201 0=some (0,3)∧bB Q 201 1=some (1,3)∧di Q 201=false∧cv Q 201=false∧dM Q 201=false∧gJ Q 201=false∧dN Q 201=false∧gu Q 201=false∧bQ Q 201=true∧ie Q 201=false∧aX Q 201=false:=by and_intros<;>kernel_rfl
theorem ty_202:ao Q 202=16∧dV Q 202=some true∧bI Q 202=none∧bt Q 202=some 128∧bk Q 202=some [A.int .i64 0,A.int .i64 0,A.int .i64 0,A.int .i64 0,A.int .i64 0,A.int .i64 0,A.int .i64 0,A.int .i64 0,A.int .i64 0,A.int .i64 0,A.int .i64 0,A.int .i64 0,A.int .i64 0,A.int .i64 0,A.int .i64 0,A.int .i64 0]∧ga Q 202=some (8,201)∧di Q 202=false∧cv Q 202=false∧dM Q 202=false∧gJ Q 202=false∧dN Q 202=false∧gu Q 202=false∧bQ Q 202=true∧ie Q 202=false∧aX Q 202=false:=by and_intros<;>kernel_rfl
theorem ty_203:ao Q 203=24∧dV Q 203=some true∧bI Q 203=none∧bt Q 203=some 24∧bk Q 203=some [A.int .u8 0,A.int .u8 0,A.int .u8 0,A.int .u8 0,A.int .u8 0,A.int .u8 0,A.int .u8 0,A.int .u8 0,A.int .u8 0,A.int .u8 0,A.int .u8 0,A.int .u8 0,A.int .u8 0,A.int .u8 0,A.int .u8 0,A.int .u8 0,A.int .u8 0,A.int .u8 0,A.int .u8 0,A.int .u8 0,A.int .u8 0,A.int .u8 0,A.int .u8 0,A.int .u8 0]∧ga Q 203=some (24,5)∧di Q 203=false∧cv Q 203=false∧dM Q 203=false∧gJ Q 203=false∧dN Q 203=false∧gu Q 203=false∧bQ Q 203=true∧ie Q 203=false∧aX Q 203=false:=by and_intros<;>kernel_rfl
theorem ty_204:TyR 204 1 none 8 [A.int .u64 0] false false:=by and_intros<;>kernel_rfl
theorem ty_215:TyR 215 1 none 8 [A.nilf] false false:=by and_intros<;>kernel_rfl
theorem ty_222:TyR 222 1 none 8 [A.int .u64 0] false false:=by and_intros<;>kernel_rfl
theorem ty_234:TyR 234 1 none 8 [A.int .i64 0] false false:=by and_intros<;>kernel_rfl
theorem ty_249:TyR 249 1 none 8 [A.int .i64 0] false false:=by and_intros<;>kernel_rfl
theorem ty_255:TyR 255 1 none 8 [A.int .u64 0] false false:=by and_intros<;>kernel_rfl
attribute [simp] ty_1 ty_2 ty_3 ty_4 ty_5 ty_9 ty_10 ty_20 ty_21 ty_22 ty_24 ty_25 ty_27 ty_28 ty_29 ty_30 ty_31 ty_40 ty_42 ty_43 ty_44 ty_47 ty_48 ty_49 ty_50 ty_51 ty_52 ty_53 ty_55 ty_56 ty_58 ty_61 ty_62 ty_64 ty_65 ty_66 ty_68 ty_69 ty_71 ty_76 ty_78 ty_80 ty_88 ty_90 ty_91 ty_93 ty_97 ty_99 ty_100 ty_101 ty_102 ty_103 ty_104 ty_105 ty_106 ty_107 ty_108 ty_109 ty_110 ty_111 ty_112 ty_113 ty_114 ty_115 ty_116 ty_117 ty_118 ty_119 ty_120 ty_121 ty_122 ty_125 ty_126 ty_128 ty_133 ty_135 ty_137 ty_140 ty_142 ty_144 ty_148 ty_150 ty_156 ty_161 ty_166 ty_167 ty_169 ty_171 ty_177 ty_181 ty_193 ty_194 ty_196 ty_198 ty_201 ty_202 ty_203 ty_204 ty_215 ty_222 ty_234 ty_249 ty_255
attribute [simp] Tryz.underlying2 Tryz.underlying3 Tryz.underlying4 Tryz.underlying5 Tryz.underlying6 Tryz.underlying7 Tryz.underlying8 Tryz.underlying9 Tryz.underlying10 Tryz.underlying11 Tryz.underlying12 Tryz.underlying13 Tryz.underlying14 Tryz.underlying15 Tryz.underlying16 Tryz.underlying17 Tryz.underlying18 Tryz.underlying19 Tryz.underlying20 Tryz.underlying21 Tryz.underlying22 Tryz.underlying23 Tryz.underlying24 Tryz.underlying25 Tryz.underlying26 Tryz.underlying27 Tryz.underlying28 Tryz.underlying31 Tryz.underlying40 Tryz.underlying46 Tryz.underlying47 Tryz.underlying62 Tryz.underlying64 Tryz.underlying76 Tryz.underlying77 Tryz.underlying78 Tryz.underlying79 Tryz.underlying80 Tryz.underlying88 Tryz.underlying111 Tryz.underlying116 Tryz.underlying126 Tryz.underlying132 Tryz.underlying133 Tryz.underlying135 Tryz.underlying136 Tryz.underlying137 Tryz.underlying140 Tryz.underlying142 Tryz.underlying143 Tryz.underlying144 Tryz.underlying148 Tryz.underlying149 Tryz.underlying150 Tryz.underlying166 Tryz.underlying167 Tryz.underlying168 Tryz.underlying169 Tryz.underlying171 Tryz.underlying176 Tryz.underlying177 Tryz.underlying181 Tryz.underlying194 Tryz.underlying195 Tryz.underlying196 Tryz.underlying200 Tryz.underlying201 Tryz.underlying202 Tryz.underlying203 Tryz.underlying204 Tryz.underlying222 Tryz.underlying225 Tryz.underlying226 Tryz.underlying227 Tryz.underlying234 Tryz.underlying244 Tryz.underlying245 Tryz.underlying246 Tryz.underlying247 Tryz.underlying249 Tryz.underlying252 Tryz.underlying255 Tryz.underlying260 Tryz.underlying261 Tryz.underlying264 Tryz.underlying265 Tryz.underlying267 Tryz.underlying270 Tryz.underlying271 Tryz.underlying272 Tryz.underlying273 Tryz.underlying274 Tryz.underlying275 Tryz.underlying276 Tryz.underlying277 Tryz.underlying278 Tryz.underlying279 Tryz.underlying281 Tryz.underlying282 Tryz.underlying283 Tryz.underlying284
end AE
end Go.Proofs.YtmfdpijmholedaaGreatDoor
