/- The shelf's contracts at this dump: their numbers. Printed by lay-plain.mjs. -/
import Derived.Shelf.SlGeneric
import Derived.Shelf.Strconv.AtoiAll
import Derived.Shelf.SlSortCmp.NoneTotal
import Derived.Shelf.Strconv.Itoa3
import Derived.Shelf.Strings.Search1
import Derived.Ground.NamesProg
import Derived.Ground.Names2Prog
import Derived.Test.YtopfodhjlhpdmaaGreatDoorProg
import Derived.Test.YtopfodhjlhpdmaaGreatDoorGC
namespace Go.Proofs
open Go.Shelf
def Tryz.laysC172_ren : Go.Shelf.Ren := ⟨fun | 172 => 112 | 244 => 151 | 245 => 152 | 247 => 190 | 279 => 191 | 280 => 192 | 281 => 193 | 282 => 194 | 287 => 212 | 316 => 213 | 171 => 63 | 205 => 214 | 321 => 228 | 322 => 229 | 243 => 104 | 246 => 142 | 283 => 184 | 284 => 185 | 285 => 186 | 286 => 187 | 129 => 207 | 317 => 206 | 318 => 208 | 319 => 209 | 320 => 210 | 337 => 226 | 338 => 227 | n => n, fun | 9 => 9 | 3 => 3 | 75 => 168 | 76 => 169 | 4 => 4 | 5 => 5 | 167 => 224 | 37 => 31 | 0 => 0 | 85 => 225 | 2 => 2 | 168 => 227 | 53 => 219 | 175 => 241 | 46 => 233 | 210 => 245 | 127 => 264 | 145 => 267 | 143 => 265 | 21 => 21 | 171 => 218 | 173 => 222 | 212 => 237 | 51 => 238 | 20 => 20 | 213 => 239 | 232 => 273 | 233 => 274 | 80 => 119 | n => n, fun | 15 => 4 | 16 => 5 | 17 => 3 | 18 => 8 | 19 => 9 | n => n⟩
theorem Tryz.laysC172 : Go.Proofs.LaysC.n172 Tryz.prog Tryz.laysC172_ren := {
  mixed := by kernel_rfl
  f129 := Tryz.func207.trans (congrArg some (by kernel_rfl))
  f171 := Tryz.func63.trans (congrArg some (by kernel_rfl))
  f172 := Tryz.func112.trans (congrArg some (by kernel_rfl))
  f205 := Tryz.func214.trans (congrArg some (by kernel_rfl))
  f243 := Tryz.func104.trans (congrArg some (by kernel_rfl))
  f244 := Tryz.func151.trans (congrArg some (by kernel_rfl))
  f245 := Tryz.func152.trans (congrArg some (by kernel_rfl))
  f246 := Tryz.func142.trans (congrArg some (by kernel_rfl))
  f247 := Tryz.func190.trans (congrArg some (by kernel_rfl))
  f279 := Tryz.func191.trans (congrArg some (by kernel_rfl))
  f280 := Tryz.func192.trans (congrArg some (by kernel_rfl))
  f281 := Tryz.func193.trans (congrArg some (by kernel_rfl))
  f282 := Tryz.func194.trans (congrArg some (by kernel_rfl))
  f283 := Tryz.func184.trans (congrArg some (by kernel_rfl))
  f284 := Tryz.func185.trans (congrArg some (by kernel_rfl))
  f285 := Tryz.func186.trans (congrArg some (by kernel_rfl))
  f286 := Tryz.func187.trans (congrArg some (by kernel_rfl))
  f287 := Tryz.func212.trans (congrArg some (by kernel_rfl))
  f316 := Tryz.func213.trans (congrArg some (by kernel_rfl))
  f317 := Tryz.func206.trans (congrArg some (by kernel_rfl))
  f318 := Tryz.func208.trans (congrArg some (by kernel_rfl))
  f319 := Tryz.func209.trans (congrArg some (by kernel_rfl))
  f320 := Tryz.func210.trans (congrArg some (by kernel_rfl))
  f321 := Tryz.func228.trans (congrArg some (by kernel_rfl))
  f322 := Tryz.func229.trans (congrArg some (by kernel_rfl))
  f337 := Tryz.func226.trans (congrArg some (by kernel_rfl))
  f338 := Tryz.func227.trans (congrArg some (by kernel_rfl))
  t0 := Tryz.underlying0
  a0 := Tryz.isAgg0
  z0 := Tryz.sizeOf0
  v0 := Tryz.zeroValue0
  t2 := Tryz.underlying2
  a2 := Tryz.isAgg2
  z2 := Tryz.sizeOf2
  v2 := Tryz.zeroValue2
  t3 := Tryz.underlying3
  a3 := Tryz.isAgg3
  z3 := Tryz.sizeOf3
  v3 := Tryz.zeroValue3
  t4 := Tryz.underlying4
  a4 := Tryz.isAgg4
  z4 := Tryz.sizeOf4
  v4 := Tryz.zeroValue4
  t5 := Tryz.underlying5
  a5 := Tryz.isAgg5
  z5 := Tryz.sizeOf5
  v5 := Tryz.zeroValue5
  t9 := Tryz.underlying9
  a9 := Tryz.isAgg9
  z9 := Tryz.sizeOf9
  v9 := Tryz.zeroValue9
  t20 := Tryz.underlying20
  a20 := Tryz.isAgg20
  z20 := Tryz.sizeOf20
  v20 := Tryz.zeroValue20
  t21 := Tryz.underlying21
  a21 := Tryz.isAgg21
  z21 := Tryz.sizeOf21
  v21 := Tryz.zeroValue21
  t37 := Tryz.underlying31
  a37 := Tryz.isAgg31
  z37 := Tryz.sizeOf31
  v37 := Tryz.zeroValue31
  t46 := Tryz.underlying233
  a46 := Tryz.isAgg233
  z46 := Tryz.sizeOf233
  v46 := Tryz.zeroValue233
  t51 := Tryz.underlying238
  a51 := Tryz.isAgg238
  z51 := Tryz.sizeOf238
  v51 := Tryz.zeroValue238
  t53 := Tryz.underlying219
  a53 := Tryz.isAgg219
  z53 := Tryz.sizeOf219
  v53 := Tryz.zeroValue219
  t75 := Tryz.underlying168
  a75 := Tryz.isAgg168
  z75 := Tryz.sizeOf168
  v75 := Tryz.zeroValue168
  t76 := Tryz.underlying169
  a76 := Tryz.isAgg169
  z76 := Tryz.sizeOf169
  v76 := Tryz.zeroValue169
  t85 := Tryz.underlying225
  a85 := Tryz.isAgg225
  z85 := Tryz.sizeOf225
  v85 := Tryz.zeroValue225
  t127 := Tryz.underlying264
  a127 := Tryz.isAgg264
  z127 := Tryz.sizeOf264
  v127 := Tryz.zeroValue264
  t143 := Tryz.underlying265
  a143 := Tryz.isAgg265
  z143 := Tryz.sizeOf265
  v143 := Tryz.zeroValue265
  t145 := Tryz.underlying267
  a145 := Tryz.isAgg267
  z145 := Tryz.sizeOf267
  v145 := Tryz.zeroValue267
  t167 := Tryz.underlying224
  a167 := Tryz.isAgg224
  z167 := Tryz.sizeOf224
  v167 := Tryz.zeroValue224
  t168 := Tryz.underlying227
  a168 := Tryz.isAgg227
  z168 := Tryz.sizeOf227
  v168 := Tryz.zeroValue227
  t171 := Tryz.underlying218
  a171 := Tryz.isAgg218
  z171 := Tryz.sizeOf218
  v171 := Tryz.zeroValue218
  t173 := Tryz.underlying222
  a173 := Tryz.isAgg222
  z173 := Tryz.sizeOf222
  v173 := Tryz.zeroValue222
  t175 := Tryz.underlying241
  a175 := Tryz.isAgg241
  z175 := Tryz.sizeOf241
  v175 := Tryz.zeroValue241
  t210 := Tryz.underlying245
  a210 := Tryz.isAgg245
  z210 := Tryz.sizeOf245
  v210 := Tryz.zeroValue245
  t212 := Tryz.underlying237
  a212 := Tryz.isAgg237
  z212 := Tryz.sizeOf237
  v212 := Tryz.zeroValue237
  t213 := Tryz.underlying239
  a213 := Tryz.isAgg239
  z213 := Tryz.sizeOf239
  t232 := Tryz.underlying273
  a232 := Tryz.isAgg273
  z232 := Tryz.sizeOf273
  v232 := Tryz.zeroValue273
  t233 := Tryz.underlying274
  a233 := Tryz.isAgg274
  z233 := Tryz.sizeOf274
  v233 := Tryz.zeroValue274
  g15 := by kernel_rfl
  g16 := by kernel_rfl
  g17 := by kernel_rfl
  g18 := by kernel_rfl
  g19 := by kernel_rfl
  t80 := Tryz.underlying119
  a80 := Tryz.isAgg119
  z80 := Tryz.sizeOf119
  v80 := Tryz.zeroValue119
  i0 := by kernel_rfl
  i2 := by kernel_rfl
  i3 := by kernel_rfl
  i4 := by kernel_rfl
  i5 := by kernel_rfl
  i9 := by kernel_rfl
  i20 := by kernel_rfl
  i21 := by kernel_rfl
  i37 := by kernel_rfl
  i46 := by kernel_rfl
  i51 := by kernel_rfl
  i53 := by kernel_rfl
  i75 := by kernel_rfl
  i76 := by kernel_rfl
  i80 := by kernel_rfl
  i85 := by kernel_rfl
  i127 := by kernel_rfl
  i143 := by kernel_rfl
  i145 := by kernel_rfl
  i167 := by kernel_rfl
  i168 := by kernel_rfl
  i171 := by kernel_rfl
  i173 := by kernel_rfl
  i175 := by kernel_rfl
  i210 := by kernel_rfl
  i212 := by kernel_rfl
  i232 := by kernel_rfl
  i233 := by kernel_rfl
  m15 := by kernel_rfl
  m16 := by kernel_rfl
  m17 := by kernel_rfl
  m18 := by kernel_rfl
  m19 := by kernel_rfl
  c0 := by kernel_rfl
  c2 := by kernel_rfl
  c3 := by kernel_rfl
  c4 := by kernel_rfl
  c5 := by kernel_rfl
  c9 := by kernel_rfl
  c20 := by kernel_rfl
  c21 := by kernel_rfl
  c37 := by kernel_rfl
  c46 := by kernel_rfl
  c51 := by kernel_rfl
  c53 := by kernel_rfl
  c75 := by kernel_rfl
  c76 := by kernel_rfl
  c80 := by kernel_rfl
  c85 := by kernel_rfl
  c127 := by kernel_rfl
  c143 := by kernel_rfl
  c145 := by kernel_rfl
  c167 := by kernel_rfl
  c168 := by kernel_rfl
  c171 := by kernel_rfl
  c173 := by kernel_rfl
  c175 := by kernel_rfl
  c210 := by kernel_rfl
  c212 := by kernel_rfl
  c213 := by kernel_rfl
  c232 := by kernel_rfl
  c233 := by kernel_rfl }
def Tryz.laysSortF_ren : Go.Shelf.Ren := ⟨fun | 6 => 174 | 15 => 198 | 14 => 197 | 28 => 223 | 29 => 207 | 20 => 215 | 21 => 216 | 22 => 217 | 23 => 218 | 24 => 219 | 25 => 220 | 26 => 221 | 27 => 222 | 46 => 230 | 47 => 231 | 48 => 232 | 49 => 233 | 50 => 234 | 57 => 235 | n => n, fun | 22 => 207 | 24 => 209 | 25 => 211 | 3 => 3 | 39 => 233 | 0 => 0 | 53 => 238 | 55 => 219 | 4 => 4 | 46 => 249 | 45 => 248 | 50 => 253 | 5 => 5 | 9 => 9 | 66 => 268 | 70 => 116 | 76 => 275 | 77 => 78 | n => n, fun | n => n⟩
theorem Tryz.laysSortF : Go.Proofs.SlLaysF0.n6 Tryz.prog Tryz.laysSortF_ren := {
  mixed := by kernel_rfl
  f6 := ⟨Tryz.f174.name, by decide, Tryz.func174.trans (congrArg some (by kernel_rfl))⟩
  f14 := ⟨Tryz.f197.name, by decide, Tryz.func197.trans (congrArg some (by kernel_rfl))⟩
  f15 := Tryz.func198.trans (congrArg some (by kernel_rfl))
  f20 := ⟨Tryz.f215.name, by decide, Tryz.func215.trans (congrArg some (by kernel_rfl))⟩
  f21 := ⟨Tryz.f216.name, by decide, Tryz.func216.trans (congrArg some (by kernel_rfl))⟩
  f22 := ⟨Tryz.f217.name, by decide, Tryz.func217.trans (congrArg some (by kernel_rfl))⟩
  f23 := ⟨Tryz.f218.name, by decide, Tryz.func218.trans (congrArg some (by kernel_rfl))⟩
  f24 := ⟨Tryz.f219.name, by decide, Tryz.func219.trans (congrArg some (by kernel_rfl))⟩
  f25 := ⟨Tryz.f220.name, by decide, Tryz.func220.trans (congrArg some (by kernel_rfl))⟩
  f26 := ⟨Tryz.f221.name, by decide, Tryz.func221.trans (congrArg some (by kernel_rfl))⟩
  f27 := ⟨Tryz.f222.name, by decide, Tryz.func222.trans (congrArg some (by kernel_rfl))⟩
  f28 := Tryz.func223.trans (congrArg some (by kernel_rfl))
  f29 := Tryz.func207.trans (congrArg some (by kernel_rfl))
  f46 := ⟨Tryz.f230.name, by decide, Tryz.func230.trans (congrArg some (by kernel_rfl))⟩
  f47 := Tryz.func231.trans (congrArg some (by kernel_rfl))
  f48 := Tryz.func232.trans (congrArg some (by kernel_rfl))
  f49 := ⟨Tryz.f233.name, by decide, Tryz.func233.trans (congrArg some (by kernel_rfl))⟩
  f50 := ⟨Tryz.f234.name, by decide, Tryz.func234.trans (congrArg some (by kernel_rfl))⟩
  f57 := ⟨Tryz.f235.name, by decide, Tryz.func235.trans (congrArg some (by kernel_rfl))⟩
  t0 := Tryz.underlying0
  a0 := Tryz.isAgg0
  z0 := Tryz.sizeOf0
  v0 := Tryz.zeroValue0
  t3 := Tryz.underlying3
  a3 := Tryz.isAgg3
  z3 := Tryz.sizeOf3
  v3 := Tryz.zeroValue3
  t4 := Tryz.underlying4
  a4 := Tryz.isAgg4
  z4 := Tryz.sizeOf4
  v4 := Tryz.zeroValue4
  t5 := Tryz.underlying5
  a5 := Tryz.isAgg5
  z5 := Tryz.sizeOf5
  v5 := Tryz.zeroValue5
  t9 := Tryz.underlying9
  a9 := Tryz.isAgg9
  z9 := Tryz.sizeOf9
  v9 := Tryz.zeroValue9
  t22 := Tryz.underlying207
  a22 := Tryz.isAgg207
  z22 := Tryz.sizeOf207
  v22 := Tryz.zeroValue207
  t25 := Tryz.underlying211
  a25 := Tryz.isAgg211
  z25 := Tryz.sizeOf211
  v25 := Tryz.zeroValue211
  t39 := Tryz.underlying233
  a39 := Tryz.isAgg233
  z39 := Tryz.sizeOf233
  v39 := Tryz.zeroValue233
  t45 := Tryz.underlying248
  a45 := Tryz.isAgg248
  z45 := Tryz.sizeOf248
  v45 := Tryz.zeroValue248
  t46 := Tryz.underlying249
  a46 := Tryz.isAgg249
  z46 := Tryz.sizeOf249
  v46 := Tryz.zeroValue249
  t50 := Tryz.underlying253
  a50 := Tryz.isAgg253
  z50 := Tryz.sizeOf253
  v50 := Tryz.zeroValue253
  t53 := Tryz.underlying238
  a53 := Tryz.isAgg238
  z53 := Tryz.sizeOf238
  v53 := Tryz.zeroValue238
  t55 := Tryz.underlying219
  a55 := Tryz.isAgg219
  z55 := Tryz.sizeOf219
  v55 := Tryz.zeroValue219
  t66 := Tryz.underlying268
  a66 := Tryz.isAgg268
  z66 := Tryz.sizeOf268
  v66 := Tryz.zeroValue268
  t70 := Tryz.underlying116
  a70 := Tryz.isAgg116
  z70 := Tryz.sizeOf116
  v70 := Tryz.zeroValue116
  t76 := Tryz.underlying275
  a76 := Tryz.isAgg275
  z76 := Tryz.sizeOf275
  v76 := Tryz.zeroValue275
  t77 := Tryz.underlying78
  a77 := Tryz.isAgg78
  z77 := Tryz.sizeOf78
  v77 := Tryz.zeroValue78 }
def Tryz.laysM171_ren : Go.Shelf.Ren := ⟨fun | 171 => 63 | 243 => 104 | 246 => 142 | 283 => 184 | 284 => 185 | 285 => 186 | 286 => 187 | 129 => 207 | 317 => 206 | 318 => 208 | 319 => 209 | 320 => 210 | 337 => 226 | 338 => 227 | n => n, fun | 3 => 3 | 9 => 9 | 2 => 2 | 4 => 4 | 171 => 218 | 0 => 0 | 53 => 219 | 37 => 31 | 5 => 5 | 173 => 222 | 212 => 237 | 51 => 238 | 20 => 20 | 213 => 239 | 46 => 233 | 232 => 273 | 233 => 274 | n => n, fun | 17 => 3 | 18 => 8 | 19 => 9 | n => n⟩
theorem Tryz.laysM171 : Go.Proofs.LaysM.n171 Tryz.prog Tryz.laysM171_ren := {
  mixed := by kernel_rfl
  f129 := Tryz.func207.trans (congrArg some (by kernel_rfl))
  f171 := Tryz.func63.trans (congrArg some (by kernel_rfl))
  f243 := Tryz.func104.trans (congrArg some (by kernel_rfl))
  f246 := Tryz.func142.trans (congrArg some (by kernel_rfl))
  f283 := Tryz.func184.trans (congrArg some (by kernel_rfl))
  f284 := Tryz.func185.trans (congrArg some (by kernel_rfl))
  f285 := Tryz.func186.trans (congrArg some (by kernel_rfl))
  f286 := Tryz.func187.trans (congrArg some (by kernel_rfl))
  f317 := Tryz.func206.trans (congrArg some (by kernel_rfl))
  f318 := Tryz.func208.trans (congrArg some (by kernel_rfl))
  f319 := Tryz.func209.trans (congrArg some (by kernel_rfl))
  f320 := Tryz.func210.trans (congrArg some (by kernel_rfl))
  f337 := Tryz.func226.trans (congrArg some (by kernel_rfl))
  f338 := Tryz.func227.trans (congrArg some (by kernel_rfl))
  t0 := Tryz.underlying0
  a0 := Tryz.isAgg0
  z0 := Tryz.sizeOf0
  v0 := Tryz.zeroValue0
  t2 := Tryz.underlying2
  a2 := Tryz.isAgg2
  z2 := Tryz.sizeOf2
  v2 := Tryz.zeroValue2
  t3 := Tryz.underlying3
  a3 := Tryz.isAgg3
  z3 := Tryz.sizeOf3
  v3 := Tryz.zeroValue3
  t4 := Tryz.underlying4
  a4 := Tryz.isAgg4
  z4 := Tryz.sizeOf4
  v4 := Tryz.zeroValue4
  t5 := Tryz.underlying5
  a5 := Tryz.isAgg5
  z5 := Tryz.sizeOf5
  v5 := Tryz.zeroValue5
  t9 := Tryz.underlying9
  a9 := Tryz.isAgg9
  z9 := Tryz.sizeOf9
  v9 := Tryz.zeroValue9
  t20 := Tryz.underlying20
  a20 := Tryz.isAgg20
  z20 := Tryz.sizeOf20
  v20 := Tryz.zeroValue20
  t37 := Tryz.underlying31
  a37 := Tryz.isAgg31
  z37 := Tryz.sizeOf31
  v37 := Tryz.zeroValue31
  t46 := Tryz.underlying233
  a46 := Tryz.isAgg233
  z46 := Tryz.sizeOf233
  v46 := Tryz.zeroValue233
  t51 := Tryz.underlying238
  a51 := Tryz.isAgg238
  z51 := Tryz.sizeOf238
  v51 := Tryz.zeroValue238
  t53 := Tryz.underlying219
  a53 := Tryz.isAgg219
  z53 := Tryz.sizeOf219
  v53 := Tryz.zeroValue219
  t171 := Tryz.underlying218
  a171 := Tryz.isAgg218
  z171 := Tryz.sizeOf218
  v171 := Tryz.zeroValue218
  t173 := Tryz.underlying222
  a173 := Tryz.isAgg222
  z173 := Tryz.sizeOf222
  v173 := Tryz.zeroValue222
  t212 := Tryz.underlying237
  a212 := Tryz.isAgg237
  z212 := Tryz.sizeOf237
  v212 := Tryz.zeroValue237
  t213 := Tryz.underlying239
  a213 := Tryz.isAgg239
  z213 := Tryz.sizeOf239
  t232 := Tryz.underlying273
  a232 := Tryz.isAgg273
  z232 := Tryz.sizeOf273
  v232 := Tryz.zeroValue273
  t233 := Tryz.underlying274
  a233 := Tryz.isAgg274
  z233 := Tryz.sizeOf274
  v233 := Tryz.zeroValue274
  g17 := by kernel_rfl
  g18 := by kernel_rfl
  g19 := by kernel_rfl
  i0 := by kernel_rfl
  i2 := by kernel_rfl
  i3 := by kernel_rfl
  i4 := by kernel_rfl
  i5 := by kernel_rfl
  i9 := by kernel_rfl
  i20 := by kernel_rfl
  i37 := by kernel_rfl
  i46 := by kernel_rfl
  i51 := by kernel_rfl
  i53 := by kernel_rfl
  i171 := by kernel_rfl
  i173 := by kernel_rfl
  i212 := by kernel_rfl
  i232 := by kernel_rfl
  i233 := by kernel_rfl
  m17 := by kernel_rfl
  m18 := by kernel_rfl
  m19 := by kernel_rfl }
def Tryz.lays217_ren : Go.Shelf.Ren := ⟨fun | 217 => 111 | 266 => 150 | n => n, fun | 9 => 9 | 5 => 5 | 3 => 3 | n => n, fun | n => n⟩
theorem Tryz.lays217 : Go.Proofs.Lays.n217 Tryz.prog Tryz.lays217_ren := {
  mixed := by kernel_rfl
  f217 := Tryz.func111.trans (congrArg some (by kernel_rfl))
  f266 := Tryz.func150.trans (congrArg some (by kernel_rfl))
  t3 := Tryz.underlying3
  a3 := Tryz.isAgg3
  z3 := Tryz.sizeOf3
  v3 := Tryz.zeroValue3
  t5 := Tryz.underlying5
  a5 := Tryz.isAgg5
  z5 := Tryz.sizeOf5
  v5 := Tryz.zeroValue5
  t9 := Tryz.underlying9
  a9 := Tryz.isAgg9
  z9 := Tryz.sizeOf9
  v9 := Tryz.zeroValue9 }
end Go.Proofs
/- The evaluator with a number of steps: the kernel can run it. What it answers holds; what a call answers on an empty store it answers on any. -/
set_option linter.unusedVariables false
set_option linter.unusedSimpArgs false
set_option linter.unusedSectionVars false
namespace Go.Proofs.YtopfodhjlhpdmaaGreatDoor
namespace AE
open Go Go.RowKit
mutual
def eqA : A → A → Bool
  | .undef, .undef => true
  | .int k n, .int k' n' => (k == k') && (n == n')
  | .bool b, .bool b' => b == b'
  | .str s, .str s' => s == s'
  | .nilp, .nilp => true
  | .nili, .nili => true
  | .nilf, .nilf => true
  | .yld l, .yld l' => l == l'
  | .nils, .nils => true
  | .ifc t x, .ifc t' x' => (t == t') && eqA x x'
  | .agg cs, .agg cs' => eqL cs cs'
  | .tup cs, .tup cs' => eqL cs cs'
  | .isl f n cs, .isl f' n' cs' => (f == f') && (n == n') && eqL cs cs'
  | .rp cs, .rp cs' => eqL cs cs'
  | .ptr i o, .ptr i' o' => (i == i') && (o == o')
  | .sl a b c d, .sl a' b' c' d' => (a == a') && (b == b') && (c == c') && (d == d')
  | .rptr a b c, .rptr a' b' c' => (a == a') && (b == b') && (c == c')
  | .fn f cs, .fn f' cs' => (f == f') && eqL cs cs'
  | _, _ => false
def eqL : List A → List A → Bool
  | [], [] => true
  | a :: r, b :: q => eqA a b && eqL r q
  | _, _ => false
end
mutual
theorem eqA_eq : ∀ (a b : A), eqA a b = true → a = b
  | .undef, b, h => by cases b <;> simp [eqA] at h ⊢
  | .int k n, b, h => by cases b <;> simp [eqA] at h ⊢; exact h
  | .bool x, b, h => by cases b <;> simp [eqA] at h ⊢; exact h
  | .str s, b, h => by cases b <;> simp [eqA] at h ⊢; exact h
  | .nilp, b, h => by cases b <;> simp [eqA] at h ⊢
  | .nili, b, h => by cases b <;> simp [eqA] at h ⊢
  | .nilf, b, h => by cases b <;> simp [eqA] at h ⊢
  | .yld l, b, h => by cases b <;> simp [eqA] at h ⊢; exact h
  | .nils, b, h => by cases b <;> simp [eqA] at h ⊢
  | .ifc t x, b, h => by cases b <;> simp [eqA] at h ⊢; exact ⟨h.1, eqA_eq _ _ h.2⟩
  | .agg cs, b, h => by cases b <;> simp [eqA] at h ⊢; exact eqL_eq _ _ h
  | .tup cs, b, h => by cases b <;> simp [eqA] at h ⊢; exact eqL_eq _ _ h
  | .isl f n cs, b, h => by cases b <;> simp [eqA] at h ⊢; exact ⟨h.1.1, h.1.2, eqL_eq _ _ h.2⟩
  | .rp cs, b, h => by cases b <;> simp [eqA] at h ⊢; exact eqL_eq _ _ h
  | .ptr i o, b, h => by cases b <;> simp [eqA] at h ⊢; exact h
  | .sl x y z u, b, h => by cases b <;> simp [eqA] at h ⊢; exact ⟨h.1.1.1, h.1.1.2, h.1.2, h.2⟩
  | .rptr x y z, b, h => by cases b <;> simp [eqA] at h ⊢; exact ⟨h.1.1, h.1.2, h.2⟩
  | .fn f cs, b, h => by cases b <;> simp [eqA] at h ⊢; exact ⟨h.1, eqL_eq _ _ h.2⟩
theorem eqL_eq : ∀ (a b : List A), eqL a b = true → a = b
  | [], b, h => by cases b <;> simp [eqL] at h ⊢
  | a :: r, b, h => by
    cases b <;> simp [eqL] at h ⊢
    exact ⟨eqA_eq _ _ h.1, eqL_eq _ _ h.2⟩
end
def eqR (a b : Row) : Bool := (a.el == b.el) && eqL a.cs b.cs
theorem eqR_eq {a b : Row} (h : eqR a b = true) : a = b := by
  unfold eqR at h
  simp at h
  obtain ⟨e, c⟩ := a
  obtain ⟨e', c'⟩ := b
  simp only [Row.mk.injEq]
  exact ⟨h.1, eqL_eq _ _ h.2⟩
def keptL {α : Type} (eq : α → α → Bool) (cl : α → Bool) : List α → List α → Bool
  | [], _ => true
  | a :: r, b :: q => (cl b || eq a b) && keptL eq cl r q
  | _ :: _, [] => false
theorem keptL_ok {α : Type} {eq : α → α → Bool} {cl : α → Bool} (he : ∀ a b, eq a b = true → a = b) : ∀ {l m : List α}, keptL eq cl l m = true → l.length ≤ m.length ∧ ∀ i, i < l.length → m[i]? = l[i]? ∨ ∃ c, m[i]? = some c ∧ cl c = true
  | [], m, h => ⟨Nat.zero_le _, fun i hi => by simp at hi⟩
  | a :: r, [], h => by simp [keptL] at h
  | a :: r, b :: q, h => by
    rw [keptL, Bool.and_eq_true, Bool.or_eq_true] at h
    obtain ⟨h1, h2⟩ := keptL_ok he h.2
    refine ⟨by simp; exact h1, fun i hi => ?_⟩
    cases i with
    | zero =>
      rcases h.1 with h3 | h3
      · exact .inr ⟨b, rfl, h3⟩
      · exact .inl (by rw [he _ _ h3]; rfl)
    | succ i =>
      have := h2 i (by simpa using hi)
      simpa using this
def rowsL (cl : Row → Bool) : List Row → List Row → Bool
  | [], _ => true
  | b :: q, a :: r => (cl b || eqR a b) && rowsL cl q r
  | b :: q, [] => cl b && rowsL cl q []
theorem rowsL_ok {cl : Row → Bool} : ∀ {m l : List Row}, rowsL cl m l = true → ∀ i, i < m.length → m[i]? = l[i]? ∨ ∃ c, m[i]? = some c ∧ cl c = true
  | [], l, h, i, hi => by simp at hi
  | b :: q, a :: r, h, i, hi => by
    rw [rowsL, Bool.and_eq_true, Bool.or_eq_true] at h
    cases i with
    | zero =>
      rcases h.1 with h3 | h3
      · exact .inr ⟨b, rfl, h3⟩
      · exact .inl (by rw [eqR_eq h3]; rfl)
    | succ i =>
      have := rowsL_ok h.2 i (by simpa using hi)
      simpa using this
  | b :: q, [], h, i, hi => by
    rw [rowsL, Bool.and_eq_true] at h
    cases i with
    | zero => exact .inr ⟨b, rfl, h.1⟩
    | succ i =>
      have := rowsL_ok h.2 i (by simpa using hi)
      simpa using this
def endRoundB (k : Option (List Nat)) (m0 : Mem) (s : St) : Option St :=
  match k with
  | none => some s
  | some l =>
    if (l.all fun t => closed m0.bx.length s.m.rw.length (lk t s.tm)) && keptL eqL (fun cs => cs.all (closed m0.bx.length s.m.rw.length)) m0.bx s.m.bx && rowsL (fun r => r.cs.all (closed m0.bx.length s.m.rw.length)) s.m.rw m0.rw
    then some ⟨prune k s.tm, ⟨s.m.bx.take m0.bx.length, s.m.rw⟩⟩ else none
theorem endRoundB_ok {k : Option (List Nat)} {m0 : Mem} {s s' : St} (h : endRoundB k m0 s = some s') : endRound k m0 s = some s' := by
  unfold endRoundB at h
  unfold endRound
  split
  · exact h
  · rename_i l
    simp only at h
    split at h
    · rename_i hc
      simp only [Bool.and_eq_true, List.all_eq_true] at hc
      obtain ⟨⟨h1, h2⟩, h3⟩ := hc
      obtain ⟨h4, h5⟩ := keptL_ok eqL_eq h2
      rw [if_pos ⟨h1, h4, h5, rowsL_ok h3⟩]
      exact h
    · cases h
def lostF (nb nr : Nat) : A → Bool
  | .fn _ cs => !closed.closedL nb nr cs
  | .ifc _ x => lostF nb nr x
  | .agg cs | .tup cs | .isl _ _ cs | .rp cs => lostL cs
  | _ => false
where
  lostL : List A → Bool
    | [] => false
    | a :: r => lostF nb nr a || lostL r
def leaveB (P : Program) (m0 : Mem) (r : Res) (m : Mem) : Option (Res × Mem) :=
  if lostF m0.bx.length m0.rw.length r.val then some (r, m)
  else if keptL eqL (fun cs => cs.all (closed m0.bx.length m0.rw.length)) m0.bx m.bx && keptL eqR (fun r => r.cs.all (closed m0.bx.length m0.rw.length)) m0.rw m.rw then
    some (erR (er P m0.bx.length m0.rw.length m.rw 4) r, cutM m0 m)
  else if keptL eqL (fun cs => cs.all (closed m0.bx.length m.rw.length)) m0.bx m.bx && rowsL (fun r => r.cs.all (closed m0.bx.length m.rw.length)) m.rw m0.rw && closed m0.bx.length m.rw.length r.val then
    some (r, ⟨m.bx.take m0.bx.length, m.rw⟩)
  else none
theorem leaveB_ok {P : Program} {m0 m : Mem} {r : Res} {x : Res × Mem} (h : leaveB P m0 r m = some x) : (∃ k, leave P k m0 r m = some x) ∨ x = (r, m) := by
  unfold leaveB at h
  split at h
  · exact .inr (Option.some.inj h).symm
  left
  split at h
  · rename_i hc
    rw [Bool.and_eq_true] at hc
    obtain ⟨h4, h5⟩ := keptL_ok eqL_eq hc.1
    obtain ⟨h6, h7⟩ := keptL_ok (fun _ _ => eqR_eq) hc.2
    refine ⟨false, ?_⟩
    unfold leave
    rw [if_neg (by simp), if_pos ⟨h4, h6, h5, h7⟩]
    exact h
  · split at h
    · rename_i hc
      rw [Bool.and_eq_true, Bool.and_eq_true] at hc
      obtain ⟨h4, h5⟩ := keptL_ok eqL_eq hc.1.1
      refine ⟨true, ?_⟩
      unfold leave
      rw [if_pos rfl, if_pos ⟨⟨h4, h5, rowsL_ok hc.1.2⟩, hc.2⟩]
      exact h
    · cases h
def isA (x : Option A) (v : A) : Bool := match x with | some a => eqA a v | none => false
theorem isA_eq {x : Option A} {v : A} (h : isA x v = true) : x = some v := by
  unfold isA at h
  split at h
  · rw [eqA_eq _ _ h]
  · cases h
def chkNeedB (P : Program) (tr : List Ent) (fin : Mem) : List (Nat × List Nat × Bool) → Bool
  | [] => true
  | (p, es, f) :: r =>
    (match tr[p]? with
      | some ⟨.load t x, v, _⟩ => (es.all fun e => match tr[e]? with | some en => isA (loadA P t x en.m) v | none => true) && (!f || isA (loadA P t x fin) v)
      | _ => true) && chkNeedB P tr fin r
theorem chkNeedB_ok {P : Program} {tr : List Ent} {fin : Mem} : ∀ {l : List (Nat × List Nat × Bool)}, chkNeedB P tr fin l = true → chkNeed P tr fin l
  | [], h => trivial
  | (p, es, f) :: r, h => by
    rw [chkNeedB, Bool.and_eq_true] at h
    rw [chkNeed]
    refine ⟨?_, chkNeedB_ok h.2⟩
    have h1 := h.1
    split
    · rename_i t x v m0 he
      rw [he] at h1
      simp only [Bool.and_eq_true, List.all_eq_true] at h1
      refine ⟨fun e hin en hen => ?_, fun hf => ?_⟩
      · have := h1.1 e hin
        rw [hen] at this
        exact isA_eq this
      · have := h1.2
        rw [hf] at this
        exact isA_eq (by simpa using this)
    · trivial
def disjB (n k : Nat) (a b : A) : Bool := match a, b with
  | .ptr _ _, .rptr _ _ _ => true
  | .rptr _ _ _, .ptr _ _ => true
  | .ptr i o, .ptr j q => !decide (i = j) || decide (o + n ≤ q) || decide (q + k ≤ o)
  | .rptr i _ o, .rptr j _ q => !decide (i = j) || decide (o + n ≤ q) || decide (q + k ≤ o)
  | _, _ => false
theorem disjB_ok {n k : Nat} {a b : A} (h : disjB n k a b = true) : disjA n k a b := by
  unfold disjB at h
  split at h
  · trivial
  · trivial
  · simp only [Bool.or_eq_true, Bool.not_eq_true', decide_eq_false_iff_not, decide_eq_true_eq, or_assoc] at h
    exact h
  · simp only [Bool.or_eq_true, Bool.not_eq_true', decide_eq_false_iff_not, decide_eq_true_eq, or_assoc] at h
    exact h
  · cases h
def lateNeedB (P : Program) (tr : List Ent) (tm : List (Nat × A)) (l : List LateAnn) : Bool := l.all fun l => disjB (szOf P l.t) (szOf P l.u) (lateAddr tr tm l.ka l.sa) (lateAddr tr tm l.kb l.sb)
theorem lateNeedB_ok {P : Program} {tr : List Ent} {tm : List (Nat × A)} : ∀ {l : List LateAnn}, lateNeedB P tr tm l = true → lateNeed P tr tm l
  | [], _ => trivial
  | l :: r, h => by
    unfold lateNeedB at h
    rw [List.all_cons, Bool.and_eq_true] at h
    exact ⟨disjB_ok h.1, lateNeedB_ok (l := r) h.2⟩
def drawEndB (P : Program) (gl : Nat → A) (nt : Nat) (ok : Bool) (d : DrawAnn) (all : List Oper) (tr : List Ent) (k : Option (List Nat)) (y : Option (A × Mem) × St) : Option (Ex × St) :=
  match y with
  | (none, s) => if ok && (chkNeedB P tr s.m d.need && lateNeedB P tr s.tm d.late) then some (.normal, ⟨prune k s.tm, s.m⟩) else none
  | (some (a, m), s) => (afterP P gl nt d all (tr.length - 1) tr.length (all.drop tr.length) s).bind fun z =>
    if ok && chkNeedB P (tr ++ z.1) z.2.m d.need then some (.pan a, ⟨maskTm all s.tm, m⟩) else none
theorem drawEndB_ok {P : Program} {gl : Nat → A} {nt : Nat} {ok : Bool} {d : DrawAnn} {all : List Oper} {tr : List Ent} {k : Option (List Nat)} {y : Option (A × Mem) × St} {x : Ex × St} (h : drawEndB P gl nt ok d all tr k y = some x) : drawEnd P gl nt ok d all tr k y = some x := by
  obtain ⟨po, s⟩ := y
  cases po with
  | none =>
    simp only [drawEndB, drawEnd] at h ⊢
    split at h
    · rename_i hc
      rw [Bool.and_eq_true, Bool.and_eq_true] at hc
      rw [if_pos ⟨hc.1, chkNeedB_ok hc.2.1, lateNeedB_ok hc.2.2⟩]
      exact h
    · cases h
  | some z =>
    obtain ⟨a, m⟩ := z
    simp only [drawEndB, drawEnd] at h ⊢
    obtain ⟨z, h1, h2⟩ := Option.bind_eq_some_iff.1 h
    rw [h1]
    simp only [Option.bind_some]
    split at h2
    · rename_i hc
      rw [Bool.and_eq_true] at hc
      rw [if_pos ⟨hc.1, chkNeedB_ok hc.2⟩]
      exact h2
    · cases h2
structure EvR where
  call : FuncId → List A → Mem → Option (Res × Mem)
  rcv : FuncId → Nat → Code → St → Option (Ex × St)
  code : FuncId → Nat → Code → St → Option (Ex × St)
  ops : FuncId → Nat → List Oper → List Oper → St → Option (Ex × St)
  draw : FuncId → Nat → List Oper → List Oper → St → Option (List Ent × Option (A × Mem) × St)
def callN (C : Cfg) (r : EvR) (f : FuncId) (args : List A) (m : Mem) : Option (Res × Mem) :=
  match C.ext f with
  | some g => g args m
  | none =>
    match C.P.funcs[f]? with
    | none => none
    | some fn =>
      match fn.body with
      | none => none
      | some c =>
        if fn.name = "runtime.NumGoroutine" ∨ fn.ntmps < args.length then none else
        (if C.ann.recov f then r.rcv f fn.ntmps c ⟨argsTm 0 args, m⟩ else r.code f fn.ntmps c ⟨argsTm 0 args, m⟩) >>= fun x =>
          match x.1 with
          | .normal | .ret => (resultsA C.P fn.results.toList x.2.tm x.2.m) >>= fun a => leaveB C.P m (.ret a) x.2.m
          | .pan a => leaveB C.P m (.pan a) x.2.m
          | .exit _ => none
def rcvN (C : Cfg) (r : EvR) (f : FuncId) (nt : Nat) (c : Code) (s : St) : Option (Ex × St) :=
  match c with
  | .seq a b =>
    match deferAt a with
    | some d =>
      if d.1 < nt then
        (r.code f nt b ⟨put (some d.1) (.fn d.2.1 (d.2.2.map (opd C.gl s.tm))) s.tm, s.m⟩) >>= fun x =>
          match endVal x.1, recBody C.P d.2.1 with
          | some v, some rb =>
            if d.2.2.length ≤ rb.1 then
              (r.code d.2.1 rb.1 rb.2.2.2 ⟨put (some rb.2.2.1) v (put (some rb.2.1) v (argsTm 0 (d.2.2.map (opd C.gl s.tm)))), x.2.m⟩) >>= fun y =>
                match y.1 with
                | .normal | .ret => some (.ret, ⟨x.2.tm, y.2.m⟩)
                | _ => none
            else none
          | _, _ => none
      else none
    | none =>
      (r.code f nt a s) >>= fun x =>
        match x.1 with
        | .normal => r.rcv f nt b x.2
        | e => some (e, x.2)
  | c => r.code f nt c s
def codeN (C : Cfg) (r : EvR) (f : FuncId) (nt : Nat) (c : Code) (s : St) : Option (Ex × St) :=
  match c with
  | .skip => some (.normal, s)
  | .region id ops draw =>
    if draw then
      (r.draw f nt ops.toList ops.toList s) >>= fun y =>
        drawEndB C.P C.gl nt (C.ann.dok f id) (C.ann.draw f id) ops.toList y.1 (C.ann.reg f id) y.2
    else
    (r.ops f nt ops.toList ops.toList s) >>= fun x =>
      match x.1 with
      | .normal => some (.normal, ⟨prune (C.ann.reg f id) x.2.tm, x.2.m⟩)
      | e => some (e, x.2)
  | .seq a b =>
    (r.code f nt a s) >>= fun x =>
      match x.1 with
      | .normal => r.code f nt b x.2
      | e => some (e, x.2)
  | .cond c a b =>
    match opd C.gl s.tm c with
    | .bool t => if t then r.code f nt a s else r.code f nt b s
    | _ => none
  | .block id b =>
    (r.code f nt b s) >>= fun x =>
      match x.1 with
      | .exit i => if i = id then some (.normal, x.2) else some (.exit i, x.2)
      | e => some (e, x.2)
  | .loop b =>
    (r.code f nt b ⟨prune (C.ann.loop f (headId b)) s.tm, s.m⟩) >>= fun x =>
      match x.1 with
      | .normal => (endRoundB (C.ann.loop f (headId b)) s.m x.2) >>= fun s1 => r.code f nt (.loop b) s1
      | e => some (e, x.2)
  | .exit id => some (.exit id, s)
  | .ret => some (.ret, s)
  | .label _ => some (.normal, s)
  | .scope b => r.code f nt b s
  | _ => none
def opsN (C : Cfg) (r : EvR) (f : FuncId) (nt : Nat) (all l : List Oper) (s : St) : Option (Ex × St) :=
  match l with
  | [] => some (.normal, s)
  | o :: rest =>
    match o.dst.all (· < nt), wantA o all s.tm with
    | true, some true =>
      match o.op with
      | .panic x => (panA (opd C.gl s.tm x)).map fun a => (.pan a, s)
      | .call { callee := .value g, args, argTypes } =>
        match opd C.gl s.tm g with
        | .fn h caps =>
          (r.call h (args.toList.map (opd C.gl s.tm) ++ caps) s.m) >>= fun x =>
            match x.1 with
            | .ret a => r.ops f nt all rest ⟨put o.dst a s.tm, x.2⟩
            | .pan a => some (.pan a, ⟨s.tm, x.2⟩)
        | _ => none
      | .convert t u x =>
        match strM C.P t u (opd C.gl s.tm x) s.m with
        | some a => r.ops f nt all rest ⟨put o.dst a s.tm, s.m⟩
        | none => (opA C.P (.convert t u x) (opd C.gl s.tm) s.m) >>= fun x => r.ops f nt all rest ⟨put o.dst x.1 s.tm, x.2⟩
      | op => (opA C.P op (opd C.gl s.tm) s.m) >>= fun x => r.ops f nt all rest ⟨put o.dst x.1 s.tm, x.2⟩
    | true, some false => r.ops f nt all rest ⟨put o.dst (.tup []) s.tm, s.m⟩
    | _, _ => none
def drawN (C : Cfg) (r : EvR) (f : FuncId) (nt : Nat) (all l : List Oper) (s : St) : Option (List Ent × Option (A × Mem) × St) :=
  match l with
  | [] => some ([], none, s)
  | o :: rest =>
    match o.dst.all (· < nt), wantA o all s.tm with
    | true, some true =>
      match o.op with
      | .call { callee := .value g, args, argTypes } =>
        match opd C.gl s.tm g with
        | .fn h caps =>
          (r.call h (args.toList.map (opd C.gl s.tm) ++ caps) s.m) >>= fun x =>
            match x.1 with
            | .ret a => (r.draw f nt all rest ⟨put o.dst a s.tm, x.2⟩) >>= fun y => some (⟨.eff, a, s.m⟩ :: y.1, y.2)
            | .pan a => some ([⟨.eff, .undef, s.m⟩], some (a, x.2), ⟨put o.dst .undef s.tm, s.m⟩)
        | _ => none
      | op => (opA C.P op (opd C.gl s.tm) s.m) >>= fun x => (r.draw f nt all rest ⟨put o.dst x.1 s.tm, x.2⟩) >>= fun y => some (⟨kindA op (opd C.gl s.tm), x.1, s.m⟩ :: y.1, y.2)
    | true, some false => (r.draw f nt all rest ⟨put o.dst (.tup []) s.tm, s.m⟩) >>= fun y => some (⟨kindS o.op, .tup [], s.m⟩ :: y.1, y.2)
    | _, _ => none
def evR (C : Cfg) : Nat → EvR
  | 0 => ⟨fun _ _ _ => none, fun _ _ _ _ => none, fun _ _ _ _ => none, fun _ _ _ _ _ => none, fun _ _ _ _ _ => none⟩
  | n + 1 => ⟨callN C (evR C n), rcvN C (evR C n), codeN C (evR C n), opsN C (evR C n), drawN C (evR C n)⟩
section
variable {C : Cfg}
structure RecsOk (C : Cfg) (r : EvR) : Prop where
  call : ∀ f args m x, r.call f args m = some x → CallOk C f args m x
  rcv : ∀ f nt c s x, r.rcv f nt c s = some x → RecOk C f nt c s x
  code : ∀ f nt c s x, r.code f nt c s = some x → CodeOk C f nt c s x
  ops : ∀ f nt all l s x, r.ops f nt all l s = some x → OpsOk C f nt all l s x
  draw : ∀ f nt all l s x, r.draw f nt all l s = some x → DrawR C nt all l s x.1 x.2
theorem callN_ok (hC : CfgOk C) {r : EvR} (hr : RecsOk C r) (f : FuncId) (args : List A) (m : Mem) (x : Res × Mem) (h : callN C r f args m = some x) : CallOk C f args m x := by
  refine call_sound hC hr.rcv hr.code (lv := fun _ => leaveB C.P) (fun f m0 r m x h => leaveB_ok h) f args m x ?_
  unfold callN at h
  cases hx : C.ext f with
  | some gx => rw [hx] at h; exact h
  | none =>
  simp only [hx] at h ⊢
  cases hf : C.P.funcs[f]? with
  | none => simp only [hf] at h; cases h
  | some fn =>
  simp only [hf] at h ⊢
  cases hb : fn.body with
  | none => simp only [hb] at h; cases h
  | some c =>
  simp only [hb] at h ⊢
  split at h
  · cases h
  · rename_i hn
    rw [if_neg hn]
    obtain ⟨⟨e, s'⟩, h1, h2⟩ := Option.bind_eq_some_iff.1 h
    refine Option.bind_eq_some_iff.2 ⟨(e, s'), h1, ?_⟩
    cases e with
    | exit i => cases h2
    | pan a => exact h2
    | normal =>
      obtain ⟨a, h3, h4⟩ := Option.bind_eq_some_iff.1 h2
      exact Option.bind_eq_some_iff.2 ⟨a, h3, h4⟩
    | ret =>
      obtain ⟨a, h3, h4⟩ := Option.bind_eq_some_iff.1 h2
      exact Option.bind_eq_some_iff.2 ⟨a, h3, h4⟩
theorem codeN_ok (hC : CfgOk C) {r : EvR} (hr : RecsOk C r) (f : FuncId) (nt : Nat) (c : Code) (s : St) (x : Ex × St) (h : codeN C r f nt c s = some x) : CodeOk C f nt c s x := by
  refine code_sound hC hr.code hr.ops hr.draw f nt c s x ?_
  unfold codeN at h
  cases c with
  | region id ops draw =>
    cases draw with
    | true =>
      simp only [if_true] at h ⊢
      obtain ⟨y, h1, h2⟩ := Option.bind_eq_some_iff.1 h
      exact Option.bind_eq_some_iff.2 ⟨y, h1, drawEndB_ok h2⟩
    | false => exact h
  | loop b =>
    obtain ⟨⟨e, s'⟩, h1, h2⟩ := Option.bind_eq_some_iff.1 h
    refine Option.bind_eq_some_iff.2 ⟨(e, s'), h1, ?_⟩
    cases e with
    | normal =>
      obtain ⟨s1, h3, h4⟩ := Option.bind_eq_some_iff.1 h2
      exact Option.bind_eq_some_iff.2 ⟨s1, endRoundB_ok h3, h4⟩
    | exit i => exact h2
    | ret => exact h2
    | pan a => exact h2
  | _ => exact h
theorem evR_ok (hC : CfgOk C) : ∀ n, RecsOk C (evR C n)
  | 0 => ⟨fun _ _ _ _ h => (nomatch h), fun _ _ _ _ _ h => (nomatch h), fun _ _ _ _ _ h => (nomatch h), fun _ _ _ _ _ _ h => (nomatch h), fun _ _ _ _ _ _ h => (nomatch h)⟩
  | n + 1 =>
    have hr := evR_ok hC n
    ⟨callN_ok hC hr, fun f nt c s x h => rec_sound hC hr.rcv hr.code f nt c s x h, codeN_ok hC hr, fun f nt all l s x h => ops_sound hr.call hr.ops f nt all l s x h, fun f nt all l s x h => draw_valid hr.call hr.draw f nt all l s x h⟩
end
def saysTrue (x : Option (Res × Mem)) : Bool := match x with | some (.ret (.bool b), _) => b | _ => false
theorem saysTrue_ok {x : Option (Res × Mem)} (h : saysTrue x = true) : ∃ m, x = some (.ret (.bool true), m) := by
  unfold saysTrue at h
  split at h
  · rename_i b m; exact ⟨m, by rw [h]⟩
  · cases h
end AE
end Go.Proofs.YtopfodhjlhpdmaaGreatDoor
/- What a call answers on an empty store it answers on any: with arguments, with whatever result that holds nothing of the store. -/
set_option linter.unusedVariables false
set_option linter.unusedSimpArgs false
set_option linter.unusedSectionVars false
namespace Go.Proofs.YtopfodhjlhpdmaaGreatDoor
namespace AE
open Go Go.RowKit
section
variable {w : World} {g g' : Gh}
mutual
theorem VR.swap (hF : ∀ b o, g.F b o → g'.F b o) : ∀ (a : A) (v : Value), closed 0 0 a = true → VR w g a v → VR w g' a v
  | .undef, _, _, _ => by rw [VR]; trivial
  | .int _ _, _, _, k => by rw [VR] at k ⊢; exact k
  | .bool _, _, _, k => by rw [VR] at k ⊢; exact k
  | .str _, _, _, k => by rw [VR] at k ⊢; exact k
  | .nilp, _, _, k => by rw [VR] at k ⊢; exact k
  | .nili, _, _, k => by rw [VR] at k ⊢; exact k
  | .nilf, _, _, k => by rw [VR] at k ⊢; exact k
  | .yld _, _, _, k => by rw [VR] at k ⊢; exact k
  | .nils, _, _, k => by rw [VR] at k ⊢; exact k
  | .ifc t x, _, c, k => by
    rw [VR] at k ⊢
    obtain ⟨u, e, k⟩ := k
    exact ⟨u, e, VR.swap hF x u (by simpa [closed] using c) k⟩
  | .agg cs, _, c, k => by
    rw [VR] at k ⊢
    obtain ⟨us, e, k⟩ := k
    exact ⟨us, e, VRs.swap hF cs us (by simpa [closed] using c) k⟩
  | .tup cs, _, c, k => by
    rw [VR] at k ⊢
    obtain ⟨us, e, k⟩ := k
    exact ⟨us, e, VRs.swap hF cs us (by simpa [closed] using c) k⟩
  | .isl full n cs, _, c, k => by
    rw [VR] at k ⊢
    obtain ⟨a, cc, us, e, k1, k2, k3, k4⟩ := k
    refine ⟨a, cc, us, e, k1, k2, VRs.swap hF cs us (by simpa [closed] using c) k3, fun hn => ?_⟩
    obtain ⟨b, o, e, l⟩ := k4 hn
    exact ⟨b, o, e, fun j u hj => ⟨hF _ _ (l j u hj).1, (l j u hj).2⟩⟩
  | .rp cs, _, c, k => by
    rw [VR] at k ⊢
    obtain ⟨b, o, us, e, k1, k2⟩ := k
    exact ⟨b, o, us, e, VRs.swap hF cs us (by simpa [closed] using c) k1, fun j u hj => ⟨hF _ _ (k2 j u hj).1, (k2 j u hj).2⟩⟩
  | .ptr id off, _, c, k => by simp [closed] at c
  | .sl id ver off n, _, c, k => by simp [closed] at c
  | .rptr id ver off, _, c, k => by simp [closed] at c
  | .fn f cs, _, c, k => by
    rw [VR] at k ⊢
    obtain ⟨us, e, k⟩ := k
    exact ⟨us, e, VRs.swap hF cs us (by simpa [closed] using c) k⟩
theorem VRs.swap (hF : ∀ b o, g.F b o → g'.F b o) : ∀ (cs : List A) (us : List Value), closed.closedL 0 0 cs = true → VRs w g cs us → VRs w g' cs us
  | [], _, _, k => by rw [VRs] at k ⊢; exact k
  | a :: r, _, c, k => by
    rw [closed.closedL, Bool.and_eq_true] at c
    rw [VRs] at k ⊢
    obtain ⟨u, t, e, k1, k2⟩ := k
    exact ⟨u, t, e, VR.swap hF a u c.1 k1, VRs.swap hF r t c.2 k2⟩
end
end
section
variable {C : Cfg}
theorem frame_call (hgl : ∀ n, closed 0 0 (C.gl n) = true) {f : FuncId} {args : List A} {a : A} {m1 : Mem} (hargs : closed.closedL 0 0 args = true) (ha : closed 0 0 a = true) (h : CallOk C f args ⟨[], []⟩ (.ret a, m1)) (m : Mem) : CallOk C f args m (.ret a, m) := by
  refine ⟨h.1, fun w0 g w vals hs hv => ?_⟩
  have hs0 : SR C.P C.gl w { g with nb := 0, rl := [] } ⟨[], []⟩ w := {
    below := Below.refl _ _
    nb := rfl
    rl := rfl
    es := fun i r h => by simp at h
    bx := fun i r h => by simp at h
    rw := fun i r h => by simp at h
    ownb := fun i h => by simp at h
    ownr := fun i h => by simp at h
    injb := fun i j h => by simp at h
    injr := fun i j h => by simp at h
    dis := fun i j h => by simp at h
    lim := hs.lim
    gl := fun n => VR.swap (g := g) (g' := { g with nb := 0, rl := [] }) (fun _ _ h => h) _ _ (hgl n) (hs.gl n)
    dr := fun _ => Nat.le_refl _
    tb := fun hf => (hs.tb hf).up hs.below }
  refine (h.2 w _ w vals hs0 (VRs.swap (g := g) (g' := { g with nb := 0, rl := [] }) (fun _ _ h => h) _ _ hargs hv)).mono fun e w' hR => ?_
  obtain ⟨g', hs', hx, hres⟩ := hR
  have hbel := hs'.below
  have hno : ∀ b, b < w.heap.size → (∀ o, ¬ g.F b o) → ∀ o, ¬ g'.F b o := fun b hb hF => (hx.fr b hb ⟨fun i hi => absurd hi (Nat.not_lt_zero _), fun i hi => by simp at hi, hF⟩).2.2.2
  have hcell : ∀ k o, k < w.heap.size → w'.cell? ⟨k, o, none⟩ = w.cell? ⟨k, o, none⟩ := fun k o hk => hbel.cell (p := ⟨k, o, none⟩) hk
  have hext : Ext w g w' { g with F := fun b o => g.F b o ∨ g'.F b o } := ⟨⟨fun k o hF => ⟨.inl hF, hcell k o (hs.lim k o hF)⟩, Nat.le_refl _, fun _ _ => rfl, fun i L h => ⟨L, h, Nat.le_refl _, fun _ => ⟨rfl, rfl, rfl⟩, rfl⟩⟩, fun b hb hl => ⟨hbel.block b hb, hl.1, hl.2.1, fun o hF => by
    rcases hF with hF | hF
    · exact hl.2.2 o hF
    · exact hno b hb hl.2.2 o hF⟩, hbel.size⟩
  refine ⟨{ g with F := fun b o => g.F b o ∨ g'.F b o }, ?_, hext, ?_⟩
  · exact {
      below := hs.below.trans (hbel.mono hs.szB)
      nb := hs.nb
      rl := hs.rl
      es := hs.es
      bx := fun i cs hi => by
        obtain ⟨us, t, h1, h2⟩ := hs.bx i cs hi
        refine ⟨us, t, ?_, h2.mono hext⟩
        rw [hbel.block _ (Array.getElem?_eq_some_iff.1 h1).1]
        exact h1
      rw := fun i r hi => by
        obtain ⟨us, ss, rest, h1, h2, h3, h4⟩ := hs.rw i r hi
        refine ⟨us, ss, rest, ?_, h2, h3, h4.mono hext⟩
        rw [hbel.block _ (Array.getElem?_eq_some_iff.1 h1).1]
        exact h1
      ownb := fun i hi => ⟨(hs.ownb i hi).1, fun o hF => by
        rcases hF with hF | hF
        · exact (hs.ownb i hi).2 o hF
        · exact hno _ (hs.bb_lt hi) (hs.ownb i hi).2 o hF⟩
      ownr := fun i hi => ⟨(hs.ownr i hi).1, fun o hF => by
        rcases hF with hF | hF
        · exact (hs.ownr i hi).2 o hF
        · exact hno _ (hs.br_lt hi) (hs.ownr i hi).2 o hF⟩
      injb := hs.injb
      injr := hs.injr
      dis := hs.dis
      lim := fun b o hF => by
        rcases hF with hF | hF
        · exact Nat.lt_of_lt_of_le (hs.lim b o hF) hbel.size
        · exact hs'.lim b o hF
      gl := fun n => (hs.gl n).mono hext
      dr := fun hf => Nat.le_trans (hs.dr hf) (hs'.dr hf)
      tb := hs.tb }
  · cases e with
    | returned v => exact VR.swap (g := g') (fun _ _ h => Or.inr h) _ _ ha hres
    | panicked ch => exact hres.elim
    | outgrown => exact hres.elim
end
end AE
end Go.Proofs.YtopfodhjlhpdmaaGreatDoor
