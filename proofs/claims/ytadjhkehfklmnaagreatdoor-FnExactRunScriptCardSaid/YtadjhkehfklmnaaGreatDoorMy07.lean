/-
  Texts joined: how the calls that the law reaches are walked, and the plain laws behind them.
  Conditions: none beyond each statement's own premises.
-/
import Derived.Test.YtadjhkehfklmnaaGreatDoorMy06
import Derived.Shelf.Strings.Builder1
import Derived.Shelf.Strings.Builder2
import Derived.Shelf.Strings.OnBuilder
import Derived.Shelf.Small.Bits
import Derived.Shelf.Small.Wraps
import Derived.Shelf.Strings.BuilderF
import Derived.Shelf.Strings.BuilderK
import Derived.Shelf.Utf8.RuneCount
import Derived.Shelf.Strings.Builder2Cap
import Derived.Shelf.Strconv.Atoi
import Derived.Shelf.Strconv.Itoa0
import Derived.Shelf.Strconv.Itoa1
import Derived.Shelf.LaysM
import Derived.Shelf.Strconv.Itoa2
import Derived.Shelf.Strconv.Itoa3
import Derived.Shelf.Strconv.AtoiErrFast
import Derived.Shelf.Strconv.ParseIntEmpty
import Derived.Shelf.Strconv.AtoiFail
import Derived.Shelf.Strconv.Clone
import Derived.Shelf.Strconv.SyntaxError
import Derived.Shelf.LaysC
import Derived.Shelf.Strconv.ToError
import Derived.Shelf.Strconv.AtoiErr
import Derived.Shelf.Strconv.ErrVar
import Derived.Shelf.Strconv.Lower
import Derived.Shelf.Strconv.ParseUint10
import Derived.Shelf.Strconv.ParseUint10Empty
import Derived.Shelf.Strconv.ParseUint10Any
import Derived.Shelf.Strconv.ParseInt10
import Derived.Shelf.Strconv.AtoiLong
import Derived.Shelf.Strconv.AtoiInnerAll
import Derived.Shelf.Strconv.RangeError
import Derived.Shelf.Strconv.ToErrorRange
import Derived.Shelf.Strconv.AtoiAll
import Derived.Shelf.Strconv.ErrVarAll
import Derived.Shelf.Strconv.ParseUintEmpty
import Derived.Shelf.Strconv.ParseUint10b64
import Derived.Shelf.Strconv.ParseUint10b32
import Derived.Shelf.Strconv.ParseUint10b16
import Derived.Shelf.Strconv.ParseUint10b8
import Derived.Shelf.Strconv.ParseUint10At
import Derived.Shelf.Strconv.ParseInt10At64
import Derived.Shelf.Strconv.ParseInt10At32
import Derived.Shelf.Strconv.ParseInt10At16
import Derived.Shelf.Strconv.ParseInt10At8
import Derived.Shelf.Strconv.ParseInt10All
import Derived.Shelf.Strings.Search1
import Derived.Shelf.Strings.Search2
import Derived.Shelf.Strings.Search3
import Derived.Shelf.Strings.Cut
import Derived.Shelf.Strings.Count
import Derived.Shelf.Strings.Shaped
import Derived.Shelf.Strings.Split
import Derived.Shelf.Strings.SplitShaped
import Derived.Shelf.Unicode.Decode
import Derived.Shelf.Strings.RuneCount
import Derived.Shelf.Strings.Explode
import Derived.Shelf.Unicode.DecodeSlow
import Derived.Shelf.Unicode.DecodeAny
import Derived.Shelf.Strings.BuilderCap
import Derived.Shelf.Slices.Turned
import Derived.Ground.Names2Prog
import Derived.Shelf.Slices.SearchI
import Derived.Test.YtadjhkehfklmnaaGreatDoorProg
import Derived.WalkSmall
import Derived.Lib.LaidTab
import Derived.Lib.AppendIntMem
namespace Go.Proofs
open Go.Shelf
def Tryz.lays156_ren : Go.Shelf.Ren := ⟨fun | 156 => 179 | 165 => 212 | 166 => 213 | 169 => 214 | 240 => 238 | 241 => 239 | 276 => 251 | 277 => 252 | n => n, fun | 31 => 31 | 9 => 9 | 3 => 3 | 4 => 4 | 0 => 0 | 20 => 20 | 72 => 224 | 76 => 202 | 70 => 222 | 37 => 46 | 75 => 201 | 127 => 248 | 164 => 259 | 5 => 5 | 80 => 226 | n => n, fun | n => n⟩
theorem Tryz.lays156 : Go.Proofs.Lays.n156 Tryz.prog Tryz.lays156_ren := {
  mixed := by kernel_rfl
  f156 := Tryz.func179.trans (congrArg some (by kernel_rfl))
  f165 := Tryz.func212.trans (congrArg some (by kernel_rfl))
  f166 := Tryz.func213.trans (congrArg some (by kernel_rfl))
  f169 := Tryz.func214.trans (congrArg some (by kernel_rfl))
  f240 := Tryz.func238.trans (congrArg some (by kernel_rfl))
  f241 := Tryz.func239.trans (congrArg some (by kernel_rfl))
  f276 := Tryz.func251.trans (congrArg some (by kernel_rfl))
  f277 := Tryz.func252.trans (congrArg some (by kernel_rfl))
  t0 := Tryz.underlying0
  a0 := Tryz.isAgg0
  z0 := Tryz.sizeOf0
  v0 := Tryz.zeroValue0
  t3 := Tryz.underlying3
  a3 := Tryz.isAgg3
  z3 := Tryz.sizeOf3
  v3 := Tryz.zeroValue3
  t4 := Tryz.underlying4
  a4 := Tryz.isAgg4
  z4 := Tryz.sizeOf4
  v4 := Tryz.zeroValue4
  t9 := Tryz.underlying9
  a9 := Tryz.isAgg9
  z9 := Tryz.sizeOf9
  v9 := Tryz.zeroValue9
  t20 := Tryz.underlying20
  a20 := Tryz.isAgg20
  z20 := Tryz.sizeOf20
  v20 := Tryz.zeroValue20
  t31 := Tryz.underlying31
  a31 := Tryz.isAgg31
  z31 := Tryz.sizeOf31
  v31 := Tryz.zeroValue31
  t37 := Tryz.underlying46
  a37 := Tryz.isAgg46
  z37 := Tryz.sizeOf46
  v37 := Tryz.zeroValue46
  t70 := Tryz.underlying222
  a70 := Tryz.isAgg222
  z70 := Tryz.sizeOf222
  v70 := Tryz.zeroValue222
  t72 := Tryz.underlying224
  a72 := Tryz.isAgg224
  z72 := Tryz.sizeOf224
  v72 := Tryz.zeroValue224
  t75 := Tryz.underlying201
  a75 := Tryz.isAgg201
  z75 := Tryz.sizeOf201
  v75 := Tryz.zeroValue201
  t76 := Tryz.underlying202
  a76 := Tryz.isAgg202
  z76 := Tryz.sizeOf202
  v76 := Tryz.zeroValue202
  t127 := Tryz.underlying248
  a127 := Tryz.isAgg248
  z127 := Tryz.sizeOf248
  v127 := Tryz.zeroValue248
  t164 := Tryz.underlying259
  a164 := Tryz.isAgg259
  z164 := Tryz.sizeOf259
  v164 := Tryz.zeroValue259 }
theorem Tryz.Builder_Extra_156 : Builder.Extra Tryz.prog Tryz.lays156_ren := {
  sizeBuilder := by kernel_rfl
  liesBuilder := by kernel_rfl
  t5 := Tryz.underlying5
  a5 := Tryz.isAgg5
  z5 := Tryz.sizeOf5
  v5 := Tryz.zeroValue5
  infoByte := by kernel_rfl
  cellsByte := by kernel_rfl
  sizeByte := by kernel_rfl
  neB5 := by decide }
open Go.RowKit in
theorem Tryz.strings_Join (bk o c : Nat) (xs : List ByteArray) (sep : ByteArray) (w : World) (hcells : ∀ (j : Nat) x, xs[j]? = some x → w.cell? ⟨bk, o + j, none⟩ = some (.string x)) (hbk : bk < w.heap.size) (hN : xs.length ≤ 140737488355328) (hcap : xs.length ≤ c) (hlen : (Lib.join (xs.map (·.data.toList)) sep.data.toList).length ≤ 140737488355328) :
    Calls Tryz.prog 179 #[.slice (some ⟨bk, o, none⟩) xs.length c, .string sep] w fun e w' => e = .returned (.string ⟨(Lib.join (xs.map (·.data.toList)) sep.data.toList).toArray⟩) ∧ Below w.heap.size w w' := Any.strings_Join Tryz.lays156 Tryz.Builder_Extra_156 bk o c xs sep w hcells hbk hN hcap hlen
def Tryz.lays125_ren : Go.Shelf.Ren := ⟨fun | 125 => 261 | 128 => 271 | 129 => 205 | n => n, fun | 46 => 162 | 3 => 3 | 51 => 216 | 53 => 87 | 4 => 4 | 5 => 5 | 9 => 9 | n => n, fun | n => n⟩
theorem Tryz.lays125 : Go.Proofs.Lays.n125 Tryz.prog Tryz.lays125_ren := {
  mixed := by kernel_rfl
  f125 := Tryz.func261.trans (congrArg some (by kernel_rfl))
  f128 := Tryz.func271.trans (congrArg some (by kernel_rfl))
  f129 := Tryz.func205.trans (congrArg some (by kernel_rfl))
  t3 := Tryz.underlying3
  a3 := Tryz.isAgg3
  z3 := Tryz.sizeOf3
  v3 := Tryz.zeroValue3
  t4 := Tryz.underlying4
  a4 := Tryz.isAgg4
  z4 := Tryz.sizeOf4
  v4 := Tryz.zeroValue4
  t5 := Tryz.underlying5
  a5 := Tryz.isAgg5
  z5 := Tryz.sizeOf5
  v5 := Tryz.zeroValue5
  t9 := Tryz.underlying9
  a9 := Tryz.isAgg9
  z9 := Tryz.sizeOf9
  v9 := Tryz.zeroValue9
  t46 := Tryz.underlying162
  a46 := Tryz.isAgg162
  z46 := Tryz.sizeOf162
  v46 := Tryz.zeroValue162
  t51 := Tryz.underlying216
  a51 := Tryz.isAgg216
  z51 := Tryz.sizeOf216
  v51 := Tryz.zeroValue216
  t53 := Tryz.underlying87
  a53 := Tryz.isAgg87
  z53 := Tryz.sizeOf87
  v53 := Tryz.zeroValue87 }
theorem Tryz.bits_Len (x : Int) (w : World) (h0 : 0 ≤ x) (h1 : x ≤ 18446744073709551615) :
    Calls Tryz.prog 261 #[.int .u64 x] w fun e w' => e = .returned (.int .i64 (Lib.bitLen x.toNat)) ∧ w' = w := Any.bits_Len Tryz.lays125 x w h0 h1
def Tryz.lays172_ren : Go.Shelf.Ren := ⟨fun | 172 => 175 | 244 => 209 | 245 => 210 | 247 => 233 | 279 => 234 | 280 => 235 | 281 => 236 | 282 => 237 | 287 => 248 | 316 => 249 | 171 => 59 | 205 => 250 | 321 => 258 | 322 => 259 | 243 => 103 | 246 => 135 | 283 => 170 | 284 => 171 | 285 => 172 | 286 => 173 | 129 => 205 | 317 => 204 | 318 => 206 | 319 => 207 | 320 => 208 | 337 => 231 | 338 => 232 | n => n, fun | 9 => 9 | 3 => 3 | 75 => 201 | 76 => 202 | 4 => 4 | 5 => 5 | 167 => 242 | 37 => 46 | 0 => 0 | 85 => 243 | 2 => 2 | 168 => 245 | 53 => 87 | 175 => 254 | 46 => 162 | 210 => 257 | 127 => 248 | 145 => 268 | 143 => 266 | 21 => 21 | 171 => 195 | 173 => 198 | 212 => 215 | 51 => 216 | 20 => 20 | 213 => 217 | 232 => 252 | 233 => 253 | 80 => 226 | n => n, fun | 15 => 6 | 16 => 7 | 17 => 1 | 18 => 4 | 19 => 5 | n => n⟩
theorem Tryz.lays172 : Go.Proofs.Lays.n172 Tryz.prog Tryz.lays172_ren := {
  mixed := by kernel_rfl
  f129 := Tryz.func205.trans (congrArg some (by kernel_rfl))
  f171 := Tryz.func59.trans (congrArg some (by kernel_rfl))
  f172 := Tryz.func175.trans (congrArg some (by kernel_rfl))
  f205 := Tryz.func250.trans (congrArg some (by kernel_rfl))
  f243 := Tryz.func103.trans (congrArg some (by kernel_rfl))
  f244 := Tryz.func209.trans (congrArg some (by kernel_rfl))
  f245 := Tryz.func210.trans (congrArg some (by kernel_rfl))
  f246 := Tryz.func135.trans (congrArg some (by kernel_rfl))
  f247 := Tryz.func233.trans (congrArg some (by kernel_rfl))
  f279 := Tryz.func234.trans (congrArg some (by kernel_rfl))
  f280 := Tryz.func235.trans (congrArg some (by kernel_rfl))
  f281 := Tryz.func236.trans (congrArg some (by kernel_rfl))
  f282 := Tryz.func237.trans (congrArg some (by kernel_rfl))
  f283 := Tryz.func170.trans (congrArg some (by kernel_rfl))
  f284 := Tryz.func171.trans (congrArg some (by kernel_rfl))
  f285 := Tryz.func172.trans (congrArg some (by kernel_rfl))
  f286 := Tryz.func173.trans (congrArg some (by kernel_rfl))
  f287 := Tryz.func248.trans (congrArg some (by kernel_rfl))
  f316 := Tryz.func249.trans (congrArg some (by kernel_rfl))
  f317 := Tryz.func204.trans (congrArg some (by kernel_rfl))
  f318 := Tryz.func206.trans (congrArg some (by kernel_rfl))
  f319 := Tryz.func207.trans (congrArg some (by kernel_rfl))
  f320 := Tryz.func208.trans (congrArg some (by kernel_rfl))
  f321 := Tryz.func258.trans (congrArg some (by kernel_rfl))
  f322 := Tryz.func259.trans (congrArg some (by kernel_rfl))
  f337 := Tryz.func231.trans (congrArg some (by kernel_rfl))
  f338 := Tryz.func232.trans (congrArg some (by kernel_rfl))
  t0 := Tryz.underlying0
  a0 := Tryz.isAgg0
  z0 := Tryz.sizeOf0
  v0 := Tryz.zeroValue0
  t2 := Tryz.underlying2
  a2 := Tryz.isAgg2
  z2 := Tryz.sizeOf2
  v2 := Tryz.zeroValue2
  t3 := Tryz.underlying3
  a3 := Tryz.isAgg3
  z3 := Tryz.sizeOf3
  v3 := Tryz.zeroValue3
  t4 := Tryz.underlying4
  a4 := Tryz.isAgg4
  z4 := Tryz.sizeOf4
  v4 := Tryz.zeroValue4
  t5 := Tryz.underlying5
  a5 := Tryz.isAgg5
  z5 := Tryz.sizeOf5
  v5 := Tryz.zeroValue5
  t9 := Tryz.underlying9
  a9 := Tryz.isAgg9
  z9 := Tryz.sizeOf9
  v9 := Tryz.zeroValue9
  t20 := Tryz.underlying20
  a20 := Tryz.isAgg20
  z20 := Tryz.sizeOf20
  v20 := Tryz.zeroValue20
  t21 := Tryz.underlying21
  a21 := Tryz.isAgg21
  z21 := Tryz.sizeOf21
  v21 := Tryz.zeroValue21
  t37 := Tryz.underlying46
  a37 := Tryz.isAgg46
  z37 := Tryz.sizeOf46
  v37 := Tryz.zeroValue46
  t46 := Tryz.underlying162
  a46 := Tryz.isAgg162
  z46 := Tryz.sizeOf162
  v46 := Tryz.zeroValue162
  t51 := Tryz.underlying216
  a51 := Tryz.isAgg216
  z51 := Tryz.sizeOf216
  v51 := Tryz.zeroValue216
  t53 := Tryz.underlying87
  a53 := Tryz.isAgg87
  z53 := Tryz.sizeOf87
  v53 := Tryz.zeroValue87
  t75 := Tryz.underlying201
  a75 := Tryz.isAgg201
  z75 := Tryz.sizeOf201
  v75 := Tryz.zeroValue201
  t76 := Tryz.underlying202
  a76 := Tryz.isAgg202
  z76 := Tryz.sizeOf202
  v76 := Tryz.zeroValue202
  t85 := Tryz.underlying243
  a85 := Tryz.isAgg243
  z85 := Tryz.sizeOf243
  v85 := Tryz.zeroValue243
  t127 := Tryz.underlying248
  a127 := Tryz.isAgg248
  z127 := Tryz.sizeOf248
  v127 := Tryz.zeroValue248
  t143 := Tryz.underlying266
  a143 := Tryz.isAgg266
  z143 := Tryz.sizeOf266
  v143 := Tryz.zeroValue266
  t145 := Tryz.underlying268
  a145 := Tryz.isAgg268
  z145 := Tryz.sizeOf268
  v145 := Tryz.zeroValue268
  t167 := Tryz.underlying242
  a167 := Tryz.isAgg242
  z167 := Tryz.sizeOf242
  v167 := Tryz.zeroValue242
  t168 := Tryz.underlying245
  a168 := Tryz.isAgg245
  z168 := Tryz.sizeOf245
  v168 := Tryz.zeroValue245
  t171 := Tryz.underlying195
  a171 := Tryz.isAgg195
  z171 := Tryz.sizeOf195
  v171 := Tryz.zeroValue195
  t173 := Tryz.underlying198
  a173 := Tryz.isAgg198
  z173 := Tryz.sizeOf198
  v173 := Tryz.zeroValue198
  t175 := Tryz.underlying254
  a175 := Tryz.isAgg254
  z175 := Tryz.sizeOf254
  v175 := Tryz.zeroValue254
  t210 := Tryz.underlying257
  a210 := Tryz.isAgg257
  z210 := Tryz.sizeOf257
  v210 := Tryz.zeroValue257
  t212 := Tryz.underlying215
  a212 := Tryz.isAgg215
  z212 := Tryz.sizeOf215
  v212 := Tryz.zeroValue215
  t213 := Tryz.underlying217
  a213 := Tryz.isAgg217
  z213 := Tryz.sizeOf217
  t232 := Tryz.underlying252
  a232 := Tryz.isAgg252
  z232 := Tryz.sizeOf252
  v232 := Tryz.zeroValue252
  t233 := Tryz.underlying253
  a233 := Tryz.isAgg253
  z233 := Tryz.sizeOf253
  v233 := Tryz.zeroValue253
  g15 := by kernel_rfl
  g16 := by kernel_rfl
  g17 := by kernel_rfl
  g18 := by kernel_rfl
  g19 := by kernel_rfl }
open Go.RowKit in
theorem Tryz.strconv_Atoi (s : ByteArray) (n : Int) (hl : s.size ≤ 18) (h : Lib.atoi s.data.toList = some n) (w : World) :
    Calls Tryz.prog 175 #[.string s] w fun e w' => e = .returned (.tuple #[.int .i64 n, .nilIface]) ∧ ∃ t, w' = Lib.bytesWorld w 5 t := Any.strconv_Atoi Tryz.lays172 s n hl h w
def Tryz.laysM171_ren : Go.Shelf.Ren := ⟨fun | 171 => 59 | 243 => 103 | 246 => 135 | 283 => 170 | 284 => 171 | 285 => 172 | 286 => 173 | 129 => 205 | 317 => 204 | 318 => 206 | 319 => 207 | 320 => 208 | 337 => 231 | 338 => 232 | n => n, fun | 3 => 3 | 9 => 9 | 2 => 2 | 4 => 4 | 171 => 195 | 0 => 0 | 53 => 87 | 37 => 46 | 5 => 5 | 173 => 198 | 212 => 215 | 51 => 216 | 20 => 20 | 213 => 217 | 46 => 162 | 232 => 252 | 233 => 253 | n => n, fun | 17 => 1 | 18 => 4 | 19 => 5 | n => n⟩
theorem Tryz.laysM171 : Go.Proofs.LaysM.n171 Tryz.prog Tryz.laysM171_ren := {
  mixed := by kernel_rfl
  f129 := Tryz.func205.trans (congrArg some (by kernel_rfl))
  f171 := Tryz.func59.trans (congrArg some (by kernel_rfl))
  f243 := Tryz.func103.trans (congrArg some (by kernel_rfl))
  f246 := Tryz.func135.trans (congrArg some (by kernel_rfl))
  f283 := Tryz.func170.trans (congrArg some (by kernel_rfl))
  f284 := Tryz.func171.trans (congrArg some (by kernel_rfl))
  f285 := Tryz.func172.trans (congrArg some (by kernel_rfl))
  f286 := Tryz.func173.trans (congrArg some (by kernel_rfl))
  f317 := Tryz.func204.trans (congrArg some (by kernel_rfl))
  f318 := Tryz.func206.trans (congrArg some (by kernel_rfl))
  f319 := Tryz.func207.trans (congrArg some (by kernel_rfl))
  f320 := Tryz.func208.trans (congrArg some (by kernel_rfl))
  f337 := Tryz.func231.trans (congrArg some (by kernel_rfl))
  f338 := Tryz.func232.trans (congrArg some (by kernel_rfl))
  t0 := Tryz.underlying0
  a0 := Tryz.isAgg0
  z0 := Tryz.sizeOf0
  v0 := Tryz.zeroValue0
  t2 := Tryz.underlying2
  a2 := Tryz.isAgg2
  z2 := Tryz.sizeOf2
  v2 := Tryz.zeroValue2
  t3 := Tryz.underlying3
  a3 := Tryz.isAgg3
  z3 := Tryz.sizeOf3
  v3 := Tryz.zeroValue3
  t4 := Tryz.underlying4
  a4 := Tryz.isAgg4
  z4 := Tryz.sizeOf4
  v4 := Tryz.zeroValue4
  t5 := Tryz.underlying5
  a5 := Tryz.isAgg5
  z5 := Tryz.sizeOf5
  v5 := Tryz.zeroValue5
  t9 := Tryz.underlying9
  a9 := Tryz.isAgg9
  z9 := Tryz.sizeOf9
  v9 := Tryz.zeroValue9
  t20 := Tryz.underlying20
  a20 := Tryz.isAgg20
  z20 := Tryz.sizeOf20
  v20 := Tryz.zeroValue20
  t37 := Tryz.underlying46
  a37 := Tryz.isAgg46
  z37 := Tryz.sizeOf46
  v37 := Tryz.zeroValue46
  t46 := Tryz.underlying162
  a46 := Tryz.isAgg162
  z46 := Tryz.sizeOf162
  v46 := Tryz.zeroValue162
  t51 := Tryz.underlying216
  a51 := Tryz.isAgg216
  z51 := Tryz.sizeOf216
  v51 := Tryz.zeroValue216
  t53 := Tryz.underlying87
  a53 := Tryz.isAgg87
  z53 := Tryz.sizeOf87
  v53 := Tryz.zeroValue87
  t171 := Tryz.underlying195
  a171 := Tryz.isAgg195
  z171 := Tryz.sizeOf195
  v171 := Tryz.zeroValue195
  t173 := Tryz.underlying198
  a173 := Tryz.isAgg198
  z173 := Tryz.sizeOf198
  v173 := Tryz.zeroValue198
  t212 := Tryz.underlying215
  a212 := Tryz.isAgg215
  z212 := Tryz.sizeOf215
  v212 := Tryz.zeroValue215
  t213 := Tryz.underlying217
  a213 := Tryz.isAgg217
  z213 := Tryz.sizeOf217
  t232 := Tryz.underlying252
  a232 := Tryz.isAgg252
  z232 := Tryz.sizeOf252
  v232 := Tryz.zeroValue252
  t233 := Tryz.underlying253
  a233 := Tryz.isAgg253
  z233 := Tryz.sizeOf253
  v233 := Tryz.zeroValue253
  g17 := by kernel_rfl
  g18 := by kernel_rfl
  g19 := by kernel_rfl
  i0 := by kernel_rfl
  i2 := by kernel_rfl
  i3 := by kernel_rfl
  i4 := by kernel_rfl
  i5 := by kernel_rfl
  i9 := by kernel_rfl
  i20 := by kernel_rfl
  i37 := by kernel_rfl
  i46 := by kernel_rfl
  i51 := by kernel_rfl
  i53 := by kernel_rfl
  i171 := by kernel_rfl
  i173 := by kernel_rfl
  i212 := by kernel_rfl
  i232 := by kernel_rfl
  i233 := by kernel_rfl
  m17 := by kernel_rfl
  m18 := by kernel_rfl
  m19 := by kernel_rfl }
open Go.RowKit Go.Sort Go.Lib in
theorem Tryz.strconv_Itoa (n : Int) (h0 : -9223372036854775808 ≤ n) (h1 : n ≤ 9223372036854775807) (w : World) (htab : Lib.TabIs Tryz.prog w "internal/strconv.uint64pow10" .u64 Lib.pow10Tab) :
    Calls Tryz.prog 59 #[.int .i64 n] w fun e w' => e = .returned (.string ⟨(Lib.itoa n).toArray⟩) ∧ ∃ k os, w' = grow (w.drewN k) os := Any.strconv_Itoa Tryz.laysM171 n h0 h1 w htab
def Tryz.laysC172_ren : Go.Shelf.Ren := ⟨fun | 172 => 175 | 244 => 209 | 245 => 210 | 247 => 233 | 279 => 234 | 280 => 235 | 281 => 236 | 282 => 237 | 287 => 248 | 316 => 249 | 171 => 59 | 205 => 250 | 321 => 258 | 322 => 259 | 243 => 103 | 246 => 135 | 283 => 170 | 284 => 171 | 285 => 172 | 286 => 173 | 129 => 205 | 317 => 204 | 318 => 206 | 319 => 207 | 320 => 208 | 337 => 231 | 338 => 232 | n => n, fun | 9 => 9 | 3 => 3 | 75 => 201 | 76 => 202 | 4 => 4 | 5 => 5 | 167 => 242 | 37 => 46 | 0 => 0 | 85 => 243 | 2 => 2 | 168 => 245 | 53 => 87 | 175 => 254 | 46 => 162 | 210 => 257 | 127 => 248 | 145 => 268 | 143 => 266 | 21 => 21 | 171 => 195 | 173 => 198 | 212 => 215 | 51 => 216 | 20 => 20 | 213 => 217 | 232 => 252 | 233 => 253 | 80 => 226 | n => n, fun | 15 => 6 | 16 => 7 | 17 => 1 | 18 => 4 | 19 => 5 | n => n⟩
theorem Tryz.laysC172 : Go.Proofs.LaysC.n172 Tryz.prog Tryz.laysC172_ren := {
  mixed := by kernel_rfl
  f129 := Tryz.func205.trans (congrArg some (by kernel_rfl))
  f171 := Tryz.func59.trans (congrArg some (by kernel_rfl))
  f172 := Tryz.func175.trans (congrArg some (by kernel_rfl))
  f205 := Tryz.func250.trans (congrArg some (by kernel_rfl))
  f243 := Tryz.func103.trans (congrArg some (by kernel_rfl))
  f244 := Tryz.func209.trans (congrArg some (by kernel_rfl))
  f245 := Tryz.func210.trans (congrArg some (by kernel_rfl))
  f246 := Tryz.func135.trans (congrArg some (by kernel_rfl))
  f247 := Tryz.func233.trans (congrArg some (by kernel_rfl))
  f279 := Tryz.func234.trans (congrArg some (by kernel_rfl))
  f280 := Tryz.func235.trans (congrArg some (by kernel_rfl))
  f281 := Tryz.func236.trans (congrArg some (by kernel_rfl))
  f282 := Tryz.func237.trans (congrArg some (by kernel_rfl))
  f283 := Tryz.func170.trans (congrArg some (by kernel_rfl))
  f284 := Tryz.func171.trans (congrArg some (by kernel_rfl))
  f285 := Tryz.func172.trans (congrArg some (by kernel_rfl))
  f286 := Tryz.func173.trans (congrArg some (by kernel_rfl))
  f287 := Tryz.func248.trans (congrArg some (by kernel_rfl))
  f316 := Tryz.func249.trans (congrArg some (by kernel_rfl))
  f317 := Tryz.func204.trans (congrArg some (by kernel_rfl))
  f318 := Tryz.func206.trans (congrArg some (by kernel_rfl))
  f319 := Tryz.func207.trans (congrArg some (by kernel_rfl))
  f320 := Tryz.func208.trans (congrArg some (by kernel_rfl))
  f321 := Tryz.func258.trans (congrArg some (by kernel_rfl))
  f322 := Tryz.func259.trans (congrArg some (by kernel_rfl))
  f337 := Tryz.func231.trans (congrArg some (by kernel_rfl))
  f338 := Tryz.func232.trans (congrArg some (by kernel_rfl))
  t0 := Tryz.underlying0
  a0 := Tryz.isAgg0
  z0 := Tryz.sizeOf0
  v0 := Tryz.zeroValue0
  t2 := Tryz.underlying2
  a2 := Tryz.isAgg2
  z2 := Tryz.sizeOf2
  v2 := Tryz.zeroValue2
  t3 := Tryz.underlying3
  a3 := Tryz.isAgg3
  z3 := Tryz.sizeOf3
  v3 := Tryz.zeroValue3
  t4 := Tryz.underlying4
  a4 := Tryz.isAgg4
  z4 := Tryz.sizeOf4
  v4 := Tryz.zeroValue4
  t5 := Tryz.underlying5
  a5 := Tryz.isAgg5
  z5 := Tryz.sizeOf5
  v5 := Tryz.zeroValue5
  t9 := Tryz.underlying9
  a9 := Tryz.isAgg9
  z9 := Tryz.sizeOf9
  v9 := Tryz.zeroValue9
  t20 := Tryz.underlying20
  a20 := Tryz.isAgg20
  z20 := Tryz.sizeOf20
  v20 := Tryz.zeroValue20
  t21 := Tryz.underlying21
  a21 := Tryz.isAgg21
  z21 := Tryz.sizeOf21
  v21 := Tryz.zeroValue21
  t37 := Tryz.underlying46
  a37 := Tryz.isAgg46
  z37 := Tryz.sizeOf46
  v37 := Tryz.zeroValue46
  t46 := Tryz.underlying162
  a46 := Tryz.isAgg162
  z46 := Tryz.sizeOf162
  v46 := Tryz.zeroValue162
  t51 := Tryz.underlying216
  a51 := Tryz.isAgg216
  z51 := Tryz.sizeOf216
  v51 := Tryz.zeroValue216
  t53 := Tryz.underlying87
  a53 := Tryz.isAgg87
  z53 := Tryz.sizeOf87
  v53 := Tryz.zeroValue87
  t75 := Tryz.underlying201
  a75 := Tryz.isAgg201
  z75 := Tryz.sizeOf201
  v75 := Tryz.zeroValue201
  t76 := Tryz.underlying202
  a76 := Tryz.isAgg202
  z76 := Tryz.sizeOf202
  v76 := Tryz.zeroValue202
  t85 := Tryz.underlying243
  a85 := Tryz.isAgg243
  z85 := Tryz.sizeOf243
  v85 := Tryz.zeroValue243
  t127 := Tryz.underlying248
  a127 := Tryz.isAgg248
  z127 := Tryz.sizeOf248
  v127 := Tryz.zeroValue248
  t143 := Tryz.underlying266
  a143 := Tryz.isAgg266
  z143 := Tryz.sizeOf266
  v143 := Tryz.zeroValue266
  t145 := Tryz.underlying268
  a145 := Tryz.isAgg268
  z145 := Tryz.sizeOf268
  v145 := Tryz.zeroValue268
  t167 := Tryz.underlying242
  a167 := Tryz.isAgg242
  z167 := Tryz.sizeOf242
  v167 := Tryz.zeroValue242
  t168 := Tryz.underlying245
  a168 := Tryz.isAgg245
  z168 := Tryz.sizeOf245
  v168 := Tryz.zeroValue245
  t171 := Tryz.underlying195
  a171 := Tryz.isAgg195
  z171 := Tryz.sizeOf195
  v171 := Tryz.zeroValue195
  t173 := Tryz.underlying198
  a173 := Tryz.isAgg198
  z173 := Tryz.sizeOf198
  v173 := Tryz.zeroValue198
  t175 := Tryz.underlying254
  a175 := Tryz.isAgg254
  z175 := Tryz.sizeOf254
  v175 := Tryz.zeroValue254
  t210 := Tryz.underlying257
  a210 := Tryz.isAgg257
  z210 := Tryz.sizeOf257
  v210 := Tryz.zeroValue257
  t212 := Tryz.underlying215
  a212 := Tryz.isAgg215
  z212 := Tryz.sizeOf215
  v212 := Tryz.zeroValue215
  t213 := Tryz.underlying217
  a213 := Tryz.isAgg217
  z213 := Tryz.sizeOf217
  t232 := Tryz.underlying252
  a232 := Tryz.isAgg252
  z232 := Tryz.sizeOf252
  v232 := Tryz.zeroValue252
  t233 := Tryz.underlying253
  a233 := Tryz.isAgg253
  z233 := Tryz.sizeOf253
  v233 := Tryz.zeroValue253
  g15 := by kernel_rfl
  g16 := by kernel_rfl
  g17 := by kernel_rfl
  g18 := by kernel_rfl
  g19 := by kernel_rfl
  t80 := Tryz.underlying226
  a80 := Tryz.isAgg226
  z80 := Tryz.sizeOf226
  v80 := Tryz.zeroValue226
  i0 := by kernel_rfl
  i2 := by kernel_rfl
  i3 := by kernel_rfl
  i4 := by kernel_rfl
  i5 := by kernel_rfl
  i9 := by kernel_rfl
  i20 := by kernel_rfl
  i21 := by kernel_rfl
  i37 := by kernel_rfl
  i46 := by kernel_rfl
  i51 := by kernel_rfl
  i53 := by kernel_rfl
  i75 := by kernel_rfl
  i76 := by kernel_rfl
  i80 := by kernel_rfl
  i85 := by kernel_rfl
  i127 := by kernel_rfl
  i143 := by kernel_rfl
  i145 := by kernel_rfl
  i167 := by kernel_rfl
  i168 := by kernel_rfl
  i171 := by kernel_rfl
  i173 := by kernel_rfl
  i175 := by kernel_rfl
  i210 := by kernel_rfl
  i212 := by kernel_rfl
  i232 := by kernel_rfl
  i233 := by kernel_rfl
  m15 := by kernel_rfl
  m16 := by kernel_rfl
  m17 := by kernel_rfl
  m18 := by kernel_rfl
  m19 := by kernel_rfl
  c0 := by kernel_rfl
  c2 := by kernel_rfl
  c3 := by kernel_rfl
  c4 := by kernel_rfl
  c5 := by kernel_rfl
  c9 := by kernel_rfl
  c20 := by kernel_rfl
  c21 := by kernel_rfl
  c37 := by kernel_rfl
  c46 := by kernel_rfl
  c51 := by kernel_rfl
  c53 := by kernel_rfl
  c75 := by kernel_rfl
  c76 := by kernel_rfl
  c80 := by kernel_rfl
  c85 := by kernel_rfl
  c127 := by kernel_rfl
  c143 := by kernel_rfl
  c145 := by kernel_rfl
  c167 := by kernel_rfl
  c168 := by kernel_rfl
  c171 := by kernel_rfl
  c173 := by kernel_rfl
  c175 := by kernel_rfl
  c210 := by kernel_rfl
  c212 := by kernel_rfl
  c213 := by kernel_rfl
  c232 := by kernel_rfl
  c233 := by kernel_rfl }
open Go.RowKit in
theorem Tryz.strconv_Atoi_err (s : ByteArray) (hl : s.size ≤ 18) (h : Lib.atoi s.data.toList = none) (ev : Value) (w : World) (hv : w.cell? ⟨6, 0, none⟩ = some ev) (hev : ev = .nilIface ∨ ∃ te pe, ev = .iface te pe) :
    Calls Tryz.prog 175 #[.string s] w fun e w' => ∃ N, e = .returned (.tuple #[.int .i64 0, .iface 245 (.pointer (some ⟨N, 0, none⟩))]) ∧ w.heap.size ≤ N ∧ w'.heap[N]? = some (.cells #[.string ⟨#[65, 116, 111, 105]⟩, .string s, ev] 257 (0, 0)) ∧ Below w.heap.size w w' := Any.strconv_Atoi_err Tryz.laysC172 s hl h ev w hv hev
def Tryz.lays219_ren : Go.Shelf.Ren := ⟨fun | 219 => 165 | 217 => 199 | 225 => 200 | 224 => 201 | 267 => 202 | 266 => 229 | 314 => 230 | n => n, fun | 9 => 9 | 3 => 3 | 4 => 4 | 5 => 5 | 46 => 162 | 146 => 239 | 51 => 216 | n => n, fun | 1 => 0 | n => n⟩
theorem Tryz.lays219 : Go.Proofs.Lays.n219 Tryz.prog Tryz.lays219_ren := {
  mixed := by kernel_rfl
  f217 := Tryz.func199.trans (congrArg some (by kernel_rfl))
  f219 := Tryz.func165.trans (congrArg some (by kernel_rfl))
  f224 := Tryz.func201.trans (congrArg some (by kernel_rfl))
  f225 := Tryz.func200.trans (congrArg some (by kernel_rfl))
  f266 := Tryz.func229.trans (congrArg some (by kernel_rfl))
  f267 := Tryz.func202.trans (congrArg some (by kernel_rfl))
  f314 := Tryz.func230.trans (congrArg some (by kernel_rfl))
  t3 := Tryz.underlying3
  a3 := Tryz.isAgg3
  z3 := Tryz.sizeOf3
  v3 := Tryz.zeroValue3
  t4 := Tryz.underlying4
  a4 := Tryz.isAgg4
  z4 := Tryz.sizeOf4
  v4 := Tryz.zeroValue4
  t5 := Tryz.underlying5
  a5 := Tryz.isAgg5
  z5 := Tryz.sizeOf5
  v5 := Tryz.zeroValue5
  t9 := Tryz.underlying9
  a9 := Tryz.isAgg9
  z9 := Tryz.sizeOf9
  v9 := Tryz.zeroValue9
  t46 := Tryz.underlying162
  a46 := Tryz.isAgg162
  z46 := Tryz.sizeOf162
  v46 := Tryz.zeroValue162
  t51 := Tryz.underlying216
  a51 := Tryz.isAgg216
  z51 := Tryz.sizeOf216
  v51 := Tryz.zeroValue216
  t146 := Tryz.underlying239
  a146 := Tryz.isAgg239
  z146 := Tryz.sizeOf239
  v146 := Tryz.zeroValue239
  g1 := by kernel_rfl }
open Go.RowKit Go.Lib in
theorem Tryz.stringslite_Index_one (s : ByteArray) (c : UInt8) (w : World) :
    Calls Tryz.prog 165 #[.string s, .string ⟨#[c]⟩] w fun e w' => e = .returned (.int .i64 (Lib.indexByte s.data.toList c)) ∧ w' = w := Any.stringslite_Index_one Tryz.lays219 s c w
def Tryz.lays144_ren : Go.Shelf.Ren := ⟨fun | 144 => 111 | 143 => 131 | 219 => 165 | 217 => 199 | 225 => 200 | 224 => 201 | 267 => 202 | 266 => 229 | 314 => 230 | n => n, fun | 9 => 9 | 4 => 4 | 3 => 3 | 5 => 5 | 46 => 162 | 146 => 239 | 51 => 216 | n => n, fun | 1 => 0 | n => n⟩
theorem Tryz.lays144 : Go.Proofs.Lays.n144 Tryz.prog Tryz.lays144_ren := {
  mixed := by kernel_rfl
  f143 := Tryz.func131.trans (congrArg some (by kernel_rfl))
  f144 := Tryz.func111.trans (congrArg some (by kernel_rfl))
  f217 := Tryz.func199.trans (congrArg some (by kernel_rfl))
  f219 := Tryz.func165.trans (congrArg some (by kernel_rfl))
  f224 := Tryz.func201.trans (congrArg some (by kernel_rfl))
  f225 := Tryz.func200.trans (congrArg some (by kernel_rfl))
  f266 := Tryz.func229.trans (congrArg some (by kernel_rfl))
  f267 := Tryz.func202.trans (congrArg some (by kernel_rfl))
  f314 := Tryz.func230.trans (congrArg some (by kernel_rfl))
  t3 := Tryz.underlying3
  a3 := Tryz.isAgg3
  z3 := Tryz.sizeOf3
  v3 := Tryz.zeroValue3
  t4 := Tryz.underlying4
  a4 := Tryz.isAgg4
  z4 := Tryz.sizeOf4
  v4 := Tryz.zeroValue4
  t5 := Tryz.underlying5
  a5 := Tryz.isAgg5
  z5 := Tryz.sizeOf5
  v5 := Tryz.zeroValue5
  t9 := Tryz.underlying9
  a9 := Tryz.isAgg9
  z9 := Tryz.sizeOf9
  v9 := Tryz.zeroValue9
  t46 := Tryz.underlying162
  a46 := Tryz.isAgg162
  z46 := Tryz.sizeOf162
  v46 := Tryz.zeroValue162
  t51 := Tryz.underlying216
  a51 := Tryz.isAgg216
  z51 := Tryz.sizeOf216
  v51 := Tryz.zeroValue216
  t146 := Tryz.underlying239
  a146 := Tryz.isAgg239
  z146 := Tryz.sizeOf239
  v146 := Tryz.zeroValue239
  g1 := by kernel_rfl }
open Go.RowKit Go.Lib in
theorem Tryz.strings_Contains_one (s : ByteArray) (c : UInt8) (w : World) :
    Calls Tryz.prog 111 #[.string s, .string ⟨#[c]⟩] w fun e w' => e = .returned (.bool (decide (0 ≤ Lib.indexByte s.data.toList c))) ∧ w' = w := Any.strings_Contains_one Tryz.lays144 s c w
def Tryz.lays146_ren : Go.Shelf.Ren := ⟨fun | 146 => 48 | 221 => 94 | 268 => 129 | 138 => 130 | 143 => 131 | 195 => 162 | 197 => 163 | 218 => 164 | 219 => 165 | 260 => 198 | 217 => 199 | 225 => 200 | 224 => 201 | 267 => 202 | 266 => 229 | 314 => 230 | n => n, fun | 9 => 9 | 31 => 31 | 3 => 3 | 4 => 4 | 0 => 0 | 105 => 188 | 21 => 21 | 5 => 5 | 46 => 162 | 119 => 235 | 139 => 238 | 138 => 237 | 146 => 239 | 51 => 216 | n => n, fun | 1 => 0 | 3 => 2 | 4 => 3 | n => n⟩
theorem Tryz.lays146 : Go.Proofs.Lays.n146 Tryz.prog Tryz.lays146_ren := {
  mixed := by kernel_rfl
  f138 := Tryz.func130.trans (congrArg some (by kernel_rfl))
  f143 := Tryz.func131.trans (congrArg some (by kernel_rfl))
  f146 := Tryz.func48.trans (congrArg some (by kernel_rfl))
  f195 := Tryz.func162.trans (congrArg some (by kernel_rfl))
  f197 := Tryz.func163.trans (congrArg some (by kernel_rfl))
  f217 := Tryz.func199.trans (congrArg some (by kernel_rfl))
  f218 := Tryz.func164.trans (congrArg some (by kernel_rfl))
  f219 := Tryz.func165.trans (congrArg some (by kernel_rfl))
  f221 := Tryz.func94.trans (congrArg some (by kernel_rfl))
  f224 := Tryz.func201.trans (congrArg some (by kernel_rfl))
  f225 := Tryz.func200.trans (congrArg some (by kernel_rfl))
  f260 := Tryz.func198.trans (congrArg some (by kernel_rfl))
  f266 := Tryz.func229.trans (congrArg some (by kernel_rfl))
  f267 := Tryz.func202.trans (congrArg some (by kernel_rfl))
  f268 := Tryz.func129.trans (congrArg some (by kernel_rfl))
  f314 := Tryz.func230.trans (congrArg some (by kernel_rfl))
  t0 := Tryz.underlying0
  a0 := Tryz.isAgg0
  z0 := Tryz.sizeOf0
  v0 := Tryz.zeroValue0
  t3 := Tryz.underlying3
  a3 := Tryz.isAgg3
  z3 := Tryz.sizeOf3
  v3 := Tryz.zeroValue3
  t4 := Tryz.underlying4
  a4 := Tryz.isAgg4
  z4 := Tryz.sizeOf4
  v4 := Tryz.zeroValue4
  t5 := Tryz.underlying5
  a5 := Tryz.isAgg5
  z5 := Tryz.sizeOf5
  v5 := Tryz.zeroValue5
  t9 := Tryz.underlying9
  a9 := Tryz.isAgg9
  z9 := Tryz.sizeOf9
  v9 := Tryz.zeroValue9
  t21 := Tryz.underlying21
  a21 := Tryz.isAgg21
  z21 := Tryz.sizeOf21
  v21 := Tryz.zeroValue21
  t31 := Tryz.underlying31
  a31 := Tryz.isAgg31
  z31 := Tryz.sizeOf31
  v31 := Tryz.zeroValue31
  t46 := Tryz.underlying162
  a46 := Tryz.isAgg162
  z46 := Tryz.sizeOf162
  v46 := Tryz.zeroValue162
  t51 := Tryz.underlying216
  a51 := Tryz.isAgg216
  z51 := Tryz.sizeOf216
  v51 := Tryz.zeroValue216
  t105 := Tryz.underlying188
  a105 := Tryz.isAgg188
  z105 := Tryz.sizeOf188
  v105 := Tryz.zeroValue188
  t119 := Tryz.underlying235
  a119 := Tryz.isAgg235
  z119 := Tryz.sizeOf235
  t138 := Tryz.underlying237
  a138 := Tryz.isAgg237
  z138 := Tryz.sizeOf237
  v138 := Tryz.zeroValue237
  t139 := Tryz.underlying238
  a139 := Tryz.isAgg238
  z139 := Tryz.sizeOf238
  v139 := Tryz.zeroValue238
  t146 := Tryz.underlying239
  a146 := Tryz.isAgg239
  z146 := Tryz.sizeOf239
  v146 := Tryz.zeroValue239
  g1 := by kernel_rfl
  g3 := by kernel_rfl
  g4 := by kernel_rfl }
open Go.RowKit Go.Lib in
theorem Tryz.strings_Split (s sep : ByteArray) (m : Int) (w : World) (hs : s.size < 4294967281) (hm : w.cell? ⟨0, 0, none⟩ = some (.int .i64 m)) (h1 : 1 ≤ sep.size) :
    Calls Tryz.prog 48 #[.string s, .string sep] w fun e w' =>
      e = .returned (.slice (some ⟨w.heap.size, 0, none⟩) (Lib.countB s sep + 1) (Lib.countB s sep + 1)) ∧ w' = w.alloc (.cells ((Lib.splitB sep 0 (Lib.countB s sep) s).map Value.string).toArray 9) := Any.strings_Split Tryz.lays146 (by kernel_rfl) s sep m w hs hm h1
def Tryz.lays109_ren : Go.Shelf.Ren := ⟨fun | 109 => 140 | n => n, fun | 31 => 31 | 9 => 9 | 3 => 3 | 0 => 0 | 4 => 4 | n => n, fun | n => n⟩
theorem Tryz.lays109 : Go.Proofs.Lays.n109 Tryz.prog Tryz.lays109_ren := {
  mixed := by kernel_rfl
  f109 := Tryz.func140.trans (congrArg some (by kernel_rfl))
  t0 := Tryz.underlying0
  a0 := Tryz.isAgg0
  z0 := Tryz.sizeOf0
  v0 := Tryz.zeroValue0
  t3 := Tryz.underlying3
  a3 := Tryz.isAgg3
  z3 := Tryz.sizeOf3
  v3 := Tryz.zeroValue3
  t4 := Tryz.underlying4
  a4 := Tryz.isAgg4
  z4 := Tryz.sizeOf4
  v4 := Tryz.zeroValue4
  t9 := Tryz.underlying9
  a9 := Tryz.isAgg9
  z9 := Tryz.sizeOf9
  v9 := Tryz.zeroValue9
  t31 := Tryz.underlying31
  a31 := Tryz.isAgg31
  z31 := Tryz.sizeOf31
  v31 := Tryz.zeroValue31 }
open Go.Lib in
theorem Tryz.slices_Index_string (b off n c : Nat) (zs : List ByteArray) (x : ByteArray) (w : World) (hz : n ≤ zs.length) (hbig : n ≤ 9223372036854775807) (hc : ∀ j, j < zs.length → w.cell? ⟨b, off + j, none⟩ = some (.string (zs.getD j ByteArray.empty))) :
    Calls Tryz.prog 140 #[.slice (some ⟨b, off, none⟩) n c, .string x] w fun e w' => e = .returned (.int .i64 (Lib.idxOfS (zs.take n) x)) ∧ w' = w := Any.slices_Index_string Tryz.lays109 b off n c zs x w hz hbig hc
end Go.Proofs
namespace Go.Proofs.YtadjhkehfklmnaaGreatDoor
set_option linter.unusedSimpArgs false
set_option linter.unusedVariables false
open Go.RowKit
set_option maxRecDepth 10000
theorem index_v (c : UInt8) (l : List UInt8) (w : World) : Calls Tryz.prog 165 #[.string (tx l), .string ⟨#[c]⟩] w (Post (.int .i64 (Lib.indexByte l c)) w) :=
  (Tryz.stringslite_Index_one (tx l) c w).mono fun e w' ⟨he, hw⟩ => ⟨by rw [he]; simp [tx], by rw [hw]; exact Below.refl _ _⟩
theorem contains_v (c : UInt8) (l : List UInt8) (w : World) : Calls Tryz.prog 111 #[.string (tx l), .string ⟨#[c]⟩] w (Post (.bool (tr (c ∈ l))) w) :=
  (Tryz.strings_Contains_one (tx l) c w).mono fun e w' ⟨he, hw⟩ => ⟨by
    rw [he, show (tx l).data.toList = l by simp [tx]]
    rcases index_bfs c l with ⟨e1, _, _, e4⟩ | ⟨o, e1, _, _, _, e4⟩
    · rw [e1, tr_no e4]; rfl
    · rw [e1, tr_yes e4]; simp, by rw [hw]; exact Below.refl _ _⟩
theorem cut1_v (c : UInt8) (l : List UInt8) (w : World) (hl : l.length ≤ 9223372036854775807) : Calls Tryz.prog 189 #[.string (tx l), .string ⟨#[c]⟩] w (Post (.tuple #[.string (tx (bfs c l)), .string (tx (afs c l)), .bool (tr (c ∈ l))]) w) := by
  refine post_of_vc ?_
  refine calls_of_vc tb_ok (args := [.string (tx l), .string ⟨#[c]⟩]) Tryz.func189 rfl ?_
  have hi := fun w => index_v c l w
  have hsz := tx_size l
  have hone : ({ data := #[c] } : ByteArray).size = 1 := rfl
  rcases index_bfs c l with ⟨e1, e2, e3, e4⟩ | ⟨o, e1, ho, e2, e3, e4⟩
  · rw [e1] at hi
    rw [e2, e3, tr_no e4]
    (repeat' ((conv => whnf); first | refine go ?_ | (refine VSome.mk ?_; intro gQ hA'; first | subst hA' | cases hA' | (dsimp only at hA'; subst hA')) | refine And.intro ?_ ?_ | intro _ | (first | ((show VCall _ _ _ 165 _ _); refine VCall.grow _ (fun w1 m1 => hi w1) ?_))))
    (conv => whnf); refine VRet.mk fun w' m => ?_
    exact ⟨rfl, m.keeps.below⟩
  · rw [e1] at hi
    rw [tr_yes e4]
    have x1 : (tx l).extract 0 o = tx (bfs c l) := by rw [tx_sub, e2]; rfl
    have x2 : (tx l).extract (o + 1) (tx l).size = tx (afs c l) := by rw [tx_sub, tx_size, e3, List.take_length]
    (repeat' ((conv => whnf); first | refine go ?_ | (refine VSome.mk ?_; intro gQ hA'; first | subst hA' | cases hA' | (dsimp only at hA'; subst hA')) | refine And.intro ?_ ?_ | intro _ | (first | ((show VCall _ _ _ 165 _ _); refine VCall.grow _ (fun w1 m1 => hi w1) ?_) | ((show VDraw _ _ _ _ _ _); refine VDraw.mk (.take 0 (.take 1 (.take 2 (.take 3 (.take 4 (.take 5 (.take 6 (.take 7 (.take 8 (.take 9 (.take 10 (.take 11 .done)))))))))))) [] (by kernel_rfl) (by kernel_rfl) ?_) | ((show VSub _ _ _ _); first | (refine VSub.mk 0 o rfl rfl (by omega) (by rw [tx_size]; omega) ?_) | (refine VSub.mk (o + 1) (tx l).size rfl rfl (by rw [tx_size]; omega) (by omega) ?_)))))
    (conv => whnf); refine VRet.mk fun w' m => ?_
    refine ⟨?_, m.keeps.below⟩
    rw [x1, x2]
theorem cut_v (c : UInt8) (l : List UInt8) (w : World) (hl : l.length ≤ 9223372036854775807) : Calls Tryz.prog 153 #[.string (tx l), .string ⟨#[c]⟩] w (Post (.tuple #[.string (tx (bfs c l)), .string (tx (afs c l)), .bool (tr (c ∈ l))]) w) := by
  refine post_of_vc ?_
  refine calls_of_vc tb_ok (args := [.string (tx l), .string ⟨#[c]⟩]) Tryz.func153 rfl ?_
  have hi := fun w => cut1_v c l w hl
  by_cases h : c ∈ l
  · rw [tr_yes h] at hi ⊢
    (repeat' ((conv => whnf); first | refine go ?_ | (refine VSome.mk ?_; intro gQ hA'; first | subst hA' | cases hA' | (dsimp only at hA'; subst hA')) | refine And.intro ?_ ?_ | intro _ | (first | ((show VCall _ _ _ 189 _ _); refine VCall.grow _ (fun w1 m1 => hi w1) ?_))))
    (conv => whnf); refine VRet.mk fun w' m => ?_
    exact ⟨rfl, m.keeps.below⟩
  · rw [tr_no h] at hi ⊢
    (repeat' ((conv => whnf); first | refine go ?_ | (refine VSome.mk ?_; intro gQ hA'; first | subst hA' | cases hA' | (dsimp only at hA'; subst hA')) | refine And.intro ?_ ?_ | intro _ | (first | ((show VCall _ _ _ 189 _ _); refine VCall.grow _ (fun w1 m1 => hi w1) ?_))))
    (conv => whnf); refine VRet.mk fun w' m => ?_
    exact ⟨rfl, m.keeps.below⟩
def okA (s : ByteArray) (i : Nat) : Prop := ∀ h : i < s.size, 32 ≤ s[i].toNat ∧ s[i].toNat ≤ 126 ∧ ¬ s[i].toNat = 35
theorem plain_iff (l : List UInt8) : (∀ i, i < (tx l).size → okA (tx l) i) ↔ plainT l := by
  constructor
  · intro h b hb
    obtain ⟨i, hi, rfl⟩ := List.getElem_of_mem hb
    have hi2 : i < (tx l).size := by rw [tx_size]; exact hi
    obtain ⟨h1, h2, h3⟩ := h i hi2 hi2
    exact ⟨h1, h2, fun e => h3 (congrArg UInt8.toNat e)⟩
  · intro h i hi hi2
    have hi3 : i < l.length := by rw [← tx_size]; exact hi
    obtain ⟨h1, h2, h3⟩ := h _ (List.getElem_mem hi3)
    exact ⟨h1, h2, fun e => h3 (UInt8.toNat_inj.1 e)⟩
set_option maxHeartbeats 400000 in
theorem isPlain_v (l : List UInt8) (w : World) (hl : l.length ≤ 9223372036854775807) : Calls Tryz.prog 110 #[.string (tx l)] w (Post (.bool (tr (plainT l))) w) := by
  have hn := tx_size l
  have hpl := plain_iff l
  refine post_of_vc ?_
  refine calls_of_vc tb_ok (args := [.string (tx l)]) Tryz.func110 rfl ?_
  (repeat' ((conv => whnf); first | refine go ?_ | (refine VSome.mk ?_; intro gQ hA'; first | subst hA' | cases hA' | (dsimp only at hA'; subst hA')) | refine And.intro ?_ ?_ | intro _))
  (conv => whnf)
  refine VLoop.mk (ι := Nat) [2, 3, 4, 5, 6, 7, 8, 9, 10, 11, 12, 13, 14, 15, 16, 17, 18, 19, 20, 21, 22, 23, 24, 25] (fun k => [(3, .int .i64 k)]) (fun _ => []) (fun k => k ≤ (tx l).size ∧ ∀ i, i < k → okA (tx l) i) (fun k => (tx l).size - k) 0 ⟨Nat.zero_le _, fun i h => absurd h (by omega)⟩ ?_ (OwnLe.mk [] (by simp) rfl) (fun k u hk => ?_)
  · ((conv => whnf); repeat (first | exact trivial | refine ⟨rfl, ?_⟩ | refine ⟨congrArg (Value.int .i64) (by first | omega | assumption | exact Eq.symm (by assumption)), ?_⟩))
  obtain ⟨hk, hok⟩ := hk
  by_cases hlt : k < (tx l).size
  · (repeat' ((conv => whnf); first | refine go ?_ | (refine VSome.mk ?_; intro gQ hA'; first | subst hA' | cases hA' | (dsimp only at hA'; subst hA')) | refine And.intro ?_ ?_ | intro _))
    (all_goals (conv => whnf))
    all_goals first | ((show VNext _ _ _ _ _ _ _ _ _); (refine VNext.mk (k + 1) ⟨hlt, upto_succ hok (fun h => by omega)⟩ (by omega) ?_ (OwnLe.mk [] (by simp) rfl); ((conv => whnf); repeat (first | exact trivial | refine ⟨rfl, ?_⟩ | refine ⟨congrArg (Value.int .i64) (by first | omega | assumption | exact Eq.symm (by assumption)), ?_⟩)))) | ((show VRet _ _ _ _); (refine VRet.mk fun w' m => ⟨?_, m.keeps.below⟩; rw [tr_no (fun h => by have := hpl.2 h k hlt hlt; omega)]))
  · obtain rfl : k = (tx l).size := by omega
    (repeat' ((conv => whnf); first | refine go ?_ | (refine VSome.mk ?_; intro gQ hA'; first | subst hA' | cases hA' | (dsimp only at hA'; subst hA')) | refine And.intro ?_ ?_ | intro _))
    (conv => whnf); refine VRet.mk fun w' m => ?_
    refine ⟨congrArg Value.bool ?_, m.keeps.below⟩
    rw [tr_yes (hpl.1 hok)]
set_option maxHeartbeats 400000 in
theorem l27Plain_v (l : List UInt8) (x : Nat) (w : World) (hl : l.length ≤ 9223372036854775807) (hx : x ≤ 1000000) : Calls Tryz.prog 117 #[.string (tx l), .int .i64 x] w (Post (.bool (tr (plainT l ∧ l.length ≤ x))) w) := by
  have hn := tx_size l
  have hpl := plain_iff l
  refine post_of_vc ?_
  refine calls_of_vc tb_ok (args := [.string (tx l), .int .i64 x]) Tryz.func117 rfl ?_
  (repeat' ((conv => whnf); first | refine go ?_ | (refine VSome.mk ?_; intro gQ hA'; first | subst hA' | cases hA' | (dsimp only at hA'; subst hA')) | refine And.intro ?_ ?_ | intro _))
  (conv => whnf)
  refine VLoop.mk (ι := Nat) [4, 5, 6, 7, 8, 9, 10, 11, 12, 13, 14, 15, 16, 17, 18, 19, 20, 21, 22, 23] (fun k => [(5, .int .i64 k)]) (fun _ => []) (fun k => k ≤ (tx l).size ∧ ∀ i, i < k → okA (tx l) i) (fun k => (tx l).size - k) 0 ⟨Nat.zero_le _, fun i h => absurd h (by omega)⟩ ?_ (OwnLe.mk [] (by simp) rfl) (fun k u hk => ?_)
  · ((conv => whnf); repeat (first | exact trivial | refine ⟨rfl, ?_⟩ | refine ⟨congrArg (Value.int .i64) (by first | omega | assumption | exact Eq.symm (by assumption)), ?_⟩))
  obtain ⟨hk, hok⟩ := hk
  by_cases hlt : k < (tx l).size
  · have hb := (tx l)[k].toNat_lt
    (repeat' ((conv => whnf); first | refine go ?_ | (refine VSome.mk ?_; intro gQ hA'; first | subst hA' | cases hA' | (dsimp only at hA'; subst hA')) | refine And.intro ?_ ?_ | intro _ | (first | ((show VCall _ _ _ 109 _ _); refine VCall.test _ (fun w1 _ => l1In_v _ _ _ w1) ?_))))
    (all_goals (conv => whnf))
    all_goals first | ((show VNext _ _ _ _ _ _ _ _ _); (refine VNext.mk (k + 1) ⟨hlt, upto_succ hok (fun h => by omega)⟩ (by omega) ?_ (OwnLe.mk [] (by simp) rfl); ((conv => whnf); repeat (first | exact trivial | refine ⟨rfl, ?_⟩ | refine ⟨congrArg (Value.int .i64) (by first | omega | assumption | exact Eq.symm (by assumption)), ?_⟩)))) | ((show VRet _ _ _ _); (refine VRet.mk fun w' m => ⟨?_, m.keeps.below⟩; rw [tr_no (fun h => by have := hpl.2 h.1 k hlt hlt; omega)]))
  · obtain rfl : k = (tx l).size := by omega
    have hp := hpl.1 hok
    (repeat' ((conv => whnf); first | refine go ?_ | (refine VSome.mk ?_; intro gQ hA'; first | subst hA' | cases hA' | (dsimp only at hA'; subst hA')) | refine And.intro ?_ ?_ | intro _))
    all_goals ((conv => whnf); refine VRet.mk fun w' m => ?_)
    all_goals refine ⟨congrArg Value.bool ?_, m.keeps.below⟩
    all_goals first
      | (rw [tr_yes (show plainT l ∧ l.length ≤ x from ⟨hp, by omega⟩)]; done)
      | (rw [tr_no (fun h : plainT l ∧ l.length ≤ x => by have := h.2; omega)]; done)
set_option maxHeartbeats 400000 in
theorem l1Stands_v (c : UInt8) (x : Int) (l : List UInt8) (w : World) (hx : x = (c.toNat : Int)) (hl : l.length ≤ 9223372036854775807) : Calls Tryz.prog 118 #[.string (tx l), .int .u8 x] w (Post (.bool (tr (c ∈ l))) w) := by
  have hn := tx_size l
  refine post_of_vc ?_
  refine calls_of_vc tb_ok (args := [.string (tx l), .int .u8 x]) Tryz.func118 rfl ?_
  (repeat' ((conv => whnf); first | refine go ?_ | (refine VSome.mk ?_; intro gQ hA'; first | subst hA' | cases hA' | (dsimp only at hA'; subst hA')) | refine And.intro ?_ ?_ | intro _))
  (conv => whnf)
  refine VLoop.mk (ι := Nat) [4, 5, 6, 7, 8, 9, 10, 11, 12, 13, 14, 15, 16] (fun k => [(5, .int .i64 k)]) (fun _ => []) (fun k => k ≤ (tx l).size ∧ ∀ i, i < k → ∀ h : i < l.length, ¬ l[i] = c) (fun k => (tx l).size - k) 0 ⟨Nat.zero_le _, fun i h => absurd h (by omega)⟩ ?_ (OwnLe.mk [] (by simp) rfl) (fun k u hk => ?_)
  · ((conv => whnf); repeat (first | exact trivial | refine ⟨rfl, ?_⟩ | refine ⟨congrArg (Value.int .i64) (by first | omega | assumption | exact Eq.symm (by assumption)), ?_⟩))
  obtain ⟨hk, hok⟩ := hk
  by_cases hlt : k < (tx l).size
  · have hlt2 : k < l.length := by omega
    by_cases hc : l[k] = c
    · have hcI : ((tx l)[k].toNat : Int) = x := by rw [hx]; show (l[k].toNat : Int) = _; rw [hc]
      (repeat' ((conv => whnf); first | refine go ?_ | (refine VSome.mk ?_; intro gQ hA'; first | subst hA' | cases hA' | (dsimp only at hA'; subst hA')) | refine And.intro ?_ ?_ | intro _))
      (conv => whnf); refine VRet.mk fun w' m => ?_
      refine ⟨?_, m.keeps.below⟩
      rw [tr_yes (by rw [← hc]; exact List.getElem_mem hlt2)]
    · have hcI : ¬ ((tx l)[k].toNat : Int) = x := by
        rw [hx]
        show ¬ (l[k].toNat : Int) = _
        exact fun e => hc (UInt8.toNat_inj.1 (by omega))
      (repeat' ((conv => whnf); first | refine go ?_ | (refine VSome.mk ?_; intro gQ hA'; first | subst hA' | cases hA' | (dsimp only at hA'; subst hA')) | refine And.intro ?_ ?_ | intro _))
      (conv => whnf)
      refine VNext.mk (k + 1) ⟨hlt, upto_succ hok (fun h => hc)⟩ (by omega) ?_ (OwnLe.mk [] (by simp) rfl)
      ((conv => whnf); repeat (first | exact trivial | refine ⟨rfl, ?_⟩ | refine ⟨congrArg (Value.int .i64) (by first | omega | assumption | exact Eq.symm (by assumption)), ?_⟩))
  · obtain rfl : k = (tx l).size := by omega
    (repeat' ((conv => whnf); first | refine go ?_ | (refine VSome.mk ?_; intro gQ hA'; first | subst hA' | cases hA' | (dsimp only at hA'; subst hA')) | refine And.intro ?_ ?_ | intro _))
    (conv => whnf); refine VRet.mk fun w' m => ?_
    refine ⟨?_, m.keeps.below⟩
    rw [tr_no (fun h => by
      obtain ⟨i, hi, e⟩ := List.getElem_of_mem h
      exact hok i (by omega) hi e)]
set_option maxHeartbeats 400000 in
theorem iGood_v (c r : List UInt8) (w : World) (hc : c.length ≤ 9223372036854775807) (hr : r.length ≤ 9223372036854775807) : Calls Tryz.prog 76 #[.agg #[.string (tx c), .string (tx r)]] w (Post (.bool (tr (okR c r))) w) := by
  have hn := tx_size c
  have hn2 := tx_size r
  refine post_of_vc ?_
  refine calls_of_vc tb_ok (args := [.agg #[.string (tx c), .string (tx r)]]) Tryz.func76 rfl ?_
  (repeat' ((conv => whnf); first | refine go ?_ | (refine VSome.mk ?_; intro gQ hA'; first | subst hA' | cases hA' | (dsimp only at hA'; subst hA')) | refine And.intro ?_ ?_ | intro _ | (first | ((show VCall _ _ _ 80 _ _); refine VCall.test _ (fun w1 _ => inside_v _ _ _ w1) ?_) | ((show VCall _ _ _ 110 _ _); refine VCall.test _ (fun w1 _ => isPlain_v _ w1 (by assumption)) ?_) | ((show VCall _ _ _ 111 _ _); refine VCall.test _ (fun w1 _ => contains_v 64 _ w1) ?_))))
  all_goals ((conv => whnf); refine VRet.mk fun w' m => ?_)
  all_goals refine ⟨congrArg Value.bool ?_, m.keeps.below⟩
  all_goals first
    | (rw [tr_yes (show okR c r from ⟨by assumption, by assumption, by omega, by omega, by omega, by assumption⟩)]; done)
    | (rw [tr_no (fun h : okR c r => by obtain ⟨h1, h2, h3, h4, h5, h6⟩ := h; first | contradiction | omega)]; done)
set_option maxHeartbeats 400000 in
theorem sGood_v (c r : List UInt8) (w : World) (hc : c.length ≤ 9223372036854775807) (hr : r.length ≤ 9223372036854775807) : Calls Tryz.prog 85 #[.agg #[.string (tx c), .string (tx r)]] w (Post (.bool (tr (okR c r))) w) := by
  have hn := tx_size c
  have hn2 := tx_size r
  refine post_of_vc ?_
  refine calls_of_vc tb_ok (args := [.agg #[.string (tx c), .string (tx r)]]) Tryz.func85 rfl ?_
  by_cases h0 : c = []
  · subst h0
    have he : tx [] = { data := #[] } := rfl
    (repeat' ((conv => whnf); first | refine go ?_ | (refine VSome.mk ?_; intro gQ hA'; first | subst hA' | cases hA' | (dsimp only at hA'; subst hA')) | refine And.intro ?_ ?_ | intro _ | (first | ((show VCall _ _ _ 117 [_, .int .i64 160] _); refine VCall.test _ (fun w1 _ => l27Plain_v _ 160 w1 (by assumption) (by omega)) ?_) | ((show VCall _ _ _ 117 [_, .int .i64 200] _); refine VCall.test _ (fun w1 _ => l27Plain_v _ 200 w1 (by assumption) (by omega)) ?_) | ((show VCall _ _ _ 118 _ _); refine VCall.test _ (fun w1 _ => l1Stands_v 64 _ _ w1 rfl (by assumption)) ?_))))
    all_goals ((conv => whnf); refine VRet.mk fun w' m => ?_)
    all_goals refine ⟨congrArg Value.bool ?_, m.keeps.below⟩
    all_goals (rw [tr_no (fun h : okR [] r => by have := h.2.2.1; simp at this)])
  · have he : ¬ tx c = { data := #[] } := fun e => h0 (tx_inj (b := []) e)
    have hp : 1 ≤ c.length := by cases c; exact absurd rfl h0; simp
    (repeat' ((conv => whnf); first | refine go ?_ | (refine VSome.mk ?_; intro gQ hA'; first | subst hA' | cases hA' | (dsimp only at hA'; subst hA')) | refine And.intro ?_ ?_ | intro _ | (first | ((show VCall _ _ _ 117 [_, .int .i64 160] _); refine VCall.test _ (fun w1 _ => l27Plain_v _ 160 w1 (by assumption) (by omega)) ?_) | ((show VCall _ _ _ 117 [_, .int .i64 200] _); refine VCall.test _ (fun w1 _ => l27Plain_v _ 200 w1 (by assumption) (by omega)) ?_) | ((show VCall _ _ _ 118 _ _); refine VCall.test _ (fun w1 _ => l1Stands_v 64 _ _ w1 rfl (by assumption)) ?_))))
    all_goals ((conv => whnf); refine VRet.mk fun w' m => ?_)
    all_goals refine ⟨congrArg Value.bool ?_, m.keeps.below⟩
    all_goals first
      | (rw [tr_yes (show okR c r from ⟨(show plainT c ∧ c.length ≤ 160 by assumption).1, (show plainT r ∧ r.length ≤ 200 by assumption).1, by omega, (show plainT c ∧ c.length ≤ 160 by assumption).2, (show plainT r ∧ r.length ≤ 200 by assumption).2, by assumption⟩)]; done)
      | (rw [tr_no (fun h : okR c r => by obtain ⟨h1, h2, h3, h4, h5, h6⟩ := h; first | contradiction | omega | (exact absurd (show plainT c ∧ c.length ≤ 160 from ⟨h1, h4⟩) (by assumption)) | (exact absurd (show plainT r ∧ r.length ≤ 200 from ⟨h2, h5⟩) (by assumption)))]; done)
end Go.Proofs.YtadjhkehfklmnaaGreatDoor
namespace Go.Proofs.YtadjhkehfklmnaaGreatDoor
set_option linter.unusedSimpArgs false
set_option linter.unusedVariables false
open Go.RowKit
set_option maxRecDepth 10000
def PTab (w : World) : Prop := Lib.TabIs Tryz.prog w "internal/strconv.uint64pow10" .u64 Lib.pow10Tab
theorem gPTab : Tryz.prog.globalNamed "internal/strconv.uint64pow10" = some 1 := by kernel_rfl
theorem cell_lt {w : World} {a : Addr} {v : Value} (h : w.cell? a = some v) : a.block < w.heap.size := by
  rcases Nat.lt_or_ge a.block w.heap.size with h1 | h1
  · exact h1
  · unfold World.cell? at h
    rw [Array.getElem?_eq_none h1] at h
    simp at h
theorem PTab.below {w w' : World} (h : PTab w) (hb : Below w.heap.size w w') : PTab w' :=
  var?_below hb gPTab (cell_lt (h.cell gPTab 0 (by rw [Lib.pow10Tab_length]; omega))) h
theorem PTab.on {w : World} {own : List Own} {w1 : World} (h : PTab w) (m : Mem (Base.of w) own w1) : PTab w1 := h.below m.keeps.below
theorem itoa_v (n : Nat) (w : World) (hn : n ≤ 1000000) (ht : PTab w) : Calls Tryz.prog 59 #[.int .i64 n] w (Post (.string (tx (Lib.decDigits n))) w) :=
  (Tryz.strconv_Itoa n (by omega) (by omega) w ht).mono fun e w' ⟨he, k, os, hw⟩ => ⟨by rw [he, Lib.itoa_nonneg]; rfl, by rw [hw]; exact Lib.below_grow _ _ (Nat.le_refl _) _ _⟩
set_option maxHeartbeats 400000 in
theorem checksum_v (l : List UInt8) (w : World) (hl : l.length ≤ 9223372036854775807) : Calls Tryz.prog 188 #[.string (tx l)] w (Post (.int .i64 (chk l : Nat)) w) := by
  have hn := tx_size l
  refine post_of_vc ?_
  refine calls_of_vc tb_ok (args := [.string (tx l)]) Tryz.func188 rfl ?_
  (repeat' ((conv => whnf); first | refine go ?_ | (refine VSome.mk ?_; intro gQ hA'; first | subst hA' | cases hA' | (dsimp only at hA'; subst hA')) | refine And.intro ?_ ?_ | intro _))
  (conv => whnf)
  refine VLoop.mk (ι := Nat) [3, 4, 5, 6, 7, 8, 9, 10, 11, 12, 13, 14, 15, 16, 17, 18, 19] (fun k => [(4, .int .i64 k), (3, .int .i64 (chk (l.take k) : Nat))]) (fun _ => []) (fun k => k ≤ l.length) (fun k => l.length - k) 0 (Nat.zero_le _) ?_ (OwnLe.mk [] (by simp) rfl) (fun k u hk => ?_)
  · ((conv => whnf); repeat (first | exact trivial | refine ⟨rfl, ?_⟩ | refine ⟨congrArg (Value.int .i64) (by first | omega | assumption | exact Eq.symm (by assumption)), ?_⟩))
  have hc := chk_lt (l.take k)
  by_cases hlt : k < l.length
  · have hk2 : k < (tx l).size := by omega
    have hb := (tx l)[k].toNat_lt
    have es : (41 * (chk (l.take k) : Int) + ((tx l)[k].toNat : Int) + 1) % 999979 = (chk (l.take (k + 1)) : Int) := by
      have hg := getD_tx l k hlt
      rw [chk_suc hlt, ← hg]
      omega
    (repeat' ((conv => whnf); first | refine go ?_ | (refine VSome.mk ?_; intro gQ hA'; first | subst hA' | cases hA' | (dsimp only at hA'; subst hA')) | refine And.intro ?_ ?_ | intro _))
    (conv => whnf)
    refine VNext.mk (k + 1) hlt (by omega) ?_ (OwnLe.mk [] (by simp) rfl)
    ((conv => whnf); repeat (first | exact trivial | refine ⟨rfl, ?_⟩ | refine ⟨congrArg (Value.int .i64) (by first | omega | assumption | exact Eq.symm (by assumption)), ?_⟩))
  · obtain rfl : k = l.length := by omega
    rw [List.take_length] at hc
    (repeat' ((conv => whnf); first | refine go ?_ | (refine VSome.mk ?_; intro gQ hA'; first | subst hA' | cases hA' | (dsimp only at hA'; subst hA')) | refine And.intro ?_ ?_ | intro _))
    (conv => whnf); refine VRet.mk fun w' m => ?_
    exact ⟨by rw [List.take_length], m.keeps.below⟩
set_option maxHeartbeats 400000 in
theorem l1Sum_v (l : List UInt8) (w : World) (hl : l.length ≤ 9223372036854775807) : Calls Tryz.prog 174 #[.string (tx l)] w (Post (.int .i64 (chk l : Nat)) w) := by
  have hn := tx_size l
  refine post_of_vc ?_
  refine calls_of_vc tb_ok (args := [.string (tx l)]) Tryz.func174 rfl ?_
  (repeat' ((conv => whnf); first | refine go ?_ | (refine VSome.mk ?_; intro gQ hA'; first | subst hA' | cases hA' | (dsimp only at hA'; subst hA')) | refine And.intro ?_ ?_ | intro _))
  (conv => whnf)
  refine VLoop.mk (ι := Nat) [3, 4, 5, 6, 7, 8, 9, 10, 11, 12, 13, 14, 15, 16, 17, 18, 19] (fun k => [(4, .int .i64 k), (3, .int .i64 (chk (l.take k) : Nat))]) (fun _ => []) (fun k => k ≤ l.length) (fun k => l.length - k) 0 (Nat.zero_le _) ?_ (OwnLe.mk [] (by simp) rfl) (fun k u hk => ?_)
  · ((conv => whnf); repeat (first | exact trivial | refine ⟨rfl, ?_⟩ | refine ⟨congrArg (Value.int .i64) (by first | omega | assumption | exact Eq.symm (by assumption)), ?_⟩))
  have hc := chk_lt (l.take k)
  by_cases hlt : k < l.length
  · have hk2 : k < (tx l).size := by omega
    have hb := (tx l)[k].toNat_lt
    have es : (41 * (chk (l.take k) : Int) + ((tx l)[k].toNat : Int) + 1) % 999979 = (chk (l.take (k + 1)) : Int) := by
      have hg := getD_tx l k hlt
      rw [chk_suc hlt, ← hg]
      omega
    (repeat' ((conv => whnf); first | refine go ?_ | (refine VSome.mk ?_; intro gQ hA'; first | subst hA' | cases hA' | (dsimp only at hA'; subst hA')) | refine And.intro ?_ ?_ | intro _))
    (conv => whnf)
    refine VNext.mk (k + 1) hlt (by omega) ?_ (OwnLe.mk [] (by simp) rfl)
    ((conv => whnf); repeat (first | exact trivial | refine ⟨rfl, ?_⟩ | refine ⟨congrArg (Value.int .i64) (by first | omega | assumption | exact Eq.symm (by assumption)), ?_⟩))
  · obtain rfl : k = l.length := by omega
    rw [List.take_length] at hc
    (repeat' ((conv => whnf); first | refine go ?_ | (refine VSome.mk ?_; intro gQ hA'; first | subst hA' | cases hA' | (dsimp only at hA'; subst hA')) | refine And.intro ?_ ?_ | intro _))
    (conv => whnf); refine VRet.mk fun w' m => ?_
    exact ⟨by rw [List.take_length], m.keeps.below⟩
theorem digit {n : Nat} (h : n < 10) : (tx [48, 49, 50, 51, 52, 53, 54, 55, 56, 57]).extract n (n + 1) = tx [UInt8.ofNat (48 + n)] := by
  rw [tx_sub]
  match n, h with
  | 0, _ => rfl
  | 1, _ => rfl
  | 2, _ => rfl
  | 3, _ => rfl
  | 4, _ => rfl
  | 5, _ => rfl
  | 6, _ => rfl
  | 7, _ => rfl
  | 8, _ => rfl
  | 9, _ => rfl
set_option maxHeartbeats 400000 in
theorem l1Num_v : ∀ (n : Nat) (w : World), n ≤ 1000000 → Calls Tryz.prog 61 #[.int .i64 n] w (Post (.string (tx (Lib.decDigits n))) w) := by
  intro n
  induction n using Nat.strongRecOn with
  | ind n ih =>
    intro w hn
    refine post_of_vc ?_
    refine calls_of_vc tb_ok (args := [.int .i64 n]) Tryz.func61 rfl ?_
    by_cases h10 : n < 10
    · have hd := digit h10
      (repeat' ((conv => whnf); first | refine go ?_ | (refine VSome.mk ?_; intro gQ hA'; first | subst hA' | cases hA' | (dsimp only at hA'; subst hA')) | refine And.intro ?_ ?_ | intro _ | (first | ((show VSub _ _ _ _); refine VSub.mk n (n + 1) rfl rfl (by omega) (by show n + 1 ≤ 10; omega) ?_))))
      (conv => whnf); refine VRet.mk fun w' m => ?_
      refine ⟨?_, m.keeps.below⟩
      rw [Lib.decDigits, dif_pos h10]
      exact congrArg Value.string hd
    · have hd := digit (n := n % 10) (by omega)
      have hr : ∀ w1, Calls Tryz.prog 61 #[.int .i64 ((n : Int) / 10)] w1 (Post (.string (tx (Lib.decDigits (n / 10)))) w1) := fun w1 => ih (n / 10) (by omega) w1 (by omega)
      have hl := dd_len 5 (n / 10) (by omega)
      (repeat' ((conv => whnf); first | refine go ?_ | (refine VSome.mk ?_; intro gQ hA'; first | subst hA' | cases hA' | (dsimp only at hA'; subst hA')) | refine And.intro ?_ ?_ | intro _ | (first | ((show VCall _ _ _ 61 _ _); refine VCall.grow _ (fun w1 _ => hr w1) ?_) | ((show VDraw _ _ _ _ _ _); refine VDraw.mk (.take 0 (.take 1 (.take 3 (.take 4 (.take 5 (.take 6 (.take 7 (.take 8 (.br 2 (.take 9 (.take 10 .done)) .done))))))))) [] (by kernel_rfl) (by kernel_rfl) ?_) | ((show VSub _ _ _ _); refine VSub.mk (n % 10) (n % 10 + 1) rfl rfl (by omega) (by show n % 10 + 1 ≤ 10; omega) ?_) | ((show VCat _ _ _); rw [show ({ data := #[48, 49, 50, 51, 52, 53, 54, 55, 56, 57] } : ByteArray).extract (n % 10) (n % 10 + 1) = tx [UInt8.ofNat (48 + n % 10)] from hd]; refine VCat.of (by show _ + 1 ≤ _; omega) ?_))))
      (conv => whnf); refine VRet.mk fun w' m => ?_
      refine ⟨?_, m.keeps.below⟩
      conv => rhs; rw [Lib.decDigits, dif_neg h10]
theorem bod_eq (k : Nat) (c r : List UInt8) : Lib.decDigits k ++ [32] ++ c ++ [64] ++ r = bod k c r := by unfold bod; simp
set_option maxHeartbeats 400000 in
theorem appendSum_v (t : List UInt8) (w : World) (hl : t.length ≤ 3000) (h : 35 ∉ t) (ht : PTab w) : Calls Tryz.prog 152 #[.string (tx t)] w (Post (.tuple #[.string (tx (sl t)), .bool true]) w) := by
  have hn := tx_size t
  have hc := chk_lt t
  have hd := dd_len 5 (chk t) (by omega)
  have hs := tx_size (t ++ [35] ++ Lib.decDigits (chk t))
  rw [List.length_append, List.length_append] at hs
  replace hs : _ = t.length + 1 + (Lib.decDigits (chk t)).length := hs
  refine post_of_vc ?_
  refine calls_of_vc tb_ok (args := [.string (tx t)]) Tryz.func152 rfl ?_
  have hC := fun w => contains_v 35 t w
  rw [tr_no h] at hC
  (repeat' ((conv => whnf); first | refine go ?_ | (refine VSome.mk ?_; intro gQ hA'; first | subst hA' | cases hA' | (dsimp only at hA'; subst hA')) | refine And.intro ?_ ?_ | intro _ | (first | ((show VCall _ _ _ 111 _ _); refine VCall.grow _ (fun w1 _ => hC w1) ?_) | ((show VCall _ _ _ 188 _ _); refine VCall.grow _ (fun w1 _ => checksum_v t w1 (by omega)) ?_) | ((show VCall _ _ _ 59 _ _); refine VCall.grow _ (fun w1 m1 => itoa_v _ w1 (by omega) (ht.on m1)) ?_) | ((show VCat _ _ _); refine VCat.of (by simp only [List.length_append, List.length_cons, List.length_nil]; omega) ?_))))
  (conv => whnf); refine VRet.mk fun w' m => ?_
  refine ⟨?_, m.keeps.below⟩
  unfold sl
  simp
set_option maxHeartbeats 400000 in
theorem l1Seal_v (t : List UInt8) (w : World) (hl : t.length ≤ 3000) : Calls Tryz.prog 136 #[.string (tx t)] w (Post (.string (tx (sl t))) w) := by
  have hn := tx_size t
  have hc := chk_lt t
  have hd := dd_len 5 (chk t) (by omega)
  refine post_of_vc ?_
  refine calls_of_vc tb_ok (args := [.string (tx t)]) Tryz.func136 rfl ?_
  (repeat' ((conv => whnf); first | refine go ?_ | (refine VSome.mk ?_; intro gQ hA'; first | subst hA' | cases hA' | (dsimp only at hA'; subst hA')) | refine And.intro ?_ ?_ | intro _ | (first | ((show VCall _ _ _ 174 _ _); refine VCall.grow _ (fun w1 _ => l1Sum_v t w1 (by omega)) ?_) | ((show VCall _ _ _ 61 _ _); refine VCall.grow _ (fun w1 m1 => l1Num_v _ w1 (by omega)) ?_) | ((show VCat _ _ _); refine VCat.of (by simp only [List.length_append, List.length_cons, List.length_nil]; omega) ?_))))
  (conv => whnf); refine VRet.mk fun w' m => ?_
  refine ⟨?_, m.keeps.below⟩
  unfold sl
  simp
set_option maxHeartbeats 800000 in
theorem encode_v (k : Nat) (c r : List UInt8) (w : World) (hk : k < 100) (hg : okR c r) (ht : PTab w) : Calls Tryz.prog 115 #[.int .i64 k, .agg #[.string (tx c), .string (tx r)]] w (Post (.string (tx (ln k c r ++ [10]))) w) := by
  have hb := bod_len hk hg
  have hll := ln_len hk hg
  have hd := dd_len 1 k (by omega)
  have hA := fun w ht => appendSum_v (bod k c r) w (by omega) (bod_hash hg) ht
  rw [← bod_eq] at hA
  obtain ⟨_, _, _, h160, h200, _⟩ := hg
  refine post_of_vc ?_
  refine calls_of_vc tb_ok (args := [.int .i64 k, .agg #[.string (tx c), .string (tx r)]]) Tryz.func115 rfl ?_
  (repeat' ((conv => whnf); first | refine go ?_ | (refine VSome.mk ?_; intro gQ hA'; first | subst hA' | cases hA' | (dsimp only at hA'; subst hA')) | refine And.intro ?_ ?_ | intro _ | (first | ((show VCall _ _ _ 59 _ _); refine VCall.grow _ (fun w1 m1 => itoa_v _ w1 (by omega) (ht.on m1)) ?_) | ((show VCall _ _ _ 152 _ _); refine VCall.grow _ (fun w1 m1 => hA w1 (ht.on m1)) ?_) | ((show VDraw _ _ _ _ _ _); refine VDraw.mk (.take 0 (.take 3 (.take 4 (.take 7 (.take 8 (.br 1 (.take 2 (.take 5 (.take 6 (.take 9 (.br 10 (.take 11 (.take 12 (.take 13 (.take 14 (.take 15 .done))))) .done))))) .done)))))) [0] (by kernel_rfl) (by kernel_rfl) ?_) | ((show VCat _ _ _); refine VCat.of (by first | (simp only [List.length_append, List.length_cons, List.length_nil]; omega) | (rw [bod_eq]; show (ln k c r).length + 1 ≤ _; omega)) ?_))))
  (conv => whnf); refine VRet.mk fun w' m => ?_
  refine ⟨?_, m.keeps.below⟩
  rw [bod_eq]
  rfl
set_option maxHeartbeats 800000 in
theorem l27Line_v (k : Nat) (c r : List UInt8) (w : World) (hk : k < 100) (hg : okR c r) : Calls Tryz.prog 104 #[.int .i64 k, .agg #[.string (tx c), .string (tx r)]] w (Post (.string (tx (ln k c r ++ [10]))) w) := by
  have hb := bod_len hk hg
  have hll := ln_len hk hg
  have hd := dd_len 1 k (by omega)
  have hA := fun w => l1Seal_v (bod k c r) w (by omega)
  rw [← bod_eq] at hA
  obtain ⟨_, _, _, h160, h200, _⟩ := hg
  refine post_of_vc ?_
  refine calls_of_vc tb_ok (args := [.int .i64 k, .agg #[.string (tx c), .string (tx r)]]) Tryz.func104 rfl ?_
  (repeat' ((conv => whnf); first | refine go ?_ | (refine VSome.mk ?_; intro gQ hA'; first | subst hA' | cases hA' | (dsimp only at hA'; subst hA')) | refine And.intro ?_ ?_ | intro _ | (first | ((show VCall _ _ _ 61 _ _); refine VCall.grow _ (fun w1 m1 => l1Num_v _ w1 (by omega)) ?_) | ((show VCall _ _ _ 136 _ _); refine VCall.grow _ (fun w1 m1 => hA w1) ?_) | ((show VDraw _ _ _ _ _ _); refine VDraw.mk (.take 0 (.take 3 (.take 4 (.take 7 (.take 8 (.br 1 (.take 2 (.take 5 (.take 6 (.take 9 (.br 10 (.take 11 (.take 12 .done)) .done))))) .done)))))) [0] (by kernel_rfl) (by kernel_rfl) ?_) | ((show VCat _ _ _); refine VCat.of (by first | (simp only [List.length_append, List.length_cons, List.length_nil]; omega) | (rw [bod_eq]; show (ln k c r).length + 1 ≤ _; omega)) ?_))))
  (conv => whnf); refine VRet.mk fun w' m => ?_
  refine ⟨?_, m.keeps.below⟩
  rw [bod_eq]
  rfl
def TS (ps : List (List UInt8)) : List Value := ps.map fun p => .string (tx p)
theorem TS_len1 (l : List (List UInt8)) : (TS l).length = l.length * 1 := by simp [TS]
theorem TS_app (a b : List (List UInt8)) : TS (a ++ b) = TS a ++ TS b := List.map_append
set_option maxHeartbeats 800000 in
theorem l1Split_v (b : UInt8) (x : Int) (l : List UInt8) (w : World) (hx : x = (b.toNat : Int)) (hl : l.length ≤ 2097152) :
    Calls Tryz.prog 44 #[.string (tx l), .int .u8 x] w fun e w' => ∃ v, e = .returned v ∧ RetV (ι := Nat × Nat) (fun _ => True) (fun (g, c) => .slice (some ⟨g, 0, none⟩) (sps b l).length c) (fun (g, c) => [.row (.slice (some ⟨g, 0, none⟩) (sps b l).length c) 9 1 (sps b l).length (TS (sps b l))]) (Base.of w) v w' := by
  have hsz := tx_size l
  refine calls_of_vc tb_ok (args := [.string (tx l), .int .u8 x]) Tryz.func44 rfl ?_
  (repeat' ((conv => whnf); first | refine go ?_ | (refine VSome.mk ?_; intro gQ hA'; first | subst hA' | cases hA' | (dsimp only at hA'; subst hA')) | refine And.intro ?_ ?_ | intro _))
  rename_i g
  (conv => whnf)
  refine VLoop.mk (ι := Nat × Nat × Nat) [5, 6, 7, 9, 10, 11, 12, 13, 14, 15, 16, 17, 18, 19, 20, 21, 22, 23, 24, 25, 26, 27, 28] (fun (k, g, c) => [(7, .int .i64 k), (5, .slice (some ⟨g, 0, none⟩) (spl b l k).1.length c), (6, .int .i64 (spl b l k).2)]) (fun (k, g, c) => [.row (.slice (some ⟨g, 0, none⟩) (spl b l k).1.length c) 9 1 (spl b l k).1.length (TS (spl b l k).1)]) (fun i => i.1 ≤ l.length) (fun i => l.length - i.1) (0, g, 0) (Nat.zero_le _) ?_ (OwnLe.mk [0] (by simp) rfl) (fun i u hk => ?_)
  · ((conv => whnf); repeat (first | exact trivial | refine ⟨rfl, ?_⟩ | refine ⟨congrArg (Value.int .i64) (by first | omega | assumption | exact Eq.symm (by assumption)), ?_⟩))
  obtain ⟨k, g, c⟩ := i
  replace hk : k ≤ l.length := hk
  obtain ⟨hle1, hle2⟩ := spl_le b l k
  by_cases hlt : k < l.length
  · have hget : l[k]? = some l[k] := List.getElem?_eq_getElem hlt
    by_cases hc : l[k] = b
    · have es := spl_yes (c := b) (l := l) (k := k) (by rw [hget, hc])
      have hcI : (((tx l)[k]'(by rw [hsz]; exact hlt)).toNat : Int) = x := by rw [hx]; show ((l[k]).toNat : Int) = _; rw [hc]
      have e5 : (spl b l (k + 1)).1.length = (spl b l k).1.length + 1 := by rw [es, List.length_append]; rfl
      have e4 : (spl b l (k + 1)).2 = k + 1 := by rw [es]
      have e6 : TS (spl b l (k + 1)).1 = TS (spl b l k).1 ++ [.string ((tx l).extract (spl b l k).2 k)] := by rw [es, TS_app, tx_sub]; rfl
      (repeat' ((conv => whnf); first | refine go ?_ | (refine VSome.mk ?_; intro gQ hA'; first | subst hA' | cases hA' | (dsimp only at hA'; subst hA')) | refine And.intro ?_ ?_ | intro _ | (first | ((show VSub _ _ _ _); refine VSub.mk (spl b l k).2 k rfl rfl hle1 (by omega) ?_))))
      (conv => whnf)
      (refine VApp.pushS 0 1 rfl rfl rfl rfl rfl (by omega) (by omega) (fun g' c' => ?_))
      (repeat' ((conv => whnf); first | refine go ?_ | (refine VSome.mk ?_; intro gQ hA'; first | subst hA' | cases hA' | (dsimp only at hA'; subst hA')) | refine And.intro ?_ ?_ | intro _))
      (conv => whnf)
      refine VNext.mk (k + 1, g', c') hlt (by show l.length - (k + 1) < l.length - k; omega) ?_ (OwnLe.mk [0] (by simp) (by show [_] = [_]; rw [e5, e6]; rfl))
      (conv => whnf)
      repeat (first | exact trivial | refine ⟨rfl, ?_⟩ | refine ⟨by rw [e5], ?_⟩ | refine ⟨by rw [e4]; rfl, ?_⟩)
    · have es := spl_no (c := b) (l := l) (k := k) (by rw [hget]; simpa using hc)
      have hcI : ¬ (((tx l)[k]'(by rw [hsz]; exact hlt)).toNat : Int) = x := by
        rw [hx]
        show ¬ ((l[k]).toNat : Int) = _
        intro h
        exact hc (UInt8.toNat_inj.1 (by omega))
      (repeat' ((conv => whnf); first | refine go ?_ | (refine VSome.mk ?_; intro gQ hA'; first | subst hA' | cases hA' | (dsimp only at hA'; subst hA')) | refine And.intro ?_ ?_ | intro _))
      (conv => whnf)
      refine VNext.mk (k + 1, g, c) hlt (by show l.length - (k + 1) < l.length - k; omega) ?_ (OwnLe.mk [0] (by simp) (by show [_] = [_]; rw [es]; rfl))
      (conv => whnf)
      repeat (first | exact trivial | refine ⟨rfl, ?_⟩ | refine ⟨by rw [es], ?_⟩)
  obtain rfl : k = l.length := by omega
  (repeat' ((conv => whnf); first | refine go ?_ | (refine VSome.mk ?_; intro gQ hA'; first | subst hA' | cases hA' | (dsimp only at hA'; subst hA')) | refine And.intro ?_ ?_ | intro _ | (first | ((show VSub _ _ _ _); refine VSub.mk (spl b l l.length).2 (tx l).size rfl rfl (by omega) (by omega) ?_))))
  (conv => whnf)
  (refine VApp.pushS 0 1 rfl rfl rfl rfl rfl (by omega) (by omega) (fun g' c' => ?_))
  (repeat' ((conv => whnf); first | refine go ?_ | (refine VSome.mk ?_; intro gQ hA'; first | subst hA' | cases hA' | (dsimp only at hA'; subst hA')) | refine And.intro ?_ ?_ | intro _))
  (conv => whnf)
  have e6 : TS (sps b l) = TS (spl b l l.length).1 ++ [.string ((tx l).extract (spl b l l.length).2 (tx l).size)] := by unfold sps; rw [TS_app, tx_sub, tx_size, List.take_length]; rfl
  have e5 : (sps b l).length = (spl b l l.length).1.length + 1 := by unfold sps; rw [List.length_append]; rfl
  rw [e5, e6]
  exact VRet.sel (g', c') trivial rfl [0] (by simp) rfl
end Go.Proofs.YtadjhkehfklmnaaGreatDoor
