import Derived.Shelf.Strings.Builder1
import Derived.Shelf.Strings.Builder2
import Derived.Shelf.Strings.OnBuilder
import Derived.Shelf.Strings.BuilderF
import Derived.Shelf.Strconv.Itoa0
import Derived.Shelf.Strconv.Itoa1
import Derived.Shelf.LaysM
import Derived.Shelf.Strconv.Itoa2
import Derived.Shelf.Strconv.Itoa3
import Derived.Shelf.Strconv.Itoa4
import Derived.Shelf.Strconv.ParseIntEmpty
import Derived.Shelf.Strconv.Clone
import Derived.Shelf.Strconv.SyntaxError
import Derived.Shelf.LaysC
import Derived.Shelf.Strconv.ToError
import Derived.Shelf.Strconv.Lower
import Derived.Shelf.Strconv.ParseUint10
import Derived.Shelf.Strconv.ParseUint10Empty
import Derived.Shelf.Strconv.ParseUint10Any
import Derived.Shelf.Strconv.ParseInt10
import Derived.Shelf.Strconv.RangeError
import Derived.Shelf.Strconv.ToErrorRange
import Derived.Shelf.Strconv.ParseUintEmpty
import Derived.Shelf.Strconv.ParseUint10b64
import Derived.Shelf.Strconv.ParseUint10b32
import Derived.Shelf.Strconv.ParseUint10b16
import Derived.Shelf.Strconv.ParseUint10b8
import Derived.Shelf.Strconv.ParseUint10At
import Derived.Shelf.Strconv.ParseInt10At64
import Derived.Shelf.Strconv.ParseInt10At32
import Derived.Shelf.Strconv.ParseInt10At16
import Derived.Shelf.Strconv.ParseInt10At8
import Derived.Shelf.Strconv.ParseInt10All
import Derived.Shelf.Strconv.ParseIntPublic10
import Derived.Shelf.Strings.Prefix
import Derived.Shelf.Bits.Mul64
import Derived.Shelf.Strings.Repeat
import Derived.Test.YtipcabmhdokfjaaGreatDoorProg
import Derived.Test.YtipcabmhdokfjaaGreatDoorA3
import Derived.Lib.AppendIntMem
import Derived.Test.YtipcabmhdokfjaaGreatDoorA4
/-! Texts of the proof, joined: Shelf, XB, X1, X2, XF, G0. -/
/- The library functions that this seat calls, by the shelf of the library. Laid by the kit's tools. -/
set_option linter.unusedVariables false
namespace Go.Proofs
open Go.Shelf
def Tryz.lays156_ren : Go.Shelf.Ren := ⟨fun | 156 => 52 | 165 => 110 | 166 => 50 | 169 => 25 | 240 => 107 | 241 => 171 | 276 => 167 | 277 => 203 | n => n, fun | 31 => 50 | 9 => 9 | 3 => 3 | 4 => 4 | 0 => 0 | 20 => 20 | 72 => 54 | 76 => 107 | 70 => 52 | 37 => 29 | 75 => 82 | 127 => 116 | 164 => 170 | 5 => 5 | 80 => 63 | n => n, fun | n => n⟩
theorem Tryz.lays156 : Go.Proofs.Lays.n156 Tryz.prog Tryz.lays156_ren := {
  mixed := by kernel_rfl
  f156 := Tryz.func52.trans (congrArg some (by kernel_rfl))
  f165 := Tryz.func110.trans (congrArg some (by kernel_rfl))
  f166 := Tryz.func50.trans (congrArg some (by kernel_rfl))
  f169 := Tryz.func25.trans (congrArg some (by kernel_rfl))
  f240 := Tryz.func107.trans (congrArg some (by kernel_rfl))
  f241 := Tryz.func171.trans (congrArg some (by kernel_rfl))
  f276 := Tryz.func167.trans (congrArg some (by kernel_rfl))
  f277 := Tryz.func203.trans (congrArg some (by kernel_rfl))
  t0 := Tryz.underlying0
  a0 := Tryz.isAgg0
  z0 := Tryz.sizeOf0
  v0 := Tryz.zeroValue0
  t3 := Tryz.underlying3
  a3 := Tryz.isAgg3
  z3 := Tryz.sizeOf3
  v3 := Tryz.zeroValue3
  t4 := Tryz.underlying4
  a4 := Tryz.isAgg4
  z4 := Tryz.sizeOf4
  v4 := Tryz.zeroValue4
  t9 := Tryz.underlying9
  a9 := Tryz.isAgg9
  z9 := Tryz.sizeOf9
  v9 := Tryz.zeroValue9
  t20 := Tryz.underlying20
  a20 := Tryz.isAgg20
  z20 := Tryz.sizeOf20
  v20 := Tryz.zeroValue20
  t31 := Tryz.underlying50
  a31 := Tryz.isAgg50
  z31 := Tryz.sizeOf50
  v31 := Tryz.zeroValue50
  t37 := Tryz.underlying29
  a37 := Tryz.isAgg29
  z37 := Tryz.sizeOf29
  v37 := Tryz.zeroValue29
  t70 := Tryz.underlying52
  a70 := Tryz.isAgg52
  z70 := Tryz.sizeOf52
  v70 := Tryz.zeroValue52
  t72 := Tryz.underlying54
  a72 := Tryz.isAgg54
  z72 := Tryz.sizeOf54
  v72 := Tryz.zeroValue54
  t75 := Tryz.underlying82
  a75 := Tryz.isAgg82
  z75 := Tryz.sizeOf82
  v75 := Tryz.zeroValue82
  t76 := Tryz.underlying107
  a76 := Tryz.isAgg107
  z76 := Tryz.sizeOf107
  v76 := Tryz.zeroValue107
  t127 := Tryz.underlying116
  a127 := Tryz.isAgg116
  z127 := Tryz.sizeOf116
  v127 := Tryz.zeroValue116
  t164 := Tryz.underlying170
  a164 := Tryz.isAgg170
  z164 := Tryz.sizeOf170
  v164 := Tryz.zeroValue170 }
theorem Tryz.Builder_Extra_156 : Builder.Extra Tryz.prog Tryz.lays156_ren := {
  sizeBuilder := by kernel_rfl
  liesBuilder := by kernel_rfl
  t5 := Tryz.underlying5
  a5 := Tryz.isAgg5
  z5 := Tryz.sizeOf5
  v5 := Tryz.zeroValue5
  infoByte := by kernel_rfl
  cellsByte := by kernel_rfl
  sizeByte := by kernel_rfl
  neB5 := by decide }
open Go.RowKit in
/-- No element: the empty string; the world is as it was. (Whatever the slice's address and capacity: a nil slice too.) (LAID: no walk: one application.) -/
theorem Tryz.strings_Join_none (a : Option Addr) (c : Nat) (sep : ByteArray) (w : World) :
    Calls Tryz.prog 52 #[.slice a 0 c, .string sep] w fun e w' => e = .returned (.string ⟨#[]⟩) ∧ w' = w := Any.strings_Join_none Tryz.lays156 Tryz.Builder_Extra_156 a c sep w
open Go.RowKit in
/-- strings.Join: "Join concatenates the elements of its first argument to create a single string. The separator string sep is placed between elements in the resulting string.": HOWEVER MANY ELEMENTS. Below the heap's end the world is as it was. (LAID: no walk: one application.) -/
theorem Tryz.strings_Join (bk o c : Nat) (xs : List ByteArray) (sep : ByteArray) (w : World) (hcells : ∀ (j : Nat) x, xs[j]? = some x → w.cell? ⟨bk, o + j, none⟩ = some (.string x)) (hbk : bk < w.heap.size) (hN : xs.length ≤ 140737488355328) (hcap : xs.length ≤ c) (hlen : (Lib.join (xs.map (·.data.toList)) sep.data.toList).length ≤ 140737488355328) :
    Calls Tryz.prog 52 #[.slice (some ⟨bk, o, none⟩) xs.length c, .string sep] w fun e w' => e = .returned (.string ⟨(Lib.join (xs.map (·.data.toList)) sep.data.toList).toArray⟩) ∧ Below w.heap.size w w' := Any.strings_Join Tryz.lays156 Tryz.Builder_Extra_156 bk o c xs sep w hcells hbk hN hcap hlen
def Tryz.laysM173_ren : Go.Shelf.Ren := ⟨fun | 173 => 54 | 246 => 112 | 283 => 172 | 284 => 173 | 285 => 174 | 286 => 175 | 129 => 205 | 317 => 204 | 318 => 206 | 319 => 207 | 320 => 208 | 337 => 214 | 338 => 215 | n => n, fun | 2 => 2 | 3 => 3 | 9 => 9 | 4 => 4 | 171 => 256 | 0 => 0 | 53 => 190 | 37 => 29 | 5 => 5 | 173 => 259 | 212 => 290 | 51 => 250 | 20 => 20 | 213 => 291 | 46 => 184 | 232 => 302 | 233 => 303 | n => n, fun | 17 => 1 | 18 => 3 | 19 => 4 | n => n⟩
theorem Tryz.laysM173 : Go.Proofs.LaysM.n173 Tryz.prog Tryz.laysM173_ren := {
  mixed := by kernel_rfl
  f129 := Tryz.func205.trans (congrArg some (by kernel_rfl))
  f173 := Tryz.func54.trans (congrArg some (by kernel_rfl))
  f246 := Tryz.func112.trans (congrArg some (by kernel_rfl))
  f283 := Tryz.func172.trans (congrArg some (by kernel_rfl))
  f284 := Tryz.func173.trans (congrArg some (by kernel_rfl))
  f285 := Tryz.func174.trans (congrArg some (by kernel_rfl))
  f286 := Tryz.func175.trans (congrArg some (by kernel_rfl))
  f317 := Tryz.func204.trans (congrArg some (by kernel_rfl))
  f318 := Tryz.func206.trans (congrArg some (by kernel_rfl))
  f319 := Tryz.func207.trans (congrArg some (by kernel_rfl))
  f320 := Tryz.func208.trans (congrArg some (by kernel_rfl))
  f337 := Tryz.func214.trans (congrArg some (by kernel_rfl))
  f338 := Tryz.func215.trans (congrArg some (by kernel_rfl))
  t0 := Tryz.underlying0
  a0 := Tryz.isAgg0
  z0 := Tryz.sizeOf0
  v0 := Tryz.zeroValue0
  t2 := Tryz.underlying2
  a2 := Tryz.isAgg2
  z2 := Tryz.sizeOf2
  v2 := Tryz.zeroValue2
  t3 := Tryz.underlying3
  a3 := Tryz.isAgg3
  z3 := Tryz.sizeOf3
  v3 := Tryz.zeroValue3
  t4 := Tryz.underlying4
  a4 := Tryz.isAgg4
  z4 := Tryz.sizeOf4
  v4 := Tryz.zeroValue4
  t5 := Tryz.underlying5
  a5 := Tryz.isAgg5
  z5 := Tryz.sizeOf5
  v5 := Tryz.zeroValue5
  t9 := Tryz.underlying9
  a9 := Tryz.isAgg9
  z9 := Tryz.sizeOf9
  v9 := Tryz.zeroValue9
  t20 := Tryz.underlying20
  a20 := Tryz.isAgg20
  z20 := Tryz.sizeOf20
  v20 := Tryz.zeroValue20
  t37 := Tryz.underlying29
  a37 := Tryz.isAgg29
  z37 := Tryz.sizeOf29
  v37 := Tryz.zeroValue29
  t46 := Tryz.underlying184
  a46 := Tryz.isAgg184
  z46 := Tryz.sizeOf184
  v46 := Tryz.zeroValue184
  t51 := Tryz.underlying250
  a51 := Tryz.isAgg250
  z51 := Tryz.sizeOf250
  v51 := Tryz.zeroValue250
  t53 := Tryz.underlying190
  a53 := Tryz.isAgg190
  z53 := Tryz.sizeOf190
  v53 := Tryz.zeroValue190
  t171 := Tryz.underlying256
  a171 := Tryz.isAgg256
  z171 := Tryz.sizeOf256
  v171 := Tryz.zeroValue256
  t173 := Tryz.underlying259
  a173 := Tryz.isAgg259
  z173 := Tryz.sizeOf259
  v173 := Tryz.zeroValue259
  t212 := Tryz.underlying290
  a212 := Tryz.isAgg290
  z212 := Tryz.sizeOf290
  v212 := Tryz.zeroValue290
  t213 := Tryz.underlying291
  a213 := Tryz.isAgg291
  z213 := Tryz.sizeOf291
  t232 := Tryz.underlying302
  a232 := Tryz.isAgg302
  z232 := Tryz.sizeOf302
  v232 := Tryz.zeroValue302
  t233 := Tryz.underlying303
  a233 := Tryz.isAgg303
  z233 := Tryz.sizeOf303
  v233 := Tryz.zeroValue303
  g17 := by kernel_rfl
  g18 := by kernel_rfl
  g19 := by kernel_rfl
  i0 := by kernel_rfl
  i2 := by kernel_rfl
  i3 := by kernel_rfl
  i4 := by kernel_rfl
  i5 := by kernel_rfl
  i9 := by kernel_rfl
  i20 := by kernel_rfl
  i37 := by kernel_rfl
  i46 := by kernel_rfl
  i51 := by kernel_rfl
  i53 := by kernel_rfl
  i171 := by kernel_rfl
  i173 := by kernel_rfl
  i212 := by kernel_rfl
  i232 := by kernel_rfl
  i233 := by kernel_rfl
  m17 := by kernel_rfl
  m18 := by kernel_rfl
  m19 := by kernel_rfl }
open Go.RowKit Go.Sort Go.Lib in
/-- strconv.FormatInt: "FormatInt returns the string representation of i in the given base": AT BASE 10: i's decimal numeral, for every int64. (LAID: no walk: one application.) -/
theorem Tryz.strconv_FormatInt_10 (n : Int) (h0 : -9223372036854775808 ≤ n) (h1 : n ≤ 9223372036854775807) (w : World) (htab : Lib.TabIs Tryz.prog w "internal/strconv.uint64pow10" .u64 Lib.pow10Tab) :
    Calls Tryz.prog 54 #[.int .i64 n, .int .i64 10] w fun e w' => e = .returned (.string ⟨(Lib.itoa n).toArray⟩) ∧ ∃ k os, w' = grow (w.drewN k) os := Any.strconv_FormatInt_10 Tryz.laysM173 n h0 h1 w htab
def Tryz.laysC174_ren : Go.Shelf.Ren := ⟨fun | 174 => 190 | 247 => 209 | 245 => 210 | 287 => 216 | 279 => 217 | 280 => 218 | 281 => 219 | 282 => 220 | 321 => 221 | 322 => 222 | 316 => 223 | 171 => 225 | 205 => 224 | 243 => 226 | 246 => 112 | 283 => 172 | 284 => 173 | 285 => 174 | 286 => 175 | 129 => 205 | 317 => 204 | 318 => 206 | 319 => 207 | 320 => 208 | 337 => 214 | 338 => 215 | n => n, fun | 9 => 9 | 3 => 3 | 2 => 2 | 75 => 82 | 85 => 272 | 4 => 4 | 167 => 296 | 5 => 5 | 53 => 190 | 175 => 297 | 46 => 184 | 168 => 299 | 37 => 29 | 0 => 0 | 210 => 307 | 21 => 21 | 127 => 116 | 145 => 311 | 143 => 309 | 171 => 256 | 173 => 259 | 212 => 290 | 51 => 250 | 20 => 20 | 213 => 291 | 232 => 302 | 233 => 303 | 80 => 63 | n => n, fun | 15 => 5 | 16 => 6 | 17 => 1 | 18 => 3 | 19 => 4 | n => n⟩
theorem Tryz.laysC174 : Go.Proofs.LaysC.n174 Tryz.prog Tryz.laysC174_ren := {
  mixed := by kernel_rfl
  f129 := Tryz.func205.trans (congrArg some (by kernel_rfl))
  f171 := Tryz.func225.trans (congrArg some (by kernel_rfl))
  f174 := Tryz.func190.trans (congrArg some (by kernel_rfl))
  f205 := Tryz.func224.trans (congrArg some (by kernel_rfl))
  f243 := Tryz.func226.trans (congrArg some (by kernel_rfl))
  f245 := Tryz.func210.trans (congrArg some (by kernel_rfl))
  f246 := Tryz.func112.trans (congrArg some (by kernel_rfl))
  f247 := Tryz.func209.trans (congrArg some (by kernel_rfl))
  f279 := Tryz.func217.trans (congrArg some (by kernel_rfl))
  f280 := Tryz.func218.trans (congrArg some (by kernel_rfl))
  f281 := Tryz.func219.trans (congrArg some (by kernel_rfl))
  f282 := Tryz.func220.trans (congrArg some (by kernel_rfl))
  f283 := Tryz.func172.trans (congrArg some (by kernel_rfl))
  f284 := Tryz.func173.trans (congrArg some (by kernel_rfl))
  f285 := Tryz.func174.trans (congrArg some (by kernel_rfl))
  f286 := Tryz.func175.trans (congrArg some (by kernel_rfl))
  f287 := Tryz.func216.trans (congrArg some (by kernel_rfl))
  f316 := Tryz.func223.trans (congrArg some (by kernel_rfl))
  f317 := Tryz.func204.trans (congrArg some (by kernel_rfl))
  f318 := Tryz.func206.trans (congrArg some (by kernel_rfl))
  f319 := Tryz.func207.trans (congrArg some (by kernel_rfl))
  f320 := Tryz.func208.trans (congrArg some (by kernel_rfl))
  f321 := Tryz.func221.trans (congrArg some (by kernel_rfl))
  f322 := Tryz.func222.trans (congrArg some (by kernel_rfl))
  f337 := Tryz.func214.trans (congrArg some (by kernel_rfl))
  f338 := Tryz.func215.trans (congrArg some (by kernel_rfl))
  t0 := Tryz.underlying0
  a0 := Tryz.isAgg0
  z0 := Tryz.sizeOf0
  v0 := Tryz.zeroValue0
  t2 := Tryz.underlying2
  a2 := Tryz.isAgg2
  z2 := Tryz.sizeOf2
  v2 := Tryz.zeroValue2
  t3 := Tryz.underlying3
  a3 := Tryz.isAgg3
  z3 := Tryz.sizeOf3
  v3 := Tryz.zeroValue3
  t4 := Tryz.underlying4
  a4 := Tryz.isAgg4
  z4 := Tryz.sizeOf4
  v4 := Tryz.zeroValue4
  t5 := Tryz.underlying5
  a5 := Tryz.isAgg5
  z5 := Tryz.sizeOf5
  v5 := Tryz.zeroValue5
  t9 := Tryz.underlying9
  a9 := Tryz.isAgg9
  z9 := Tryz.sizeOf9
  v9 := Tryz.zeroValue9
  t20 := Tryz.underlying20
  a20 := Tryz.isAgg20
  z20 := Tryz.sizeOf20
  v20 := Tryz.zeroValue20
  t21 := Tryz.underlying21
  a21 := Tryz.isAgg21
  z21 := Tryz.sizeOf21
  v21 := Tryz.zeroValue21
  t37 := Tryz.underlying29
  a37 := Tryz.isAgg29
  z37 := Tryz.sizeOf29
  v37 := Tryz.zeroValue29
  t46 := Tryz.underlying184
  a46 := Tryz.isAgg184
  z46 := Tryz.sizeOf184
  v46 := Tryz.zeroValue184
  t51 := Tryz.underlying250
  a51 := Tryz.isAgg250
  z51 := Tryz.sizeOf250
  v51 := Tryz.zeroValue250
  t53 := Tryz.underlying190
  a53 := Tryz.isAgg190
  z53 := Tryz.sizeOf190
  v53 := Tryz.zeroValue190
  t75 := Tryz.underlying82
  a75 := Tryz.isAgg82
  z75 := Tryz.sizeOf82
  v75 := Tryz.zeroValue82
  t85 := Tryz.underlying272
  a85 := Tryz.isAgg272
  z85 := Tryz.sizeOf272
  v85 := Tryz.zeroValue272
  t127 := Tryz.underlying116
  a127 := Tryz.isAgg116
  z127 := Tryz.sizeOf116
  v127 := Tryz.zeroValue116
  t143 := Tryz.underlying309
  a143 := Tryz.isAgg309
  z143 := Tryz.sizeOf309
  v143 := Tryz.zeroValue309
  t145 := Tryz.underlying311
  a145 := Tryz.isAgg311
  z145 := Tryz.sizeOf311
  v145 := Tryz.zeroValue311
  t167 := Tryz.underlying296
  a167 := Tryz.isAgg296
  z167 := Tryz.sizeOf296
  v167 := Tryz.zeroValue296
  t168 := Tryz.underlying299
  a168 := Tryz.isAgg299
  z168 := Tryz.sizeOf299
  v168 := Tryz.zeroValue299
  t171 := Tryz.underlying256
  a171 := Tryz.isAgg256
  z171 := Tryz.sizeOf256
  v171 := Tryz.zeroValue256
  t173 := Tryz.underlying259
  a173 := Tryz.isAgg259
  z173 := Tryz.sizeOf259
  v173 := Tryz.zeroValue259
  t175 := Tryz.underlying297
  a175 := Tryz.isAgg297
  z175 := Tryz.sizeOf297
  v175 := Tryz.zeroValue297
  t210 := Tryz.underlying307
  a210 := Tryz.isAgg307
  z210 := Tryz.sizeOf307
  v210 := Tryz.zeroValue307
  t212 := Tryz.underlying290
  a212 := Tryz.isAgg290
  z212 := Tryz.sizeOf290
  v212 := Tryz.zeroValue290
  t213 := Tryz.underlying291
  a213 := Tryz.isAgg291
  z213 := Tryz.sizeOf291
  t232 := Tryz.underlying302
  a232 := Tryz.isAgg302
  z232 := Tryz.sizeOf302
  v232 := Tryz.zeroValue302
  t233 := Tryz.underlying303
  a233 := Tryz.isAgg303
  z233 := Tryz.sizeOf303
  v233 := Tryz.zeroValue303
  g15 := by kernel_rfl
  g16 := by kernel_rfl
  g17 := by kernel_rfl
  g18 := by kernel_rfl
  g19 := by kernel_rfl
  t80 := Tryz.underlying63
  a80 := Tryz.isAgg63
  z80 := Tryz.sizeOf63
  v80 := Tryz.zeroValue63
  i0 := by kernel_rfl
  i2 := by kernel_rfl
  i3 := by kernel_rfl
  i4 := by kernel_rfl
  i5 := by kernel_rfl
  i9 := by kernel_rfl
  i20 := by kernel_rfl
  i21 := by kernel_rfl
  i37 := by kernel_rfl
  i46 := by kernel_rfl
  i51 := by kernel_rfl
  i53 := by kernel_rfl
  i75 := by kernel_rfl
  i80 := by kernel_rfl
  i85 := by kernel_rfl
  i127 := by kernel_rfl
  i143 := by kernel_rfl
  i145 := by kernel_rfl
  i167 := by kernel_rfl
  i168 := by kernel_rfl
  i171 := by kernel_rfl
  i173 := by kernel_rfl
  i175 := by kernel_rfl
  i210 := by kernel_rfl
  i212 := by kernel_rfl
  i232 := by kernel_rfl
  i233 := by kernel_rfl
  m15 := by kernel_rfl
  m16 := by kernel_rfl
  m17 := by kernel_rfl
  m18 := by kernel_rfl
  m19 := by kernel_rfl
  c0 := by kernel_rfl
  c2 := by kernel_rfl
  c3 := by kernel_rfl
  c4 := by kernel_rfl
  c5 := by kernel_rfl
  c9 := by kernel_rfl
  c20 := by kernel_rfl
  c21 := by kernel_rfl
  c37 := by kernel_rfl
  c46 := by kernel_rfl
  c51 := by kernel_rfl
  c53 := by kernel_rfl
  c75 := by kernel_rfl
  c80 := by kernel_rfl
  c85 := by kernel_rfl
  c127 := by kernel_rfl
  c143 := by kernel_rfl
  c145 := by kernel_rfl
  c167 := by kernel_rfl
  c168 := by kernel_rfl
  c171 := by kernel_rfl
  c173 := by kernel_rfl
  c175 := by kernel_rfl
  c210 := by kernel_rfl
  c212 := by kernel_rfl
  c213 := by kernel_rfl
  c232 := by kernel_rfl
  c233 := by kernel_rfl }
open Go.RowKit in
/-- strconv.ParseInt(s, 10, 64), AT EVERY STRING THAT SPELLS AN int64 ('Lib.parseIntB 64 s.data.toList = .ok v'): v, AND NO ERROR. (LAID: no walk: one application.) -/
theorem Tryz.strconv_ParseInt_10_at64_ok (s : ByteArray) (hmax : s.size ≤ 9223372036854775806) (v : Int) (h : Lib.parseIntB 64 s.data.toList = .ok v) (w : World) :
    Calls Tryz.prog 190 #[.string s, .int .i64 10, .int .i64 64] w fun e w' => e = .returned (.tuple #[.int .i64 v, .nilIface]) ∧ (w' = w ∨ ∃ t, w' = Lib.bytesWorld w 5 t) := Any.strconv_ParseInt_10_at64_ok Tryz.laysC174 s hmax v h w
def Tryz.lays105_ren : Go.Shelf.Ren := ⟨fun | 105 => 51 | 212 => 108 | 99 => 109 | 165 => 110 | 166 => 50 | 170 => 111 | 169 => 25 | 263 => 168 | 264 => 169 | 206 => 170 | 240 => 107 | 241 => 171 | 276 => 167 | 277 => 203 | n => n, fun | 9 => 9 | 3 => 3 | 4 => 4 | 20 => 20 | 0 => 0 | 46 => 184 | 109 => 185 | 5 => 5 | 72 => 54 | 76 => 107 | 51 => 250 | 146 => 251 | 53 => 190 | 148 => 253 | 70 => 52 | 37 => 29 | 75 => 82 | 127 => 116 | 164 => 170 | 80 => 63 | n => n, fun | n => n⟩
theorem Tryz.lays105 : Go.Proofs.Lays.n105 Tryz.prog Tryz.lays105_ren := {
  mixed := by kernel_rfl
  f99 := Tryz.func109.trans (congrArg some (by kernel_rfl))
  f105 := Tryz.func51.trans (congrArg some (by kernel_rfl))
  f165 := Tryz.func110.trans (congrArg some (by kernel_rfl))
  f166 := Tryz.func50.trans (congrArg some (by kernel_rfl))
  f169 := Tryz.func25.trans (congrArg some (by kernel_rfl))
  f170 := Tryz.func111.trans (congrArg some (by kernel_rfl))
  f206 := Tryz.func170.trans (congrArg some (by kernel_rfl))
  f212 := Tryz.func108.trans (congrArg some (by kernel_rfl))
  f240 := Tryz.func107.trans (congrArg some (by kernel_rfl))
  f241 := Tryz.func171.trans (congrArg some (by kernel_rfl))
  f263 := Tryz.func168.trans (congrArg some (by kernel_rfl))
  f264 := Tryz.func169.trans (congrArg some (by kernel_rfl))
  f276 := Tryz.func167.trans (congrArg some (by kernel_rfl))
  f277 := Tryz.func203.trans (congrArg some (by kernel_rfl))
  t0 := Tryz.underlying0
  a0 := Tryz.isAgg0
  z0 := Tryz.sizeOf0
  v0 := Tryz.zeroValue0
  t3 := Tryz.underlying3
  a3 := Tryz.isAgg3
  z3 := Tryz.sizeOf3
  v3 := Tryz.zeroValue3
  t4 := Tryz.underlying4
  a4 := Tryz.isAgg4
  z4 := Tryz.sizeOf4
  v4 := Tryz.zeroValue4
  t5 := Tryz.underlying5
  a5 := Tryz.isAgg5
  z5 := Tryz.sizeOf5
  v5 := Tryz.zeroValue5
  t9 := Tryz.underlying9
  a9 := Tryz.isAgg9
  z9 := Tryz.sizeOf9
  v9 := Tryz.zeroValue9
  t20 := Tryz.underlying20
  a20 := Tryz.isAgg20
  z20 := Tryz.sizeOf20
  v20 := Tryz.zeroValue20
  t37 := Tryz.underlying29
  a37 := Tryz.isAgg29
  z37 := Tryz.sizeOf29
  v37 := Tryz.zeroValue29
  t46 := Tryz.underlying184
  a46 := Tryz.isAgg184
  z46 := Tryz.sizeOf184
  v46 := Tryz.zeroValue184
  t51 := Tryz.underlying250
  a51 := Tryz.isAgg250
  z51 := Tryz.sizeOf250
  v51 := Tryz.zeroValue250
  t53 := Tryz.underlying190
  a53 := Tryz.isAgg190
  z53 := Tryz.sizeOf190
  v53 := Tryz.zeroValue190
  t70 := Tryz.underlying52
  a70 := Tryz.isAgg52
  z70 := Tryz.sizeOf52
  v70 := Tryz.zeroValue52
  t72 := Tryz.underlying54
  a72 := Tryz.isAgg54
  z72 := Tryz.sizeOf54
  v72 := Tryz.zeroValue54
  t75 := Tryz.underlying82
  a75 := Tryz.isAgg82
  z75 := Tryz.sizeOf82
  v75 := Tryz.zeroValue82
  t76 := Tryz.underlying107
  a76 := Tryz.isAgg107
  z76 := Tryz.sizeOf107
  v76 := Tryz.zeroValue107
  t109 := Tryz.underlying185
  a109 := Tryz.isAgg185
  z109 := Tryz.sizeOf185
  v109 := Tryz.zeroValue185
  t127 := Tryz.underlying116
  a127 := Tryz.isAgg116
  z127 := Tryz.sizeOf116
  v127 := Tryz.zeroValue116
  t146 := Tryz.underlying251
  a146 := Tryz.isAgg251
  z146 := Tryz.sizeOf251
  v146 := Tryz.zeroValue251
  t148 := Tryz.underlying253
  a148 := Tryz.isAgg253
  z148 := Tryz.sizeOf253
  v148 := Tryz.zeroValue253
  t164 := Tryz.underlying170
  a164 := Tryz.isAgg170
  z164 := Tryz.sizeOf170
  v164 := Tryz.zeroValue170 }
theorem Tryz.Builder_Extra_105 : Builder.Extra Tryz.prog Tryz.lays105_ren := {
  sizeBuilder := by kernel_rfl
  liesBuilder := by kernel_rfl
  t5 := Tryz.underlying5
  a5 := Tryz.isAgg5
  z5 := Tryz.sizeOf5
  v5 := Tryz.zeroValue5
  infoByte := by kernel_rfl
  cellsByte := by kernel_rfl
  sizeByte := by kernel_rfl
  neB5 := by decide }
open Go.RowKit Go.Lib in
/-- **strings.Repeat: count ≥ 0, the result within one allocation: count copies of s.** (LAID: no walk: one application.) -/
theorem Tryz.strings_Repeat (s : ByteArray) (c : Nat) (w : World) (hc : c ≤ 9223372036854775807) (hlen : s.size * c ≤ 140737488355328) :
    Calls Tryz.prog 51 #[.string s, .int .i64 c] w fun e w' => e = .returned (.string ⟨(Lib.repeatL s.data.toList c).toArray⟩) ∧ Below w.heap.size w w' := Any.strings_Repeat Tryz.lays105 Tryz.Builder_Extra_105 s c w hc hlen
end Go.Proofs

/-! Contracts of a strings.Builder that stands at the head of a struct of three cells (Builder, int): copyCheck, String. -/
set_option linter.unusedVariables false
set_option linter.unusedSimpArgs false
namespace Go.Proofs.YtipcabmhdokfjaaGreatDoorV
open Go Go.RowKit

theorem setCell_row {w : World} {b : Nat} {cs : Array Value} {et : Nat} {fr : Nat × Nat} (h : w.heap[b]? = some (.cells cs et fr)) (off : Nat) (v : Value) : w.setCell ⟨b, off, none⟩ v = w.setRow b (cs.setIfInBounds off v) := by
  unfold World.setCell World.setRow
  congr 1
  apply Array.ext_getElem?
  intro i
  simp only [Array.getElem?_modify]
  split
  · rename_i e
    subst e
    rw [h]
    simp
  · rfl

/-- The shape: a pointer to the struct; the struct; the buffer. -/
def bdI : Sk := ⟨[.lf (.ptr 0 0)], [[.bld 0 56, .own 0, .pv (.int .i64)]], [some (5, .int .u8)]⟩
def bdO : Sk := ⟨[], [[.bld 0 56, .own 0, .pv (.int .i64)]], [some (5, .int .u8)]⟩
def bdS : Sk := ⟨[.lf (.pv .str)], [[.bld 0 56, .dead, .pv (.int .i64)]], [none]⟩
def copyC (x : Bool × Int × List Int) : Option (Bool × Int × List Int) := some (false, x.2.1, x.2.2)
def strC (x : Bool × Int × List Int) : Option (List Int × Bool × Int) := if x.2.2 = [] then none else some (x.2.2, x.1, x.2.1)

set_option maxHeartbeats 4000000 in
set_option maxRecDepth 100000 in
theorem copyCheck_used (b : Nat) (w : World) (h0 : w.cell? ⟨b, 0, none⟩ = some (.pointer (some ⟨b, 0, none⟩))) :
    Calls Tryz.prog 107 #[.pointer (some ⟨b, 0, none⟩)] w fun e w' => e = .returned (.tuple #[]) ∧ w' = w := by
  obtain ⟨j, hj, _⟩ := Option.map_eq_some_iff.1 (show (Tryz.prog.info? 54).map (·.size) = some 2 by kernel_rfl)
  have mixed : Tryz.prog.follows .mixedOrders = true := by kernel_rfl
  have t52 := Tryz.underlying52; have a52 := Tryz.isAgg52; have z52 := Tryz.sizeOf52; have v52 := Tryz.zeroValue52; have u52 := run_underlying Tryz.underlying52
  have t54 := Tryz.underlying54; have a54 := Tryz.isAgg54; have z54 := Tryz.sizeOf54; have v54 := Tryz.zeroValue54; have u54 := run_underlying Tryz.underlying54
  have t170 := Tryz.underlying170; have a170 := Tryz.isAgg170; have z170 := Tryz.sizeOf170; have v170 := Tryz.zeroValue170; have u170 := run_underlying Tryz.underlying170
  have t29 := Tryz.underlying29; have a29 := Tryz.isAgg29; have z29 := Tryz.sizeOf29; have v29 := Tryz.zeroValue29; have u29 := run_underlying Tryz.underlying29
  have t116 := Tryz.underlying116; have a116 := Tryz.isAgg116; have z116 := Tryz.sizeOf116; have v116 := Tryz.zeroValue116; have u116 := run_underlying Tryz.underlying116
  have t3 := Tryz.underlying3; have a3 := Tryz.isAgg3; have z3 := Tryz.sizeOf3; have v3 := Tryz.zeroValue3; have u3 := run_underlying Tryz.underlying3
  have t4 := Tryz.underlying4; have a4 := Tryz.isAgg4; have z4 := Tryz.sizeOf4; have v4 := Tryz.zeroValue4; have u4 := run_underlying Tryz.underlying4
  have t9 := Tryz.underlying9; have a9 := Tryz.isAgg9; have z9 := Tryz.sizeOf9; have v9 := Tryz.zeroValue9; have u9 := run_underlying Tryz.underlying9
  have t5 := Tryz.underlying5; have a5 := Tryz.isAgg5; have z5 := Tryz.sizeOf5; have v5 := Tryz.zeroValue5; have u5 := run_underlying Tryz.underlying5
  go_enter Tryz.func107, Tryz.ntmps107
  go_wp2
  rw [Lib.run_neq_ptr_same w _ Tryz.underlying52 hj]
  go_wp2
  go_end0
  exact ⟨rfl, rfl⟩

set_option maxHeartbeats 4000000 in
set_option maxRecDepth 100000 in
theorem copyCheck_fresh (b : Nat) (w : World) (h0 : w.cell? ⟨b, 0, none⟩ = some (.pointer none)) (hsh : w.shape? b = some (56, 3)) (hfz : w.frozen? ⟨b, 0, none⟩ = false) :
    Calls Tryz.prog 107 #[.pointer (some ⟨b, 0, none⟩)] w fun e w' => e = .returned (.tuple #[]) ∧ w' = w.setCell ⟨b, 0, none⟩ (.pointer (some ⟨b, 0, none⟩)) := by
  obtain ⟨j, hj, hjs⟩ := Option.map_eq_some_iff.1 (show (Tryz.prog.info? 54).map (·.size) = some 2 by kernel_rfl)
  have mixed : Tryz.prog.follows .mixedOrders = true := by kernel_rfl
  have t52 := Tryz.underlying52; have a52 := Tryz.isAgg52; have z52 := Tryz.sizeOf52; have v52 := Tryz.zeroValue52; have u52 := run_underlying Tryz.underlying52
  have t54 := Tryz.underlying54; have a54 := Tryz.isAgg54; have z54 := Tryz.sizeOf54; have v54 := Tryz.zeroValue54; have u54 := run_underlying Tryz.underlying54
  have t170 := Tryz.underlying170; have a170 := Tryz.isAgg170; have z170 := Tryz.sizeOf170; have v170 := Tryz.zeroValue170; have u170 := run_underlying Tryz.underlying170
  have t29 := Tryz.underlying29; have a29 := Tryz.isAgg29; have z29 := Tryz.sizeOf29; have v29 := Tryz.zeroValue29; have u29 := run_underlying Tryz.underlying29
  have t116 := Tryz.underlying116; have a116 := Tryz.isAgg116; have z116 := Tryz.sizeOf116; have v116 := Tryz.zeroValue116; have u116 := run_underlying Tryz.underlying116
  have t3 := Tryz.underlying3; have a3 := Tryz.isAgg3; have z3 := Tryz.sizeOf3; have v3 := Tryz.zeroValue3; have u3 := run_underlying Tryz.underlying3
  have t4 := Tryz.underlying4; have a4 := Tryz.isAgg4; have z4 := Tryz.sizeOf4; have v4 := Tryz.zeroValue4; have u4 := run_underlying Tryz.underlying4
  have t9 := Tryz.underlying9; have a9 := Tryz.isAgg9; have z9 := Tryz.sizeOf9; have v9 := Tryz.zeroValue9; have u9 := run_underlying Tryz.underlying9
  have t5 := Tryz.underlying5; have a5 := Tryz.isAgg5; have z5 := Tryz.sizeOf5; have v5 := Tryz.zeroValue5; have u5 := run_underlying Tryz.underlying5
  go_enter Tryz.func107, Tryz.ntmps107
  go_wp2
  rw [Lib.run_to_unsafe w ⟨b, 0, none⟩ Tryz.underlying52 Tryz.underlying170 hj (by rw [hjs]; decide) hsh (Nat.zero_lt_succ 2)]
  simp only [Result.andThen]
  rw [Oper.upon_value]
  go_wp2
  rw [run_callFunc_extern Tryz.func167 (by kernel_rfl) (by kernel_rfl) (by kernel_rfl) (e := Extern.AbiNoEscape.same) (by kernel_rfl)]
  rw [Lib.run_noEscape]
  simp only [Result.andThen]
  rw [Oper.upon_value]
  go_wp2
  rw [Lib.run_from_unsafe w ⟨b, 0, none⟩ Tryz.underlying170 Tryz.underlying52 hj hsh (by kernel_rfl)]
  simp only [Result.andThen]
  rw [Oper.upon_value]
  go_wp2
  go_end0
  exact ⟨rfl, rfl⟩

set_option maxHeartbeats 4000000 in
set_option maxRecDepth 100000 in
theorem string_some (b g cap : Nat) (p d : Value) (cur : Array Value) (l : List UInt8) (w : World) (h0 : l ≠ []) (hb : w.heap[b]? = some (.cells #[p, .slice (some ⟨g, 0, none⟩) l.length cap, d] 56 (0, 0))) (hg : w.heap[g]? = some (.cells cur 5 (0, 0)))
    (hnc : l.length ≤ cap) (hcm : cap ≤ maxLen) (hcs : cur.size = cap * 1) (hcell : ∀ (j : Nat) (x : UInt8), l[j]? = some x → w.cell? ⟨g, j, none⟩ = some (.int .u8 x.toNat)) :
    Calls Tryz.prog 25 #[.pointer (some ⟨b, 0, none⟩)] w fun e w' => e = .returned (.string ⟨l.toArray⟩) ∧ w' = w.drew.freeze ⟨g, 0, none⟩ l.length := by
  have hl0 : l.length ≠ 0 := by simpa using h0
  have c1 : w.drew.cell? ⟨b, 1, none⟩ = some (.slice (some ⟨g, 0, none⟩) l.length cap) := by
    have : w.drew.heap[b]? = some (.cells #[p, .slice (some ⟨g, 0, none⟩) l.length cap, d] 56 (0, 0)) := hb
    rw [Lib.cell_of_heap this]; rfl
  have hSD : (Builtin.unsafeSliceData_ #[29] 116 #[.slice (some ⟨g, 0, none⟩) l.length cap]).run Tryz.prog w.drew = .ok (.pointer (some ⟨g, 0, none⟩)) w.drew :=
    Lib.run_unsafeSliceData_row _ _ _ _ _ _ (by omega)
  have hUS : (Builtin.unsafeString_ #[116, 3] 9 #[.pointer (some ⟨g, 0, none⟩), .int .i64 l.length]).run Tryz.prog w.drew = .ok (.string ⟨l.toArray⟩) (w.drew.freeze ⟨g, 0, none⟩ l.length) := by
    refine Lib.run_unsafeString_row w.drew 116 3 9 5 Tryz.underlying116 (by kernel_rfl) g cur.size (by have hg' : w.drew.heap[g]? = some (.cells cur 5 (0, 0)) := hg; simp [World.shape?, hg']) l h0 (by omega) (by unfold maxLen at hcm; omega) ?_
    intro j x hx
    rw [add_at, Nat.zero_add]
    exact hcell j x hx
  have mixed : Tryz.prog.follows .mixedOrders = true := by kernel_rfl
  have t52 := Tryz.underlying52; have a52 := Tryz.isAgg52; have z52 := Tryz.sizeOf52; have v52 := Tryz.zeroValue52; have u52 := run_underlying Tryz.underlying52
  have t54 := Tryz.underlying54; have a54 := Tryz.isAgg54; have z54 := Tryz.sizeOf54; have v54 := Tryz.zeroValue54; have u54 := run_underlying Tryz.underlying54
  have t170 := Tryz.underlying170; have a170 := Tryz.isAgg170; have z170 := Tryz.sizeOf170; have v170 := Tryz.zeroValue170; have u170 := run_underlying Tryz.underlying170
  have t29 := Tryz.underlying29; have a29 := Tryz.isAgg29; have z29 := Tryz.sizeOf29; have v29 := Tryz.zeroValue29; have u29 := run_underlying Tryz.underlying29
  have t116 := Tryz.underlying116; have a116 := Tryz.isAgg116; have z116 := Tryz.sizeOf116; have v116 := Tryz.zeroValue116; have u116 := run_underlying Tryz.underlying116
  have t3 := Tryz.underlying3; have a3 := Tryz.isAgg3; have z3 := Tryz.sizeOf3; have v3 := Tryz.zeroValue3; have u3 := run_underlying Tryz.underlying3
  have t4 := Tryz.underlying4; have a4 := Tryz.isAgg4; have z4 := Tryz.sizeOf4; have v4 := Tryz.zeroValue4; have u4 := run_underlying Tryz.underlying4
  have t9 := Tryz.underlying9; have a9 := Tryz.isAgg9; have z9 := Tryz.sizeOf9; have v9 := Tryz.zeroValue9; have u9 := run_underlying Tryz.underlying9
  have t5 := Tryz.underlying5; have a5 := Tryz.isAgg5; have z5 := Tryz.sizeOf5; have v5 := Tryz.zeroValue5; have u5 := run_underlying Tryz.underlying5
  go_enter Tryz.func25, Tryz.ntmps25
  go_wp2
  go_region_o
  all_goals (go_wp2; go_ret; exact ⟨rfl, rfl⟩)

section
variable {F : Nat → Prop} {s s' : St} {G : Gm} {vals vals' : List Value} {w w' : World}
theorem Holds.slotsTo (h : Holds F s G vals w) (hb : s'.boxes = s.boxes) (ho : s'.owns = s.owns) (hs : All2 (HA (HR F s' G w)) s'.slots vals') : Holds F s' G vals' w := by
  obtain ⟨sl, bx, ow⟩ := s
  obtain ⟨sl', bx', ow'⟩ := s'
  cases hb
  cases ho
  exact ⟨hs, h.box, h.own, h.bb, h.bo, h.oo, h.nF, h.Flt, h.ty, h.gl⟩
theorem box3 {b0 b1 b2 : L} {cs : Array Value} {R : L → Value → Prop} (h : All2 R [b0, b1, b2] cs.toList) : ∃ v0 v1 v2, cs = #[v0, v1, v2] ∧ R b0 v0 ∧ R b1 v1 ∧ R b2 v2 := by
  obtain ⟨l⟩ := cs
  cases h with
  | cons h0 h => cases h with
    | cons h1 h => cases h with
      | cons h2 h => cases h; exact ⟨_, _, _, rfl, h0, h1, h2⟩
end

theorem copyC_ok : SigOK Tryz.prog 107 ⟨bdI, bdO, mkFun bdI.tys bdO.tys copyC⟩ := by
  refine ⟨⟨Tryz.f107, by kernel_rfl, by kernel_rfl, by kernel_rfl⟩, fun ps qs hrun F G vals w hH => ?_⟩
  simp only [mkFun] at hrun
  split at hrun
  rotate_left
  · cases hrun
  rename_i x hx
  obtain ⟨y, hy, hq⟩ := Option.bind_eq_some_iff.1 hrun
  cases hq
  have hps := ofPL_some hx
  subst hps
  obtain ⟨z, d, xs⟩ := x
  cases hy
  have hsl : All2 (HA (HR F (enc bdI (szS bdI) (toPL bdI.tys (z, d, xs))) G w)) [lf (.ptr 0 0)] vals := hH.slots
  cases hsl with
  | cons h0 hsl =>
  cases hsl
  cases (show _ = Value.pointer (some ⟨G.bx 0, 0, none⟩) from h0)
  obtain ⟨cs, et, hc, hl⟩ := hH.box 0 [.bld 0 56 z, .own 0, .pv ⟨.int .i64, d⟩] rfl
  obtain ⟨v0, v1, v2, rfl, k0, k1, k2⟩ := box3 hl
  have het : et = 56 := by
    have h1 := hH.ty 0 _ rfl _ _ _ hc
    have h2 : G.et 0 = 56 := k0.2
    rw [h1, h2]
  subst het
  have hcell : w.cell? ⟨G.bx 0, 0, none⟩ = some v0 := by rw [Lib.cell_of_heap hc]; rfl
  cases z with
  | false =>
    cases (show v0 = Value.pointer (some ⟨G.bx 0, 0, none⟩) from k0.1)
    refine (copyCheck_used (G.bx 0) w hcell).mono fun e w' he => ?_
    obtain ⟨rfl, rfl⟩ := he
    exact ⟨G, [], rfl, hH.slotsTo rfl rfl .nil, ⟨Keeps.refl _ _, fun k hk => .inl hk, fun _ _ => ⟨rfl, rfl⟩, fun _ _ o ho => ⟨⟨o, ho⟩, rfl⟩⟩⟩
  | true =>
    cases (show v0 = Value.pointer none from k0.1)
    refine (copyCheck_fresh (G.bx 0) w hcell (by simp [World.shape?, hc]) (Lib.frozen_of_heap hc 0)).mono fun e w' he => ?_
    obtain ⟨rfl, rfl⟩ := he
    have hst := store_box hH (b := 0) (ls := [.bld 0 56 true, .own 0, .pv ⟨.int .i64, d⟩]) rfl (k := 0) (new := [.bld 0 56 false]) (by simp) (vs := [.pointer (some ⟨G.bx 0, 0, none⟩)]) (.cons ⟨rfl, k0.2⟩ .nil) hc
    rw [setCell_row hc]
    obtain ⟨m1, m2⟩ := hst
    have m3 := m2 1 1
    refine ⟨G, [], rfl, Holds.slotsTo m1 rfl rfl .nil, ⟨m3.keeps, fun k hk => m3.fresh k hk, m3.gb, fun l hl o ho => m3.go l hl o ho⟩⟩

theorem strC_ok : SigOK Tryz.prog 25 ⟨bdI, bdS, mkFun bdI.tys bdS.tys strC⟩ := by
  refine ⟨⟨Tryz.f25, by kernel_rfl, by kernel_rfl, by kernel_rfl⟩, fun ps qs hrun F G vals w hH => ?_⟩
  simp only [mkFun] at hrun
  split at hrun
  rotate_left
  · cases hrun
  rename_i x hx
  obtain ⟨y, hy, hq⟩ := Option.bind_eq_some_iff.1 hrun
  cases hq
  have hps := ofPL_some hx
  subst hps
  obtain ⟨z, d, xs⟩ := x
  unfold strC at hy
  split at hy
  · cases hy
  rename_i hne
  cases hy
  simp only at hne
  have hsl : All2 (HA (HR F (enc bdI (szS bdI) (toPL bdI.tys (z, d, xs))) G w)) [lf (.ptr 0 0)] vals := hH.slots
  cases hsl with
  | cons h0 hsl =>
  cases hsl
  cases (show _ = Value.pointer (some ⟨G.bx 0, 0, none⟩) from h0)
  obtain ⟨cs, et, hc, hl⟩ := hH.box 0 [.bld 0 56 z, .own 0, .pv ⟨.int .i64, d⟩] rfl
  obtain ⟨v0, v1, v2, rfl, k0, k1, k2⟩ := box3 hl
  have het : et = 56 := by
    have h1 := hH.ty 0 _ rfl _ _ _ hc
    have h2 : G.et 0 = 56 := k0.2
    rw [h1, h2]
  subst het
  have ho : ownAt (enc bdI (szS bdI) (toPL bdI.tys (z, d, xs))) 0 = some ⟨5, .int .u8, xs⟩ := rfl
  obtain ⟨_, cs2, hr, hel⟩ := hH.own 0 _ ho
  have hrep := own_rep hH ho
  rcases hr.2 with ⟨_, hn⟩ | ⟨g, cap, cur, hv, _, hh, hnc, hm, hs, htk⟩
  · exact absurd (List.length_eq_zero_iff.1 hn) hne
  cases (show v1 = G.ow 0 from k1.1)
  have hrep2 : RepSl w (fun k => okS F (enc bdI (szS bdI) (toPL bdI.tys (z, d, xs))) G w k ∨ (G.ow 0).ownBlock = some k) (fun x es => Rep w _ (.int .u8) x es) 1 xs [G.ow 0] := hrep
  obtain ⟨A, c, e1, _, hcm, hx2⟩ := hrep2
  obtain ⟨ad, rfl, hsp, _, hel2⟩ := hx2 hne
  rw [hv] at e1
  cases e1
  obtain ⟨l, hlx, hcl⟩ := bytes_of (ok := fun k => okS F (enc bdI (szS bdI) (toPL bdI.tys (z, d, xs))) G w k ∨ (G.ow 0).ownBlock = some k) hsp xs ⟨g, 0, none⟩ hsp hel2
  have hll : List.length (α := Int) xs = l.length := (congrArg (List.length (α := Int)) hlx).symm.trans (List.length_map _)
  have hl0 : l ≠ [] := by rintro rfl; exact hne (by rw [← hlx]; rfl)
  have hrun2 := string_some (G.bx 0) g cap v0 v2 cur l w hl0 (by rw [hc, hv]; exact congrArg (fun n => some (Obj.cells #[v0, Value.slice (some ⟨g, 0, none⟩) n cap, v2] 56 (0, 0))) hll) hh (Nat.le_trans (Nat.le_of_eq hll.symm) hnc) hm hs (fun j x hj => by
    obtain ⟨hj1, rfl⟩ := List.getElem?_eq_some_iff.1 hj
    have := hcl j hj1
    rwa [add_at, Nat.zero_add] at this)
  refine hrun2.mono fun e w' he => ?_
  obtain ⟨rfl, rfl⟩ := he
  generalize hs0 : enc bdI (szS bdI) (toPL bdI.tys (z, d, xs)) = s0 at *
  have hgl : Live s0 G g := .inr ⟨0, _, ho, by rw [hv]; rfl⟩
  have hk := killIn_sound (bs := []) (os := [0]) (si := ⟨[], [], []⟩) (Gi := G) (w' := w) hH (Keeps.refl _ _) (by
    rintro j (⟨b, ls, hb, _⟩ | ⟨l, x, hx, _⟩)
    · simp [boxAt] at hb
    · simp [ownAt] at hx)
  have hd := hk.1.grew (Grew.drew w)
  have hng : ¬ Live (killIn s0 [] [0]) G g := by
    rintro (⟨b, ls, hb, e⟩ | ⟨l', x, hx, e⟩)
    · obtain ⟨q, hq, _, _⟩ := killIn_box hb
      exact hH.bo b q 0 _ hq ho (by rw [hv, e]; rfl)
    · obtain ⟨hx', hn⟩ := killIn_own hx
      have := hH.oo l' 0 x _ g hx' ho e (by rw [hv]; rfl)
      subst this
      exact hn (by simp)
  have hlen0 : l.length ≠ 0 := by simpa using hl0
  have hw : w.drew.freeze ⟨g, 0, none⟩ l.length = { w.drew with heap := w.drew.heap.modify g fun ob => match ob with
      | .cells c elem (lo, hi) => .cells c elem (if lo == hi then (0, 0 + l.length) else (min lo 0, max hi (0 + l.length)))
      | ob => ob } := by
    unfold World.freeze
    rw [if_neg hlen0]
    rfl
  generalize hw' : w.drew.freeze ⟨g, 0, none⟩ l.length = w2 at hw
  have hs2 : w2.heap.size = w.drew.heap.size := by rw [hw]; simp
  have hb2 : ∀ k, k ≠ g → w2.heap[k]? = w.drew.heap[k]? := by
    intro k hk
    rw [hw]
    simp only [Array.getElem?_modify]
    rw [if_neg (fun e => hk e.symm)]
  have hhd : w.drew.heap[g]? = some (.cells cur 5 (0, 0)) := hh
  have hc2 : SameC w.drew w2 g := by
    intro ad had
    rw [hw]
    simp only [World.cell?, Array.getElem?_modify, had, if_true, hhd, Option.map_some]
  have h5 := hd.mark hng hs2 hc2 hb2 fun x hx e => (hH.gl x hx).1 (by rw [e]; exact hgl)
  subst hs0
  refine ⟨G, [.string ⟨l.toArray⟩], rfl, Holds.slotsTo h5 rfl rfl (.cons ?_ .nil), ⟨⟨by rw [hw]; rfl, by rw [hw]; rfl, by rw [hw]; rfl, by rw [hs2]; exact Nat.le_refl _, fun k hk1 hk2 => (hb2 k fun e => hk2 (by rw [e]; exact hgl)).trans rfl⟩, fun k hk2 => ?_, fun _ _ => ⟨rfl, rfl⟩, fun l' hl' x hx => ?_⟩⟩
  · have hsz : (⟨l.toArray⟩ : ByteArray).size ≤ maxLen := Nat.le_trans (Nat.le_of_eq (show l.toArray.size = List.length (α := Int) xs from hll.symm)) (Nat.le_trans hnc hm)
    exact (show ∃ y : ByteArray, [Value.string ⟨l.toArray⟩] = [.string y] ∧ bs y = xs ∧ y.size ≤ maxLen from ⟨_, rfl, by rw [bs_mk]; exact hlx, hsz⟩)
  · exact hk.2.fresh k hk2
  · have : l' = 0 := Nat.lt_one_iff.1 hl'
    subst this
    cases hx
end Go.Proofs.YtipcabmhdokfjaaGreatDoorV

/-! Contracts of the library's functions, by the shelf: strconv.ParseInt. -/
set_option linter.unusedVariables false
set_option linter.unusedSimpArgs false
namespace Go.Proofs.YtipcabmhdokfjaaGreatDoorV
open Go Go.RowKit
abbrev piX := List Int × Int × Int

def u8s (l : List Int) : List UInt8 := l.map fun n => UInt8.ofNat n.toNat
theorem u8s_bs (y : ByteArray) : u8s (bs y) = y.data.toList := by
  unfold u8s bs
  rw [List.map_map]
  conv => rhs; rw [← List.map_id y.data.toList]
  apply List.map_congr_left
  intro b _
  simp

def piI : Sk := ⟨[.lf (.pv .str), .lf (.pv (.int .i64)), .lf (.pv (.int .i64))], [], []⟩
def piO : Sk := ⟨[.lf (.pv (.int .i64)), .lf (.err)], [], []⟩
def parseInt (x : List Int × Int × Int) : Option (Int × Bool) :=
  if x.2.1 = 10 ∧ x.2.2 = 64 ∧ x.1.length ≤ 9223372036854775806 then
    (match Lib.parseIntB 64 (u8s x.1) with
    | .ok v => if (Lit.int .i64 v).wf then some (v, true) else none
    | _ => none)
  else none

theorem parseInt_ok : SigOK Tryz.prog 190 ⟨piI, piO, mkFun piI.tys piO.tys parseInt⟩ := by
  refine sig_data (kin := piI) (kout := piO) rfl rfl rfl rfl parseInt ⟨Tryz.f190, by kernel_rfl, by kernel_rfl, by kernel_rfl⟩ fun x y hxy F G vals w hH => ?_
  obtain ⟨a0, a1, a2⟩ := x
  have hs : All2 (HA (HR F (enc piI 0 (toPL piI.tys (a0, a1, a2))) G w)) [lf (.pv ⟨.str, a0⟩), lf (.pv ⟨.int .i64, a1⟩), lf (.pv ⟨.int .i64, a2⟩)] vals := hH.slots
  cases hs with
  | cons h0 hs => cases hs with
    | cons h1 hs => cases hs with
      | cons h2 hs =>
        cases hs
        obtain ⟨s, rfl, e0, hmax⟩ := ha_str h0
        have e1 := (ha_int h1).1
        have e2 := (ha_int h2).1
        subst e0
        subst e1
        subst e2
        unfold parseInt at hxy
        split at hxy
        · rename_i hc
          obtain ⟨c1, c2, c3⟩ := hc
          simp only at c1 c2 c3 hxy
          subst c1 c2
          split at hxy
          · rename_i v hv
            split at hxy
            case isFalse => cases hxy
            rename_i hwf
            cases hxy
            rw [u8s_bs] at hv
            have hl : s.size ≤ 9223372036854775806 := by
              have e : (bs s).length = s.size := by
                unfold bs
                rw [List.length_map]
                rfl
              rw [← e]
              exact c3
            refine (Tryz.strconv_ParseInt_10_at64_ok s hl v hv w).mono fun e w' he => ?_
            refine ⟨[.int .i64 v, .nilIface], he.1, ?_, .cons ?_ (.cons ?_ .nil)⟩
            · rcases he.2 with rfl | ⟨t, rfl⟩
              · exact Grew.refl _
              · exact grew_of_below ⟨rfl, rfl, rfl, by rw [Lib.bytesWorld_size]; omega, fun i hi => Lib.bytesWorld_at_old w _ t i (by omega)⟩
            · exact ha_int_mk hwf
            · exact ha_nil_mk
          · cases hxy
        · cases hxy
end Go.Proofs.YtipcabmhdokfjaaGreatDoorV

/-! Contracts of the library's functions, by the shelf: strings.Join. -/
set_option linter.unusedVariables false
set_option linter.unusedSimpArgs false
namespace Go.Proofs.YtipcabmhdokfjaaGreatDoorV
open Go Go.RowKit

def toBy (l : List Int) : ByteArray := ⟨(u8s l).toArray⟩
theorem toBy_bs (y : ByteArray) : toBy (bs y) = y := by
  unfold toBy
  rw [u8s_bs]
def joinB (x : List (List Int) × List Int) : List UInt8 := Lib.join ((x.1.map toBy).map (·.data.toList)) (toBy x.2).data.toList
def joI : Sk := ⟨[.lf (.pv (.slice .str)), .lf (.pv .str)], [], []⟩
def joO : Sk := ⟨[.lf (.pv .str)], [], []⟩
def joinS (x : List (List Int) × List Int) : Option (List Int) :=
  if (joinB x).length ≤ 140737488355328 ∧ x.1.length ≤ 140737488355328 ∧ (joinB x).length ≤ maxLen then some (bs ⟨(joinB x).toArray⟩) else none

theorem join_run {ok : Nat → Prop} {w : World} {s : ByteArray} {a0 : List (List Int)} {v0 : Value} (hok : ∀ b, ok b → b < w.heap.size)
    (hR : RepSl (α := List Int) w ok (fun (x : List Int) es => ∃ y : ByteArray, es = [.string y] ∧ bs y = x ∧ y.size ≤ maxLen) 1 a0 [v0])
    (c1 : (joinB (a0, bs s)).length ≤ 140737488355328) (c2 : a0.length ≤ 140737488355328) :
    Calls Tryz.prog 52 #[v0, .string s] w fun e w' => e = .returned (.string ⟨(joinB (a0, bs s)).toArray⟩) ∧ Below w.heap.size w w' := by
  obtain ⟨A, c, e1, h2, h3, h4⟩ := hR
  cases e1
  have hsep : (toBy (bs s)).data.toList = s.data.toList := by rw [toBy_bs]
  cases a0 with
  | nil =>
    refine (Tryz.strings_Join_none A c s w).mono fun e w' he => ⟨?_, he.2 ▸ Below.refl _ _⟩
    rw [he.1]
    rfl
  | cons z zs =>
    obtain ⟨ad, rfl, hsp, hokb, hel⟩ := h4 (by simp)
    obtain ⟨b, o, sp⟩ := ad
    simp only at hsp
    subst hsp
    have hlen : ((z :: zs).map toBy).length = (z :: zs).length := List.length_map _
    have hj := Tryz.strings_Join b o c ((z :: zs).map toBy) s w (fun j q hq => ?_) (hok _ hokb) (by rw [hlen]; exact c2) (by rw [hlen]; exact h2) (by rw [← hsep]; exact c1)
    · rw [hlen] at hj
      refine hj.mono fun e w' he => ⟨?_, he.2⟩
      rw [he.1, ← hsep]
      rfl
    · rw [List.getElem?_map] at hq
      obtain ⟨x, hx, rfl⟩ := Option.map_eq_some_iff.1 hq
      obtain ⟨es, ⟨y, rfl, hy, _⟩, hcl⟩ := hel j x hx
      subst hy
      rw [toBy_bs]
      have := hcl 0 (.string y) rfl
      simp [Addr.add] at this
      split at this
      · rename_i e; subst e; simpa using this
      · exact this

theorem joinS_ok : SigOK Tryz.prog 52 ⟨joI, joO, mkFun joI.tys joO.tys joinS⟩ := by
  refine sig_data (kin := joI) (kout := joO) rfl rfl rfl rfl joinS ⟨Tryz.f52, by kernel_rfl, by kernel_rfl, by kernel_rfl⟩ fun x y hxy F G vals w hH => ?_
  obtain ⟨a0, a1⟩ := x
  have hs : All2 (HA (HR F (enc joI 0 (toPL joI.tys (a0, a1))) G w)) [lf (.pv ⟨.slice .str, a0⟩), lf (.pv ⟨.str, a1⟩)] vals := hH.slots
  cases hs with
  | cons h0 hs => cases hs with
    | cons h1 hs =>
      cases hs
      obtain ⟨s, rfl, e0, hmax⟩ := ha_str h1
      subst e0
      unfold joinS at hxy
      split at hxy
      · rename_i hc
        cases hxy
        exact (join_run (ok := okS F (enc joI 0 (toPL joI.tys (a0, bs s))) G w) (fun b hb => hb.1) h0 hc.1 hc.2.1).mono fun e w' he => ⟨[_], he.1, grew_of_below he.2, .cons (ha_str_mk hc.2.2) .nil⟩
      · cases hxy
end Go.Proofs.YtipcabmhdokfjaaGreatDoorV

/-! Contracts of the library's functions, by the shelf: strconv.FormatInt, strings.Repeat. -/
set_option linter.unusedVariables false
set_option linter.unusedSimpArgs false
namespace Go.Proofs.YtipcabmhdokfjaaGreatDoorV
open Go Go.RowKit

def fiI : Sk := ⟨[.lf (.pv (.int .i64)), .lf (.pv (.int .i64))], [], []⟩
def fiO : Sk := ⟨[.lf (.pv .str)], [], []⟩
def fmtI (x : Int × Int) : Option (List Int) := if x.2 = 10 ∧ (Lib.itoa x.1).length ≤ maxLen then some (bs ⟨(Lib.itoa x.1).toArray⟩) else none
theorem fmtI_ok : SigOK Tryz.prog 54 ⟨fiI, fiO, mkFun fiI.tys fiO.tys fmtI⟩ := by
  refine sig_data (kin := fiI) (kout := fiO) rfl rfl rfl rfl fmtI ⟨Tryz.f54, by kernel_rfl, by kernel_rfl, by kernel_rfl⟩ fun x y hxy F G vals w hH => ?_
  obtain ⟨a0, a1⟩ := x
  have hs : All2 (HA (HR F (enc fiI 0 (toPL fiI.tys (a0, a1))) G w)) [lf (.pv ⟨.int .i64, a0⟩), lf (.pv ⟨.int .i64, a1⟩)] vals := hH.slots
  cases hs with
  | cons h0 hs => cases hs with
    | cons h1 hs =>
      cases hs
      obtain ⟨e0, w0⟩ := ha_int h0
      obtain ⟨e1, w1⟩ := ha_int h1
      subst e0
      subst e1
      unfold fmtI at hxy
      split at hxy
      · rename_i hc
        obtain ⟨c1, c2⟩ := hc
        simp only at c1 c2 hxy
        subst c1
        cases hxy
        obtain ⟨et, fr, hg⟩ := (hH.gl (1, (Lib.pow10Tab.map fun z => Value.int .u64 z).toArray) (by simp [gTab])).2
        have hb := wf_bounds.1 w0
        simp [IntKind.min, IntKind.max, IntKind.signed, IntKind.bits] at hb
        have htab : Lib.TabIs Tryz.prog w "internal/strconv.uint64pow10" .u64 Lib.pow10Tab := by
          unfold Lib.TabIs World.var?
          rw [show Tryz.prog.globalNamed "internal/strconv.uint64pow10" = some 1 by kernel_rfl]
          simp only [Option.bind_some, hg]
        refine (Tryz.strconv_FormatInt_10 a0 (by omega) (by omega) w htab).mono fun e w' he => ?_
        obtain ⟨rfl, k, os, rfl⟩ := he
        refine ⟨[.string ⟨(Lib.itoa a0).toArray⟩], rfl, grew_of_below (Lib.below_grow _ w (Nat.le_refl _) k os), .cons (ha_str_mk ?_) .nil⟩
        exact c2
      · cases hxy

def rpI : Sk := ⟨[.lf (.pv .str), .lf (.pv (.int .i64))], [], []⟩
def rpO : Sk := ⟨[.lf (.pv .str)], [], []⟩
def repB (x : List Int × Int) : List UInt8 := Lib.repeatL (toBy x.1).data.toList x.2.toNat
def repS (x : List Int × Int) : Option (List Int) :=
  if 0 ≤ x.2 ∧ x.2 ≤ 9223372036854775807 ∧ x.1.length * x.2.toNat ≤ 140737488355328 ∧ (repB x).length ≤ maxLen then some (bs ⟨(repB x).toArray⟩) else none
theorem repS_ok : SigOK Tryz.prog 51 ⟨rpI, rpO, mkFun rpI.tys rpO.tys repS⟩ := by
  refine sig_data (kin := rpI) (kout := rpO) rfl rfl rfl rfl repS ⟨Tryz.f51, by kernel_rfl, by kernel_rfl, by kernel_rfl⟩ fun x y hxy F G vals w hH => ?_
  obtain ⟨a0, a1⟩ := x
  have hs : All2 (HA (HR F (enc rpI 0 (toPL rpI.tys (a0, a1))) G w)) [lf (.pv ⟨.str, a0⟩), lf (.pv ⟨.int .i64, a1⟩)] vals := hH.slots
  cases hs with
  | cons h0 hs => cases hs with
    | cons h1 hs =>
      cases hs
      obtain ⟨s, rfl, e0, hmax⟩ := ha_str h0
      have e1 := (ha_int h1).1
      subst e0
      subst e1
      unfold repS at hxy
      split at hxy
      · rename_i hc
        obtain ⟨c1, c2, c3, c4⟩ := hc
        simp only at c1 c2 c3 c4 hxy
        cases hxy
        have hlen : (bs s).length = s.size := bs_len s
        have hr := Tryz.strings_Repeat s a1.toNat w (by omega) (by rw [← hlen]; exact c3)
        have ea : ((a1.toNat : Nat) : Int) = a1 := Int.toNat_of_nonneg c1
        rw [ea] at hr
        refine hr.mono fun e w' he => ?_
        obtain ⟨rfl, hb⟩ := he
        have hB : repB (bs s, a1) = Lib.repeatL s.data.toList a1.toNat := by unfold repB; rw [toBy_bs]
        have c5 : (⟨(repB (bs s, a1)).toArray⟩ : ByteArray).size ≤ maxLen := c4
        exact ⟨[.string ⟨(repB (bs s, a1)).toArray⟩], by rw [hB]; rfl, grew_of_below hb, .cons (ha_str_mk c5) .nil⟩
      · cases hxy
end Go.Proofs.YtipcabmhdokfjaaGreatDoorV

set_option linter.unusedVariables false
set_option maxHeartbeats 4000000
set_option maxRecDepth 100000
namespace Go.Proofs.YtipcabmhdokfjaaGreatDoorV
open Go Go.RowKit

abbrev yt0 : Ty := (.cons (.int .i64) (.cons (.int .i64) .nil))
abbrev YT0 : Type := (Int) × ((Int) × (Unit))
abbrev zt0 : YT0 := ((0 : Int), ((0 : Int), ()))
abbrev yt1 : Ty := (.cons .str (.cons (.int .i64) (.cons (.int .i64) (.cons yt0 (.cons (.int .i64) (.cons (.int .i64) (.cons (.int .i64) (.cons (.int .i64) (.cons (.int .i64) (.cons (.int .i64) .nil))))))))))
abbrev YT1 : Type := (List Int) × ((Int) × ((Int) × ((YT0) × ((Int) × ((Int) × ((Int) × ((Int) × ((Int) × ((Int) × (Unit))))))))))
abbrev zt1 : YT1 := ([], ((0 : Int), ((0 : Int), (zt0, ((0 : Int), ((0 : Int), ((0 : Int), ((0 : Int), ((0 : Int), ((0 : Int), ()))))))))))
abbrev yt2 : Ty := (.cons .str (.cons .str (.cons (.int .i64) (.cons (.int .i64) (.cons (.int .i64) (.cons (.int .i64) .nil))))))
abbrev YT2 : Type := (List Int) × ((List Int) × ((Int) × ((Int) × ((Int) × ((Int) × (Unit))))))
abbrev zt2 : YT2 := ([], ([], ((0 : Int), ((0 : Int), ((0 : Int), ((0 : Int), ()))))))
abbrev yt3 : Ty := (.cons .str (.cons (.slice .str) (.cons (.int .i64) .nil)))
abbrev YT3 : Type := (List Int) × ((List (List Int)) × ((Int) × (Unit)))
abbrev zt3 : YT3 := ([], ([], ((0 : Int), ())))
abbrev yt4 : Ty := (.cons .bool (.cons (.slice .str) .nil))
abbrev YT4 : Type := (Bool) × ((List (List Int)) × (Unit))
abbrev zt4 : YT4 := (false, ([], ()))
abbrev yt5 : Ty := (.cons .str (.cons .str (.cons (.int .i64) .nil)))
abbrev YT5 : Type := (List Int) × ((List Int) × ((Int) × (Unit)))
abbrev zt5 : YT5 := ([], ([], ((0 : Int), ())))
abbrev yt6 : Ty := (.cons .str (.cons (.slice yt1) (.cons (.slice yt2) (.cons (.slice yt3) (.cons (.slice (.cons (.slice yt4) .nil)) (.cons (.slice yt5) (.cons (.int .i64) .nil)))))))
abbrev YT6 : Type := (List Int) × ((List (YT1)) × ((List (YT2)) × ((List (YT3)) × ((List ((List (YT4)) × (Unit))) × ((List (YT5)) × ((Int) × (Unit)))))))
abbrev zt6 : YT6 := ([], ([], ([], ([], ([], ([], ((0 : Int), ())))))))
abbrev yt7 : Ty := (.cons .str (.cons .str (.cons .str (.cons (.int .i64) (.cons (.int .i64) (.cons (.int .i64) .nil))))))
abbrev YT7 : Type := (List Int) × ((List Int) × ((List Int) × ((Int) × ((Int) × ((Int) × (Unit))))))
abbrev zt7 : YT7 := ([], ([], ([], ((0 : Int), ((0 : Int), ((0 : Int), ()))))))
abbrev yt8 : Ty := (.cons (.int .i64) (.cons .str (.cons (.int .i64) (.cons (.int .i64) .nil))))
abbrev YT8 : Type := (Int) × ((List Int) × ((Int) × ((Int) × (Unit))))
abbrev zt8 : YT8 := ((0 : Int), ([], ((0 : Int), ((0 : Int), ()))))
/-! carrefour/carrefourlaw06.strings -/
def fw06stringsi : Sk := ⟨[.lf (.pv (.slice .str))], [], []⟩
def fw06stringso : Sk := ⟨[.lf (.pv .bool)], [], []⟩
def fw06strings_k2 : Sk := ⟨sparse 23 [(0, .lf (.pv (.slice .str))), (3, .lf (.pv (.int .i64)))], [], []⟩
abbrev fw06strings_T2 := (List (List Int)) × (Int)
def fw06strings_s2 : fw06strings_T2 → St := stOf fw06strings_k2 71
abbrev fw06stringsR := Bool
noncomputable def fw06stringsE (k : Nat) : List (Nat × List Sig) := []
noncomputable def fw06strings (k : Nat) : FnX (Bool) := mkX { P := Tryz.prog, env := lookS (fw06stringsE k), n := 71, npB := 0, npO := 0, hint := fun i => look none [(2, some fw06strings_k2)] i, pops := [], bl := [54, 56] } k Tryz.f16 fw06stringso
noncomputable def cw06strings (k : Nat) : (List (List Int)) → Option (Bool) := fnOf (fw06strings k).C k Tryz.f16 fw06stringsi fw06stringso
noncomputable def sgw06strings (k : Nat) : Sig := ⟨fw06stringsi, fw06stringso, mkFun fw06stringsi.tys fw06stringso.tys (cw06strings k)⟩
noncomputable def fw06strings_t (k : Nat) (J : JF (Bool)) (L : LF (Bool)) : List (List Int) → Option (Bool)
  | a0 => L 2 [] k (fw06strings_s2 (a0, (0 : Int)))
theorem fw06strings_e (k : Nat) (x : List (List Int)) : cw06strings k x = fw06strings_t k (fw06strings k).J (fw06strings k).L x := by
  apply cutX (fw06strings k) [] [] (st0 (fw06strings k).C Tryz.f16 fw06stringsi x) [] [(2, [], k)] (fw06strings_t k · · x) <;> intros <;> kernel_rfl
noncomputable def fw06strings_tl2 (k j2 : Nat) (J : JF (Bool)) (L : LF (Bool)) : fw06strings_T2 → Option (Bool)
  | (a0, a1) => bif (decide (a1 < ((List.length a0 : Nat) : Int))) then (bif (decide (a1 < (50 : Int))) then (idx [] a0 a1 fun o1 => bif (decide (((List.length o1 : Nat) : Int) > (100 : Int))) then (some false) else (L 2 [] j2 (fw06strings_s2 (a0, (IntKind.wrap .i64 (a1 + (1 : Int))))))) else (some (decide (((List.length a0 : Nat) : Int) ≤ (50 : Int))))) else (some (decide (((List.length a0 : Nat) : Int) ≤ (50 : Int))))
theorem fw06strings_el2 (k j2 : Nat) (x : fw06strings_T2) : (fw06strings k).L 2 [] (j2 + 1) (fw06strings_s2 x) = fw06strings_tl2 k j2 (fw06strings k).J (fw06strings k).L x := by
  apply cutX (fw06strings k) [.r, .l, .r, .b, .b] [j2] (fw06strings_s2 x) [] [(2, [], j2)] (fw06strings_tl2 k j2 · · x) <;> intros <;> kernel_rfl
theorem cw06strings_ok (k : Nat) : SigOK Tryz.prog 16 (sgw06strings k) :=
  fn_ok (C := (fw06strings k).C) (l := fw06stringsE k) rfl trivial (by kernel_rfl) k (fn := Tryz.f16) (by kernel_rfl) (by kernel_rfl) (by kernel_rfl) fw06stringsi fw06stringso rfl rfl (show 0 ≤ 48 by decide) (show 0 ≤ 48 by decide)

/-! carrefour/carrefourlaw06.node -/
def fw06nodei : Sk := ⟨[.agg [.pv .str, .pv (.slice yt1), .pv (.slice yt2), .pv (.slice yt3), .pv (.slice (.cons (.slice yt4) .nil)), .pv (.slice yt5), .pv (.int .i64)]], [], []⟩
def fw06nodeo : Sk := ⟨[.lf (.pv .bool)], [], []⟩
def fw06node_k5 : Sk := ⟨sparse 172 [(1, .lf (.ptr 0 0)), (3, .lf (.own 0)), (4, .lf (.pv (.int .i64)))], [[.pv .str, .pv (.slice yt1), .pv (.slice yt2), .pv (.slice yt3), .pv (.slice (.cons (.slice yt4) .nil)), .pv (.slice yt5), .pv (.int .i64)]], [some (9, .str)]⟩
abbrev fw06node_T5 := (Int) × (List Int) × (List (YT1)) × (List (YT2)) × (List (YT3)) × (List ((List (YT4)) × (Unit))) × (List (YT5)) × (Int) × (List (List Int))
def fw06node_s5 : fw06node_T5 → St := stOf fw06node_k5 220
def fw06node_k11 : Sk := ⟨sparse 172 [(1, .lf (.ptr 0 0)), (5, .lf (.pv (.int .i64)))], [[.pv .str, .pv (.slice yt1), .pv (.slice yt2), .pv (.slice yt3), .pv (.slice (.cons (.slice yt4) .nil)), .pv (.slice yt5), .pv (.int .i64)]], []⟩
abbrev fw06node_T11 := (Int) × (List Int) × (List (YT1)) × (List (YT2)) × (List (YT3)) × (List ((List (YT4)) × (Unit))) × (List (YT5)) × (Int)
def fw06node_s11 : fw06node_T11 → St := stOf fw06node_k11 220
def fw06node_k16 : Sk := ⟨sparse 172 [(1, .lf (.ptr 0 0)), (6, .lf (.pv (.int .i64)))], [[.pv .str, .pv (.slice yt1), .pv (.slice yt2), .pv (.slice yt3), .pv (.slice (.cons (.slice yt4) .nil)), .pv (.slice yt5), .pv (.int .i64)]], []⟩
abbrev fw06node_T16 := (Int) × (List Int) × (List (YT1)) × (List (YT2)) × (List (YT3)) × (List ((List (YT4)) × (Unit))) × (List (YT5)) × (Int)
def fw06node_s16 : fw06node_T16 → St := stOf fw06node_k16 220
def fw06node_k21 : Sk := ⟨sparse 172 [(1, .lf (.ptr 0 0)), (7, .lf (.pv (.int .i64)))], [[.pv .str, .pv (.slice yt1), .pv (.slice yt2), .pv (.slice yt3), .pv (.slice (.cons (.slice yt4) .nil)), .pv (.slice yt5), .pv (.int .i64)]], []⟩
abbrev fw06node_T21 := (Int) × (List Int) × (List (YT1)) × (List (YT2)) × (List (YT3)) × (List ((List (YT4)) × (Unit))) × (List (YT5)) × (Int)
def fw06node_s21 : fw06node_T21 → St := stOf fw06node_k21 220
def fw06node_k26 : Sk := ⟨sparse 172 [(1, .lf (.ptr 0 0)), (7, .lf (.pv (.int .i64))), (8, .lf (.pv (.int .i64)))], [[.pv .str, .pv (.slice yt1), .pv (.slice yt2), .pv (.slice yt3), .pv (.slice (.cons (.slice yt4) .nil)), .pv (.slice yt5), .pv (.int .i64)]], []⟩
abbrev fw06node_T26 := (Int) × (Int) × (List Int) × (List (YT1)) × (List (YT2)) × (List (YT3)) × (List ((List (YT4)) × (Unit))) × (List (YT5)) × (Int)
def fw06node_s26 : fw06node_T26 → St := stOf fw06node_k26 220
def fw06node_k31 : Sk := ⟨sparse 172 [(1, .lf (.ptr 0 0)), (9, .lf (.pv (.int .i64)))], [[.pv .str, .pv (.slice yt1), .pv (.slice yt2), .pv (.slice yt3), .pv (.slice (.cons (.slice yt4) .nil)), .pv (.slice yt5), .pv (.int .i64)]], []⟩
abbrev fw06node_T31 := (Int) × (List Int) × (List (YT1)) × (List (YT2)) × (List (YT3)) × (List ((List (YT4)) × (Unit))) × (List (YT5)) × (Int)
def fw06node_s31 : fw06node_T31 → St := stOf fw06node_k31 220
abbrev fw06nodeT := (List Int) × (List (YT1)) × (List (YT2)) × (List (YT3)) × (List ((List (YT4)) × (Unit))) × (List (YT5)) × (Int)
abbrev fw06nodeR := Bool
noncomputable def fw06nodeE (k : Nat) : List (Nat × List Sig) := [(16, [sgw06strings k])]
noncomputable def fw06node (k : Nat) : FnX (Bool) := mkX { P := Tryz.prog, env := lookS (fw06nodeE k), n := 220, npB := 0, npO := 0, hint := fun i => look none [(5, some fw06node_k5), (11, some fw06node_k11), (16, some fw06node_k16), (21, some fw06node_k21), (26, some fw06node_k26), (31, some fw06node_k31)] i, pops := [], bl := [54, 56], ld := [(71, 9999), (72, 0), (75, 9999), (76, 9999), (77, 9999), (78, 0), (81, 9999), (82, 9999), (157, 9999), (158, 0), (161, 9999), (162, 9999), (163, 9999), (164, 0), (167, 9999), (168, 9999)] } k Tryz.f15 fw06nodeo
noncomputable def cw06node (k : Nat) : fw06nodeT → Option (Bool) := fnOf (fw06node k).C k Tryz.f15 fw06nodei fw06nodeo
noncomputable def sgw06node (k : Nat) : Sig := ⟨fw06nodei, fw06nodeo, mkFun fw06nodei.tys fw06nodeo.tys (cw06node k)⟩
noncomputable def fw06node_t (k : Nat) (J : JF (Bool)) (L : LF (Bool)) : fw06nodeT → Option (Bool)
  | (a0, a1, a2, a3, a4, a5, a6) => bif (decide (((List.length a1 : Nat) : Int) > (50 : Int))) then (some false) else (bif (decide (((List.length a2 : Nat) : Int) > (50 : Int))) then (some false) else (bif (decide (((List.length a3 : Nat) : Int) > (50 : Int))) then (some false) else (bif (decide (((List.length a4 : Nat) : Int) > (50 : Int))) then (some false) else (bif (decide (((List.length a5 : Nat) : Int) > (80 : Int))) then (some false) else (L 5 [] k (fw06node_s5 ((0 : Int), a0, a1, a2, a3, a4, a5, a6, ([a0] : List (List Int)))))))))
theorem fw06node_e (k : Nat) (x : fw06nodeT) : cw06node k x = fw06node_t k (fw06node k).J (fw06node k).L x := by
  apply cutX (fw06node k) [] [] (st0 (fw06node k).C Tryz.f15 fw06nodei x) [] [(5, [], k), (11, [], k), (16, [], k), (21, [], k), (31, [], k)] (fw06node_t k · · x) <;> intros <;> kernel_rfl
noncomputable def fw06node_tl5 (k j5 : Nat) (J : JF (Bool)) (L : LF (Bool)) : fw06node_T5 → Option (Bool)
  | (a0, a1, a2, a3, a4, a5, a6, a7, a8) => bif (decide (a0 < ((List.length a2 : Nat) : Int))) then (idx zt1 a2 a0 fun o1 => app 16 a8 ([o1.1] : List (List Int)) fun o2 => L 5 [] j5 (fw06node_s5 ((IntKind.wrap .i64 (a0 + (1 : Int))), a1, a2, a3, a4, a5, a6, a7, o2))) else (bif (cutB (0 : Int) (minI ((List.length a8 : Nat) : Int) (50 : Int)) (List.length a8)) then ((cw06strings k) ((cutL a8 (0 : Int) (minI ((List.length a8 : Nat) : Int) (50 : Int))))).bind fun o3 => bif (!o3) then (some false) else (L 11 [] k (fw06node_s11 ((0 : Int), a1, a2, a3, a4, a5, a6, a7))) else none)
theorem fw06node_el5 (k j5 : Nat) (x : fw06node_T5) : (fw06node k).L 5 [] (j5 + 1) (fw06node_s5 x) = fw06node_tl5 k j5 (fw06node k).J (fw06node k).L x := by
  apply cutX (fw06node k) [.r, .r, .r, .l, .r, .b, .b] [j5] (fw06node_s5 x) [] [(5, [], j5), (11, [], k), (16, [], k), (21, [], k), (31, [], k)] (fw06node_tl5 k j5 · · x) <;> intros <;> kernel_rfl
noncomputable def fw06node_tl11 (k j11 : Nat) (J : JF (Bool)) (L : LF (Bool)) : fw06node_T11 → Option (Bool)
  | (a0, a1, a2, a3, a4, a5, a6, a7) => bif (decide (a0 < ((List.length a3 : Nat) : Int))) then (idx zt2 a3 a0 fun o1 => idx zt2 a3 a0 fun o2 => ((cw06strings k) (([o1.1, o2.2.1] : List (List Int)))).bind fun o3 => bif (!o3) then (some false) else (L 11 [] j11 (fw06node_s11 ((IntKind.wrap .i64 (a0 + (1 : Int))), a1, a2, a3, a4, a5, a6, a7)))) else (L 16 [] k (fw06node_s16 ((0 : Int), a1, a2, a3, a4, a5, a6, a7)))
theorem fw06node_el11 (k j11 : Nat) (x : fw06node_T11) : (fw06node k).L 11 [] (j11 + 1) (fw06node_s11 x) = fw06node_tl11 k j11 (fw06node k).J (fw06node k).L x := by
  apply cutX (fw06node k) [.r, .r, .r, .r, .r, .l, .r, .b, .b] [j11] (fw06node_s11 x) [] [(5, [], k), (11, [], j11), (16, [], k), (21, [], k), (31, [], k)] (fw06node_tl11 k j11 · · x) <;> intros <;> kernel_rfl
noncomputable def fw06node_tl16 (k j16 : Nat) (J : JF (Bool)) (L : LF (Bool)) : fw06node_T16 → Option (Bool)
  | (a0, a1, a2, a3, a4, a5, a6, a7) => bif (decide (a0 < ((List.length a4 : Nat) : Int))) then (idx zt3 a4 a0 fun o1 => ((cw06strings k) (([o1.1] : List (List Int)))).bind fun o2 => bif (!o2) then (some false) else (idx zt3 a4 a0 fun o3 => ((cw06strings k) (o3.2.1)).bind fun o4 => bif (!o4) then (some false) else (L 16 [] j16 (fw06node_s16 ((IntKind.wrap .i64 (a0 + (1 : Int))), a1, a2, a3, a4, a5, a6, a7))))) else (L 21 [] k (fw06node_s21 ((0 : Int), a1, a2, a3, a4, a5, a6, a7)))
theorem fw06node_el16 (k j16 : Nat) (x : fw06node_T16) : (fw06node k).L 16 [] (j16 + 1) (fw06node_s16 x) = fw06node_tl16 k j16 (fw06node k).J (fw06node k).L x := by
  apply cutX (fw06node k) [.r, .r, .r, .r, .r, .r, .l, .r, .b, .b] [j16] (fw06node_s16 x) [] [(5, [], k), (11, [], k), (16, [], j16), (21, [], k), (31, [], k)] (fw06node_tl16 k j16 · · x) <;> intros <;> kernel_rfl
noncomputable def fw06node_tl21 (k j21 : Nat) (J : JF (Bool)) (L : LF (Bool)) : fw06node_T21 → Option (Bool)
  | (a0, a1, a2, a3, a4, a5, a6, a7) => bif (decide (a0 < ((List.length a5 : Nat) : Int))) then (idx ([], ()) a5 a0 fun o1 => bif (decide (((List.length o1.1 : Nat) : Int) > (5 : Int))) then (some false) else (L 26 [j21] k (fw06node_s26 (a0, (0 : Int), a1, a2, a3, a4, a5, a6, a7)))) else (L 31 [] k (fw06node_s31 ((0 : Int), a1, a2, a3, a4, a5, a6, a7)))
theorem fw06node_el21 (k j21 : Nat) (x : fw06node_T21) : (fw06node k).L 21 [] (j21 + 1) (fw06node_s21 x) = fw06node_tl21 k j21 (fw06node k).J (fw06node k).L x := by
  apply cutX (fw06node k) [.r, .r, .r, .r, .r, .r, .r, .l, .r, .b, .b] [j21] (fw06node_s21 x) [] [(5, [], k), (11, [], k), (16, [], k), (21, [], j21), (26, [j21], k), (31, [], k)] (fw06node_tl21 k j21 · · x) <;> intros <;> kernel_rfl
noncomputable def fw06node_tl26 (k j21 j26 : Nat) (J : JF (Bool)) (L : LF (Bool)) : fw06node_T26 → Option (Bool)
  | (a0, a1, a2, a3, a4, a5, a6, a7, a8) => idx ([], ()) a6 a0 fun o1 => bif (decide (a1 < ((List.length o1.1 : Nat) : Int))) then (idx ([], ()) a6 a0 fun o2 => idx zt4 o2.1 a1 fun o3 => ((cw06strings k) (o3.2.1)).bind fun o4 => bif (!o4) then (some false) else (L 26 [j21] j26 (fw06node_s26 (a0, (IntKind.wrap .i64 (a1 + (1 : Int))), a2, a3, a4, a5, a6, a7, a8)))) else (L 21 [] j21 (fw06node_s21 ((IntKind.wrap .i64 (a0 + (1 : Int))), a2, a3, a4, a5, a6, a7, a8)))
theorem fw06node_el26 (k j21 j26 : Nat) (x : fw06node_T26) : (fw06node k).L 26 [j21] (j26 + 1) (fw06node_s26 x) = fw06node_tl26 k j21 j26 (fw06node k).J (fw06node k).L x := by
  apply cutX (fw06node k) [.r, .r, .r, .r, .r, .r, .r, .l, .r, .b, .b, .r, .l, .b, .r, .r, .b, .b] [j21, j26] (fw06node_s26 x) [] [(5, [], k), (11, [], k), (16, [], k), (21, [], j21), (26, [j21], j26), (31, [], k)] (fw06node_tl26 k j21 j26 · · x) <;> intros <;> kernel_rfl
noncomputable def fw06node_tl31 (k j31 : Nat) (J : JF (Bool)) (L : LF (Bool)) : fw06node_T31 → Option (Bool)
  | (a0, a1, a2, a3, a4, a5, a6, a7) => bif (decide (a0 < ((List.length a6 : Nat) : Int))) then (idx zt5 a6 a0 fun o1 => idx zt5 a6 a0 fun o2 => ((cw06strings k) (([o1.1, o2.2.1] : List (List Int)))).bind fun o3 => bif (!o3) then (some false) else (L 31 [] j31 (fw06node_s31 ((IntKind.wrap .i64 (a0 + (1 : Int))), a1, a2, a3, a4, a5, a6, a7)))) else (some true)
theorem fw06node_el31 (k j31 : Nat) (x : fw06node_T31) : (fw06node k).L 31 [] (j31 + 1) (fw06node_s31 x) = fw06node_tl31 k j31 (fw06node k).J (fw06node k).L x := by
  apply cutX (fw06node k) [.r, .r, .r, .r, .r, .r, .r, .r, .l, .r, .b, .b] [j31] (fw06node_s31 x) [] [(5, [], k), (11, [], k), (16, [], k), (21, [], k), (31, [], j31)] (fw06node_tl31 k j31 · · x) <;> intros <;> kernel_rfl
theorem cw06node_ok (k : Nat) : SigOK Tryz.prog 15 (sgw06node k) :=
  fn_ok (C := (fw06node k).C) (l := fw06nodeE k) rfl ⟨⟨cw06strings_ok k, trivial⟩, trivial⟩ (by kernel_rfl) k (fn := Tryz.f15) (by kernel_rfl) (by kernel_rfl) (by kernel_rfl) fw06nodei fw06nodeo rfl rfl (show 0 ≤ 48 by decide) (show 0 ≤ 48 by decide)

/-! carrefour/carrefourlaw06.Few -/
def fw06Fewi : Sk := ⟨[.agg [.pv (.int .i64), .pv (.int .i64), .pv (.int .i64), .pv (.int .i64), .pv (.int .i64), .pv (.slice yt6), .pv (.slice yt7), .pv (.int .i64), .pv (.int .i64)]], [], []⟩
def fw06Fewo : Sk := ⟨[.lf (.pv .bool)], [], []⟩
def fw06Few_k4 : Sk := ⟨sparse 57 [(1, .lf (.ptr 0 0)), (3, .lf (.pv (.int .i64)))], [[.pv (.int .i64), .pv (.int .i64), .pv (.int .i64), .pv (.int .i64), .pv (.int .i64), .pv (.slice yt6), .pv (.slice yt7), .pv (.int .i64), .pv (.int .i64)]], []⟩
abbrev fw06Few_T4 := (Int) × (Int) × (Int) × (Int) × (Int) × (Int) × (List (YT6)) × (List (YT7)) × (Int) × (Int)
def fw06Few_s4 : fw06Few_T4 → St := stOf fw06Few_k4 105
def fw06Few_k9 : Sk := ⟨sparse 57 [(1, .lf (.ptr 0 0)), (4, .lf (.pv (.int .i64)))], [[.pv (.int .i64), .pv (.int .i64), .pv (.int .i64), .pv (.int .i64), .pv (.int .i64), .pv (.slice yt6), .pv (.slice yt7), .pv (.int .i64), .pv (.int .i64)]], []⟩
abbrev fw06Few_T9 := (Int) × (Int) × (Int) × (Int) × (Int) × (Int) × (List (YT6)) × (List (YT7)) × (Int) × (Int)
def fw06Few_s9 : fw06Few_T9 → St := stOf fw06Few_k9 105
abbrev fw06FewT := (Int) × (Int) × (Int) × (Int) × (Int) × (List (YT6)) × (List (YT7)) × (Int) × (Int)
abbrev fw06FewR := Bool
noncomputable def fw06FewE (k : Nat) : List (Nat × List Sig) := [(15, [sgw06node k]), (16, [sgw06strings k])]
noncomputable def fw06Few (k : Nat) : FnX (Bool) := mkX { P := Tryz.prog, env := lookS (fw06FewE k), n := 105, npB := 0, npO := 0, hint := fun i => look none [(4, some fw06Few_k4), (9, some fw06Few_k9)] i, pops := [], bl := [54, 56], ld := [(36, 9999), (37, 0), (40, 9999), (41, 9999), (42, 9999), (43, 0), (46, 9999), (47, 9999), (48, 9999), (49, 0), (52, 9999), (53, 9999)] } k Tryz.f7 fw06Fewo
noncomputable def cw06Few (k : Nat) : fw06FewT → Option (Bool) := fnOf (fw06Few k).C k Tryz.f7 fw06Fewi fw06Fewo
noncomputable def sgw06Few (k : Nat) : Sig := ⟨fw06Fewi, fw06Fewo, mkFun fw06Fewi.tys fw06Fewo.tys (cw06Few k)⟩
noncomputable def fw06Few_t (k : Nat) (J : JF (Bool)) (L : LF (Bool)) : fw06FewT → Option (Bool)
  | (a0, a1, a2, a3, a4, a5, a6, a7, a8) => bif (decide (((List.length a5 : Nat) : Int) > (15 : Int))) then (some false) else (bif (decide (((List.length a6 : Nat) : Int) > (15 : Int))) then (some false) else (L 4 [] k (fw06Few_s4 ((0 : Int), a0, a1, a2, a3, a4, a5, a6, a7, a8))))
theorem fw06Few_e (k : Nat) (x : fw06FewT) : cw06Few k x = fw06Few_t k (fw06Few k).J (fw06Few k).L x := by
  apply cutX (fw06Few k) [] [] (st0 (fw06Few k).C Tryz.f7 fw06Fewi x) [] [(4, [], k), (9, [], k)] (fw06Few_t k · · x) <;> intros <;> kernel_rfl
noncomputable def fw06Few_tl4 (k j4 : Nat) (J : JF (Bool)) (L : LF (Bool)) : fw06Few_T4 → Option (Bool)
  | (a0, a1, a2, a3, a4, a5, a6, a7, a8, a9) => bif (decide (a0 < ((List.length a6 : Nat) : Int))) then (idx zt6 a6 a0 fun o1 => ((cw06node k) (o1.1, o1.2.1, o1.2.2.1, o1.2.2.2.1, o1.2.2.2.2.1, o1.2.2.2.2.2.1, o1.2.2.2.2.2.2.1)).bind fun o2 => bif (!o2) then (some false) else (L 4 [] j4 (fw06Few_s4 ((IntKind.wrap .i64 (a0 + (1 : Int))), a1, a2, a3, a4, a5, a6, a7, a8, a9)))) else (L 9 [] k (fw06Few_s9 ((0 : Int), a1, a2, a3, a4, a5, a6, a7, a8, a9)))
theorem fw06Few_el4 (k j4 : Nat) (x : fw06Few_T4) : (fw06Few k).L 4 [] (j4 + 1) (fw06Few_s4 x) = fw06Few_tl4 k j4 (fw06Few k).J (fw06Few k).L x := by
  apply cutX (fw06Few k) [.r, .r, .l, .r, .b, .b] [j4] (fw06Few_s4 x) [] [(4, [], j4), (9, [], k)] (fw06Few_tl4 k j4 · · x) <;> intros <;> kernel_rfl
noncomputable def fw06Few_tl9 (k j9 : Nat) (J : JF (Bool)) (L : LF (Bool)) : fw06Few_T9 → Option (Bool)
  | (a0, a1, a2, a3, a4, a5, a6, a7, a8, a9) => bif (decide (a0 < ((List.length a7 : Nat) : Int))) then (idx zt7 a7 a0 fun o1 => idx zt7 a7 a0 fun o2 => idx zt7 a7 a0 fun o3 => ((cw06strings k) (([o1.1, o2.2.1, o3.2.2.1] : List (List Int)))).bind fun o4 => bif (!o4) then (some false) else (L 9 [] j9 (fw06Few_s9 ((IntKind.wrap .i64 (a0 + (1 : Int))), a1, a2, a3, a4, a5, a6, a7, a8, a9)))) else (some true)
theorem fw06Few_el9 (k j9 : Nat) (x : fw06Few_T9) : (fw06Few k).L 9 [] (j9 + 1) (fw06Few_s9 x) = fw06Few_tl9 k j9 (fw06Few k).J (fw06Few k).L x := by
  apply cutX (fw06Few k) [.r, .r, .r, .l, .r, .b, .b] [j9] (fw06Few_s9 x) [] [(4, [], k), (9, [], j9)] (fw06Few_tl9 k j9 · · x) <;> intros <;> kernel_rfl
theorem cw06Few_ok (k : Nat) : SigOK Tryz.prog 7 (sgw06Few k) :=
  fn_ok (C := (fw06Few k).C) (l := fw06FewE k) rfl ⟨⟨cw06node_ok k, trivial⟩, ⟨cw06strings_ok k, trivial⟩, trivial⟩ (by kernel_rfl) k (fn := Tryz.f7) (by kernel_rfl) (by kernel_rfl) (by kernel_rfl) fw06Fewi fw06Fewo rfl rfl (show 0 ≤ 48 by decide) (show 0 ≤ 48 by decide)

/-! carrefour/show.nums$1 -/
def fshownums_1i : Sk := ⟨[.lf (.pv (.int .i64))], [], []⟩
def fshownums_1o : Sk := ⟨[.lf (.pv .bool)], [], []⟩
abbrev fshownums_1R := Bool
noncomputable def fshownums_1E (k : Nat) : List (Nat × List Sig) := []
noncomputable def fshownums_1 (k : Nat) : FnX (Bool) := mkX { P := Tryz.prog, env := lookS (fshownums_1E k), n := 57, npB := 0, npO := 0, hint := fun i => look none [] i, pops := [], bl := [54, 56] } k Tryz.f62 fshownums_1o
noncomputable def cshownums_1 (k : Nat) : (Int) → Option (Bool) := fnOf (fshownums_1 k).C k Tryz.f62 fshownums_1i fshownums_1o
noncomputable def sgshownums_1 (k : Nat) : Sig := ⟨fshownums_1i, fshownums_1o, mkFun fshownums_1i.tys fshownums_1o.tys (cshownums_1 k)⟩
noncomputable def fshownums_1_t (k : Nat) (J : JF (Bool)) (L : LF (Bool)) : Int → Option (Bool)
  | a0 => bif (decide (a0 < (0 : Int))) then (some true) else (some (decide (a0 > (999999999999999999 : Int))))
theorem fshownums_1_e (k : Nat) (x : Int) : cshownums_1 k x = fshownums_1_t k (fshownums_1 k).J (fshownums_1 k).L x := by
  apply cutX (fshownums_1 k) [] [] (st0 (fshownums_1 k).C Tryz.f62 fshownums_1i x) [] [] (fshownums_1_t k · · x) <;> intros <;> kernel_rfl
theorem cshownums_1_ok (k : Nat) : SigOK Tryz.prog 62 (sgshownums_1 k) :=
  fn_ok (C := (fshownums_1 k).C) (l := fshownums_1E k) rfl trivial (by kernel_rfl) k (fn := Tryz.f62) (by kernel_rfl) (by kernel_rfl) (by kernel_rfl) fshownums_1i fshownums_1o rfl rfl (show 0 ≤ 48 by decide) (show 0 ≤ 48 by decide)

/-! slices.IndexFunc[[]int64,int64] -/
def fixf_int64i : Sk := ⟨[.lf (.pv (.slice (.int .i64))), .lf (.fn 62 [] [])], [], []⟩
def fixf_int64o : Sk := ⟨[.lf (.pv (.int .i64))], [], []⟩
def fixf_int64_k2 : Sk := ⟨sparse 19 [(0, .lf (.pv (.slice (.int .i64)))), (1, .lf (.fn 62 [] [])), (7, .lf (.pv (.int .i64))), (8, .lf (.pv (.int .i64)))], [], []⟩
abbrev fixf_int64_T2 := (List (Int)) × (Int) × (Int)
def fixf_int64_s2 : fixf_int64_T2 → St := stOf fixf_int64_k2 67
abbrev fixf_int64R := Int
noncomputable def fixf_int64E (k : Nat) : List (Nat × List Sig) := [(62, [sgshownums_1 k])]
noncomputable def fixf_int64 (k : Nat) : FnX (Int) := mkX { P := Tryz.prog, env := lookS (fixf_int64E k), n := 67, npB := 0, npO := 0, hint := fun i => look none [(2, some fixf_int64_k2)] i, pops := [], bl := [54, 56] } k Tryz.f114 fixf_int64o
noncomputable def cixf_int64 (k : Nat) : (List (Int)) → Option (Int) := fnOf (fixf_int64 k).C k Tryz.f114 fixf_int64i fixf_int64o
noncomputable def sgixf_int64 (k : Nat) : Sig := ⟨fixf_int64i, fixf_int64o, mkFun fixf_int64i.tys fixf_int64o.tys (cixf_int64 k)⟩
noncomputable def fixf_int64_t (k : Nat) (J : JF (Int)) (L : LF (Int)) : List (Int) → Option (Int)
  | a0 => L 2 [] k (fixf_int64_s2 (a0, ((List.length a0 : Nat) : Int), (0 : Int)))
theorem fixf_int64_e (k : Nat) (x : List (Int)) : cixf_int64 k x = fixf_int64_t k (fixf_int64 k).J (fixf_int64 k).L x := by
  apply cutX (fixf_int64 k) [] [] (st0 (fixf_int64 k).C Tryz.f114 fixf_int64i x) [] [(2, [], k)] (fixf_int64_t k · · x) <;> intros <;> kernel_rfl
noncomputable def fixf_int64_tl2 (k j2 : Nat) (J : JF (Int)) (L : LF (Int)) : fixf_int64_T2 → Option (Int)
  | (a0, a1, a2) => bif (decide (a2 < a1)) then (idxI a0 a2 fun o1 => ((cshownums_1 k) (o1)).bind fun o2 => bif o2 then (some a2) else (L 2 [] j2 (fixf_int64_s2 (a0, a1, (IntKind.wrap .i64 (a2 + (1 : Int))))))) else (some (-1 : Int))
theorem fixf_int64_el2 (k j2 : Nat) (x : fixf_int64_T2) : (fixf_int64 k).L 2 [] (j2 + 1) (fixf_int64_s2 x) = fixf_int64_tl2 k j2 (fixf_int64 k).J (fixf_int64 k).L x := by
  apply cutX (fixf_int64 k) [.r, .l, .r, .b, .b] [j2] (fixf_int64_s2 x) [] [(2, [], j2)] (fixf_int64_tl2 k j2 · · x) <;> intros <;> kernel_rfl
theorem cixf_int64_ok (k : Nat) : SigOK Tryz.prog 114 (sgixf_int64 k) :=
  fn_ok (C := (fixf_int64 k).C) (l := fixf_int64E k) rfl ⟨⟨cshownums_1_ok k, trivial⟩, trivial⟩ (by kernel_rfl) k (fn := Tryz.f114) (by kernel_rfl) (by kernel_rfl) (by kernel_rfl) fixf_int64i fixf_int64o rfl rfl (show 0 ≤ 48 by decide) (show 0 ≤ 48 by decide)

/-! slices.ContainsFunc[[]int64,int64] -/
def fctf_int64i : Sk := ⟨[.lf (.pv (.slice (.int .i64))), .lf (.fn 62 [] [])], [], []⟩
def fctf_int64o : Sk := ⟨[.lf (.pv .bool)], [], []⟩
abbrev fctf_int64R := Bool
noncomputable def fctf_int64E (k : Nat) : List (Nat × List Sig) := [(114, [sgixf_int64 k])]
noncomputable def fctf_int64 (k : Nat) : FnX (Bool) := mkX { P := Tryz.prog, env := lookS (fctf_int64E k), n := 57, npB := 0, npO := 0, hint := fun i => look none [] i, pops := [], bl := [54, 56] } k Tryz.f61 fctf_int64o
noncomputable def cctf_int64 (k : Nat) : (List (Int)) → Option (Bool) := fnOf (fctf_int64 k).C k Tryz.f61 fctf_int64i fctf_int64o
noncomputable def sgctf_int64 (k : Nat) : Sig := ⟨fctf_int64i, fctf_int64o, mkFun fctf_int64i.tys fctf_int64o.tys (cctf_int64 k)⟩
noncomputable def fctf_int64_t (k : Nat) (J : JF (Bool)) (L : LF (Bool)) : List (Int) → Option (Bool)
  | a0 => ((cixf_int64 k) (a0)).bind fun o1 => some (decide (o1 ≥ (0 : Int)))
theorem fctf_int64_e (k : Nat) (x : List (Int)) : cctf_int64 k x = fctf_int64_t k (fctf_int64 k).J (fctf_int64 k).L x := by
  apply cutX (fctf_int64 k) [] [] (st0 (fctf_int64 k).C Tryz.f61 fctf_int64i x) [] [] (fctf_int64_t k · · x) <;> intros <;> kernel_rfl
theorem cctf_int64_ok (k : Nat) : SigOK Tryz.prog 61 (sgctf_int64 k) :=
  fn_ok (C := (fctf_int64 k).C) (l := fctf_int64E k) rfl ⟨⟨cixf_int64_ok k, trivial⟩, trivial⟩ (by kernel_rfl) k (fn := Tryz.f61) (by kernel_rfl) (by kernel_rfl) (by kernel_rfl) fctf_int64i fctf_int64o rfl rfl (show 0 ≤ 48 by decide) (show 0 ≤ 48 by decide)

/-! carrefour/show.nums -/
def fshownumsi : Sk := ⟨[.lf (.pv (.slice (.int .i64)))], [], []⟩
def fshownumso : Sk := ⟨[.lf (.pv .bool)], [], []⟩
abbrev fshownumsR := Bool
noncomputable def fshownumsE (k : Nat) : List (Nat × List Sig) := [(61, [sgctf_int64 k])]
noncomputable def fshownums (k : Nat) : FnX (Bool) := mkX { P := Tryz.prog, env := lookS (fshownumsE k), n := 54, npB := 0, npO := 0, hint := fun i => look none [] i, pops := [], bl := [54, 56] } k Tryz.f29 fshownumso
noncomputable def cshownums (k : Nat) : (List (Int)) → Option (Bool) := fnOf (fshownums k).C k Tryz.f29 fshownumsi fshownumso
noncomputable def sgshownums (k : Nat) : Sig := ⟨fshownumsi, fshownumso, mkFun fshownumsi.tys fshownumso.tys (cshownums k)⟩
noncomputable def fshownums_t (k : Nat) (J : JF (Bool)) (L : LF (Bool)) : List (Int) → Option (Bool)
  | a0 => ((cctf_int64 k) (a0)).bind fun o1 => some (!o1)
theorem fshownums_e (k : Nat) (x : List (Int)) : cshownums k x = fshownums_t k (fshownums k).J (fshownums k).L x := by
  apply cutX (fshownums k) [] [] (st0 (fshownums k).C Tryz.f29 fshownumsi x) [] [] (fshownums_t k · · x) <;> intros <;> kernel_rfl
theorem cshownums_ok (k : Nat) : SigOK Tryz.prog 29 (sgshownums k) :=
  fn_ok (C := (fshownums k).C) (l := fshownumsE k) rfl ⟨⟨cctf_int64_ok k, trivial⟩, trivial⟩ (by kernel_rfl) k (fn := Tryz.f29) (by kernel_rfl) (by kernel_rfl) (by kernel_rfl) fshownumsi fshownumso rfl rfl (show 0 ≤ 48 by decide) (show 0 ≤ 48 by decide)

/-! carrefour/lex.kind -/
def flexkindi : Sk := ⟨[.lf (.pv (.int .u8))], [], []⟩
def flexkindo : Sk := ⟨[.lf (.pv (.int .i64))], [], []⟩
def flexkind_k10 : Sk := ⟨sparse 36 [(17, .lf (.pv (.int .u8)))], [], []⟩
abbrev flexkind_T10 := Int
def flexkind_s10 : flexkind_T10 → St := stOf flexkind_k10 84
def flexkind_k14 : Sk := ⟨sparse 36 [(17, .lf (.pv (.int .u8)))], [], []⟩
abbrev flexkind_T14 := Int
def flexkind_s14 : flexkind_T14 → St := stOf flexkind_k14 84
abbrev flexkindR := Int
noncomputable def flexkindE (k : Nat) : List (Nat × List Sig) := []
noncomputable def flexkind (k : Nat) : FnX (Int) := mkX { P := Tryz.prog, env := lookS (flexkindE k), n := 84, npB := 0, npO := 0, hint := fun i => look none [(10, some flexkind_k10), (14, some flexkind_k14)] i, pops := [], bl := [54, 56] } k Tryz.f186 flexkindo
noncomputable def clexkind (k : Nat) : (Int) → Option (Int) := fnOf (flexkind k).C k Tryz.f186 flexkindi flexkindo
noncomputable def sglexkind (k : Nat) : Sig := ⟨flexkindi, flexkindo, mkFun flexkindi.tys flexkindo.tys (clexkind k)⟩
noncomputable def flexkind_t (k : Nat) (J : JF (Int)) (L : LF (Int)) : Int → Option (Int)
  | a0 => bif (decide ((97 : Int) ≤ a0)) then (bif (decide (a0 ≤ (122 : Int))) then (some (3 : Int)) else (bif (decide ((48 : Int) ≤ a0)) then (bif (decide (a0 ≤ (57 : Int))) then (some (4 : Int)) else (bif (a0 == (32 : Int)) then (some (1 : Int)) else (bif (a0 == (9 : Int)) then (some (1 : Int)) else (bif (a0 == (10 : Int)) then (some (1 : Int)) else (bif (a0 == (13 : Int)) then (some (1 : Int)) else (J 10 [] (flexkind_s10 (a0)))))))) else (bif (a0 == (32 : Int)) then (some (1 : Int)) else (bif (a0 == (9 : Int)) then (some (1 : Int)) else (bif (a0 == (10 : Int)) then (some (1 : Int)) else (bif (a0 == (13 : Int)) then (some (1 : Int)) else (J 10 [] (flexkind_s10 (a0))))))))) else (bif (decide ((48 : Int) ≤ a0)) then (bif (decide (a0 ≤ (57 : Int))) then (some (4 : Int)) else (bif (a0 == (32 : Int)) then (some (1 : Int)) else (bif (a0 == (9 : Int)) then (some (1 : Int)) else (bif (a0 == (10 : Int)) then (some (1 : Int)) else (bif (a0 == (13 : Int)) then (some (1 : Int)) else (J 10 [] (flexkind_s10 (a0)))))))) else (bif (a0 == (32 : Int)) then (some (1 : Int)) else (bif (a0 == (9 : Int)) then (some (1 : Int)) else (bif (a0 == (10 : Int)) then (some (1 : Int)) else (bif (a0 == (13 : Int)) then (some (1 : Int)) else (J 10 [] (flexkind_s10 (a0))))))))
theorem flexkind_e (k : Nat) (x : Int) : clexkind k x = flexkind_t k (flexkind k).J (flexkind k).L x := by
  apply cutX (flexkind k) [] [] (st0 (flexkind k).C Tryz.f186 flexkindi x) [(10, []), (14, [])] [] (flexkind_t k · · x) <;> intros <;> kernel_rfl
noncomputable def flexkind_tj10 (k : Nat) (J : JF (Int)) (L : LF (Int)) : Int → Option (Int)
  | a0 => bif (a0 == (35 : Int)) then (some (2 : Int)) else (bif (a0 == (95 : Int)) then (some (6 : Int)) else (bif (a0 == (123 : Int)) then (some (5 : Int)) else (bif (a0 == (125 : Int)) then (some (5 : Int)) else (J 14 [] (flexkind_s14 (a0))))))
theorem flexkind_ej10 (k : Nat) (x : Int) : (flexkind k).J 10 [] (flexkind_s10 x) = flexkind_tj10 k (flexkind k).J (flexkind k).L x := by
  apply cutX (flexkind k) [.r, .r, .l, .r, .b, .l, .b, .b, .l, .b, .l, .b, .l, .b, .l, .r] [] (flexkind_s10 x) [(10, []), (14, [])] [] (flexkind_tj10 k · · x) <;> intros <;> kernel_rfl
noncomputable def flexkind_tj14 (k : Nat) (J : JF (Int)) (L : LF (Int)) : Int → Option (Int)
  | a0 => bif (a0 == (44 : Int)) then (some (5 : Int)) else (bif (a0 == (59 : Int)) then (some (5 : Int)) else (bif (a0 == (58 : Int)) then (some (5 : Int)) else (bif (a0 == (47 : Int)) then (some (5 : Int)) else (bif (a0 == (45 : Int)) then (some (5 : Int)) else (some (0 : Int))))))
theorem flexkind_ej14 (k : Nat) (x : Int) : (flexkind k).J 14 [] (flexkind_s14 x) = flexkind_tj14 k (flexkind k).J (flexkind k).L x := by
  apply cutX (flexkind k) [.r, .r, .l, .r, .b, .l, .b, .b, .l, .b, .l, .b, .l, .b, .l, .r, .r, .r, .r] [] (flexkind_s14 x) [(10, []), (14, [])] [] (flexkind_tj14 k · · x) <;> intros <;> kernel_rfl
theorem clexkind_ok (k : Nat) : SigOK Tryz.prog 186 (sglexkind k) :=
  fn_ok (C := (flexkind k).C) (l := flexkindE k) rfl trivial (by kernel_rfl) k (fn := Tryz.f186) (by kernel_rfl) (by kernel_rfl) (by kernel_rfl) flexkindi flexkindo rfl rfl (show 0 ≤ 48 by decide) (show 0 ≤ 48 by decide)

/-! (*carrefour/lex.scanner).kind -/
def flexs_kindi : Sk := ⟨[.lf (.ptr 0 0)], [[.pv (.slice (.int .u8)), .pv (.int .i64)]], []⟩
def flexs_kindo : Sk := ⟨[.lf (.pv (.int .i64))], [[.pv (.slice (.int .u8)), .pv (.int .i64)]], []⟩
abbrev flexs_kindT := (List (Int)) × (Int)
abbrev flexs_kindR := (Int) × (List (Int)) × (Int)
noncomputable def flexs_kindE (k : Nat) : List (Nat × List Sig) := [(186, [sglexkind k])]
noncomputable def flexs_kind (k : Nat) : FnX flexs_kindR := mkX { P := Tryz.prog, env := lookS (flexs_kindE k), n := 62, npB := 1, npO := 0, hint := fun i => look none [] i, pops := [], bl := [54, 56] } k Tryz.f138 flexs_kindo
noncomputable def clexs_kind (k : Nat) : flexs_kindT → Option flexs_kindR := fnOf (flexs_kind k).C k Tryz.f138 flexs_kindi flexs_kindo
noncomputable def sglexs_kind (k : Nat) : Sig := ⟨flexs_kindi, flexs_kindo, mkFun flexs_kindi.tys flexs_kindo.tys (clexs_kind k)⟩
noncomputable def flexs_kind_t (k : Nat) (J : JF flexs_kindR) (L : LF flexs_kindR) : flexs_kindT → Option flexs_kindR
  | (a0, a1) => bif (inB a1 (List.length a0)) then ((clexkind k) ((rdI a0 (Int.toNat a1)))).bind fun o1 => some (o1, a0, a1) else none
theorem flexs_kind_e (k : Nat) (x : flexs_kindT) : clexs_kind k x = flexs_kind_t k (flexs_kind k).J (flexs_kind k).L x := by
  apply cutX (flexs_kind k) [] [] (st0 (flexs_kind k).C Tryz.f138 flexs_kindi x) [] [] (flexs_kind_t k · · x) <;> intros <;> kernel_rfl
theorem clexs_kind_ok (k : Nat) : SigOK Tryz.prog 138 (sglexs_kind k) :=
  fn_ok (C := (flexs_kind k).C) (l := flexs_kindE k) rfl ⟨⟨clexkind_ok k, trivial⟩, trivial⟩ (by kernel_rfl) k (fn := Tryz.f138) (by kernel_rfl) (by kernel_rfl) (by kernel_rfl) flexs_kindi flexs_kindo rfl rfl (show 1 ≤ 48 by decide) (show 0 ≤ 48 by decide)

/-! slices.Index[[]byte,byte] -/
def fixs_bytei : Sk := ⟨[.lf (.pv (.slice (.int .u8))), .lf (.pv (.int .u8))], [], []⟩
def fixs_byteo : Sk := ⟨[.lf (.pv (.int .i64))], [], []⟩
def fixs_byte_k2 : Sk := ⟨sparse 19 [(0, .lf (.pv (.slice (.int .u8)))), (1, .lf (.pv (.int .u8))), (7, .lf (.pv (.int .i64))), (8, .lf (.pv (.int .i64)))], [], []⟩
abbrev fixs_byte_T2 := (List (Int)) × (Int) × (Int) × (Int)
def fixs_byte_s2 : fixs_byte_T2 → St := stOf fixs_byte_k2 67
abbrev fixs_byteT := (List (Int)) × (Int)
abbrev fixs_byteR := Int
noncomputable def fixs_byteE (k : Nat) : List (Nat × List Sig) := []
noncomputable def fixs_byte (k : Nat) : FnX (Int) := mkX { P := Tryz.prog, env := lookS (fixs_byteE k), n := 67, npB := 0, npO := 0, hint := fun i => look none [(2, some fixs_byte_k2)] i, pops := [], bl := [54, 56] } k Tryz.f139 fixs_byteo
noncomputable def cixs_byte (k : Nat) : fixs_byteT → Option (Int) := fnOf (fixs_byte k).C k Tryz.f139 fixs_bytei fixs_byteo
noncomputable def sgixs_byte (k : Nat) : Sig := ⟨fixs_bytei, fixs_byteo, mkFun fixs_bytei.tys fixs_byteo.tys (cixs_byte k)⟩
noncomputable def fixs_byte_t (k : Nat) (J : JF (Int)) (L : LF (Int)) : fixs_byteT → Option (Int)
  | (a0, a1) => L 2 [] k (fixs_byte_s2 (a0, a1, ((List.length a0 : Nat) : Int), (0 : Int)))
theorem fixs_byte_e (k : Nat) (x : fixs_byteT) : cixs_byte k x = fixs_byte_t k (fixs_byte k).J (fixs_byte k).L x := by
  apply cutX (fixs_byte k) [] [] (st0 (fixs_byte k).C Tryz.f139 fixs_bytei x) [] [(2, [], k)] (fixs_byte_t k · · x) <;> intros <;> kernel_rfl
noncomputable def fixs_byte_tl2 (k j2 : Nat) (J : JF (Int)) (L : LF (Int)) : fixs_byte_T2 → Option (Int)
  | (a0, a1, a2, a3) => bif (decide (a3 < a2)) then (bif (inB a3 (List.length a0)) then bif (a1 == (rdI a0 (Int.toNat a3))) then (some a3) else (L 2 [] j2 (fixs_byte_s2 (a0, a1, a2, (IntKind.wrap .i64 (a3 + (1 : Int)))))) else none) else (some (-1 : Int))
theorem fixs_byte_el2 (k j2 : Nat) (x : fixs_byte_T2) : (fixs_byte k).L 2 [] (j2 + 1) (fixs_byte_s2 x) = fixs_byte_tl2 k j2 (fixs_byte k).J (fixs_byte k).L x := by
  apply cutX (fixs_byte k) [.r, .l, .r, .b, .b] [j2] (fixs_byte_s2 x) [] [(2, [], j2)] (fixs_byte_tl2 k j2 · · x) <;> intros <;> kernel_rfl
theorem cixs_byte_ok (k : Nat) : SigOK Tryz.prog 139 (sgixs_byte k) :=
  fn_ok (C := (fixs_byte k).C) (l := fixs_byteE k) rfl trivial (by kernel_rfl) k (fn := Tryz.f139) (by kernel_rfl) (by kernel_rfl) (by kernel_rfl) fixs_bytei fixs_byteo rfl rfl (show 0 ≤ 48 by decide) (show 0 ≤ 48 by decide)

/-! (*carrefour/lex.scanner).skip -/
def flexs_skipi : Sk := ⟨[.lf (.ptr 0 0)], [[.pv (.slice (.int .u8)), .pv (.int .i64)]], []⟩
def flexs_skipo : Sk := ⟨[], [[.pv (.slice (.int .u8)), .pv (.int .i64)]], []⟩
def flexs_skip_k0 : Sk := ⟨sparse 54 [(0, .lf (.ptr 0 0))], [[.pv (.slice (.int .u8)), .pv (.int .i64)]], []⟩
abbrev flexs_skip_T0 := (List (Int)) × (Int)
def flexs_skip_s0 : flexs_skip_T0 → St := stOf flexs_skip_k0 102
abbrev flexs_skipT := (List (Int)) × (Int)
abbrev flexs_skipR := (List (Int)) × (Int)
noncomputable def flexs_skipE (k : Nat) : List (Nat × List Sig) := [(138, [sglexs_kind k]), (139, [sgixs_byte k])]
noncomputable def flexs_skip (k : Nat) : FnX flexs_skipR := mkX { P := Tryz.prog, env := lookS (flexs_skipE k), n := 102, npB := 1, npO := 0, hint := fun i => look none [(0, some flexs_skip_k0)] i, pops := [], bl := [54, 56] } k Tryz.f90 flexs_skipo
noncomputable def clexs_skip (k : Nat) : flexs_skipT → Option flexs_skipR := fnOf (flexs_skip k).C k Tryz.f90 flexs_skipi flexs_skipo
noncomputable def sglexs_skip (k : Nat) : Sig := ⟨flexs_skipi, flexs_skipo, mkFun flexs_skipi.tys flexs_skipo.tys (clexs_skip k)⟩
noncomputable def flexs_skip_t (k : Nat) (J : JF flexs_skipR) (L : LF flexs_skipR) : flexs_skipT → Option flexs_skipR
  | (a0, a1) => L 0 [] k (flexs_skip_s0 (a0, a1))
theorem flexs_skip_e (k : Nat) (x : flexs_skipT) : clexs_skip k x = flexs_skip_t k (flexs_skip k).J (flexs_skip k).L x := by
  apply cutX (flexs_skip k) [] [] (st0 (flexs_skip k).C Tryz.f90 flexs_skipi x) [] [(0, [], k)] (flexs_skip_t k · · x) <;> intros <;> kernel_rfl
noncomputable def flexs_skip_tl0 (k j0 : Nat) (J : JF flexs_skipR) (L : LF flexs_skipR) : flexs_skip_T0 → Option flexs_skipR
  | (a0, a1) => bif (decide (a1 < ((List.length a0 : Nat) : Int))) then (((clexs_kind k) (a0, a1)).bind fun o1 => bif (o1.1 == (2 : Int)) then (bif (cutB o1.2.2 (((List.length o1.2.1) : Nat) : Int) (List.length o1.2.1)) then ((cixs_byte k) ((cutL o1.2.1 o1.2.2 (((List.length o1.2.1) : Nat) : Int)), (10 : Int))).bind fun o2 => bif (decide (o2 ≥ (0 : Int))) then (L 0 [] j0 (flexs_skip_s0 (o1.2.1, (IntKind.wrap .i64 (o1.2.2 + o2))))) else (L 0 [] j0 (flexs_skip_s0 (o1.2.1, ((List.length o1.2.1 : Nat) : Int)))) else none) else (bif (o1.1 == (1 : Int)) then (L 0 [] j0 (flexs_skip_s0 (o1.2.1, (IntKind.wrap .i64 (o1.2.2 + (1 : Int)))))) else (some (o1.2.1, o1.2.2)))) else (some (a0, a1))
theorem flexs_skip_el0 (k j0 : Nat) (x : flexs_skip_T0) : (flexs_skip k).L 0 [] (j0 + 1) (flexs_skip_s0 x) = flexs_skip_tl0 k j0 (flexs_skip k).J (flexs_skip k).L x := by
  apply cutX (flexs_skip k) [.b, .b] [j0] (flexs_skip_s0 x) [] [(0, [], j0)] (flexs_skip_tl0 k j0 · · x) <;> intros <;> kernel_rfl
theorem clexs_skip_ok (k : Nat) : SigOK Tryz.prog 90 (sglexs_skip k) :=
  fn_ok (C := (flexs_skip k).C) (l := flexs_skipE k) rfl ⟨⟨clexs_kind_ok k, trivial⟩, ⟨cixs_byte_ok k, trivial⟩, trivial⟩ (by kernel_rfl) k (fn := Tryz.f90) (by kernel_rfl) (by kernel_rfl) (by kernel_rfl) flexs_skipi flexs_skipo rfl rfl (show 1 ≤ 48 by decide) (show 0 ≤ 48 by decide)

/-! (*carrefour/lex.scanner).kind -/
def flexs_kind'1i : Sk := ⟨[.lf (.rpt [(.slice (.int .u8)), (.int .i64)])], [], []⟩
def flexs_kind'1o : Sk := ⟨[.lf (.pv (.int .i64))], [], []⟩
abbrev flexs_kind'1T := (List (Int)) × (Int)
abbrev flexs_kind'1R := Int
noncomputable def flexs_kind'1E (k : Nat) : List (Nat × List Sig) := [(186, [sglexkind k])]
noncomputable def flexs_kind'1 (k : Nat) : FnX (Int) := mkX { P := Tryz.prog, env := lookS (flexs_kind'1E k), n := 62, npB := 0, npO := 0, hint := fun i => look none [] i, pops := [], bl := [54, 56] } k Tryz.f138 flexs_kind'1o
noncomputable def clexs_kind'1 (k : Nat) : flexs_kind'1T → Option (Int) := fnOf (flexs_kind'1 k).C k Tryz.f138 flexs_kind'1i flexs_kind'1o
noncomputable def sglexs_kind'1 (k : Nat) : Sig := ⟨flexs_kind'1i, flexs_kind'1o, mkFun flexs_kind'1i.tys flexs_kind'1o.tys (clexs_kind'1 k)⟩
noncomputable def flexs_kind'1_t (k : Nat) (J : JF (Int)) (L : LF (Int)) : flexs_kind'1T → Option (Int)
  | (a0, a1) => bif (inB a1 (List.length a0)) then ((clexkind k) ((rdI a0 (Int.toNat a1)))).bind fun o1 => some o1 else none
theorem flexs_kind'1_e (k : Nat) (x : flexs_kind'1T) : clexs_kind'1 k x = flexs_kind'1_t k (flexs_kind'1 k).J (flexs_kind'1 k).L x := by
  apply cutX (flexs_kind'1 k) [] [] (st0 (flexs_kind'1 k).C Tryz.f138 flexs_kind'1i x) [] [] (flexs_kind'1_t k · · x) <;> intros <;> kernel_rfl
theorem clexs_kind'1_ok (k : Nat) : SigOK Tryz.prog 138 (sglexs_kind'1 k) :=
  fn_ok (C := (flexs_kind'1 k).C) (l := flexs_kind'1E k) rfl ⟨⟨clexkind_ok k, trivial⟩, trivial⟩ (by kernel_rfl) k (fn := Tryz.f138) (by kernel_rfl) (by kernel_rfl) (by kernel_rfl) flexs_kind'1i flexs_kind'1o rfl rfl (show 0 ≤ 48 by decide) (show 0 ≤ 48 by decide)

/-! (*carrefour/lex.scanner).word$1 -/
def flexs_word_1i : Sk := ⟨[.lf (.pv (.int .i64))], [], []⟩
def flexs_word_1o : Sk := ⟨[.lf (.pv .bool)], [], []⟩
abbrev flexs_word_1R := Bool
noncomputable def flexs_word_1E (k : Nat) : List (Nat × List Sig) := []
noncomputable def flexs_word_1 (k : Nat) : FnX (Bool) := mkX { P := Tryz.prog, env := lookS (flexs_word_1E k), n := 61, npB := 0, npO := 0, hint := fun i => look none [] i, pops := [], bl := [54, 56] } k Tryz.f188 flexs_word_1o
noncomputable def clexs_word_1 (k : Nat) : (Int) → Option (Bool) := fnOf (flexs_word_1 k).C k Tryz.f188 flexs_word_1i flexs_word_1o
noncomputable def sglexs_word_1 (k : Nat) : Sig := ⟨flexs_word_1i, flexs_word_1o, mkFun flexs_word_1i.tys flexs_word_1o.tys (clexs_word_1 k)⟩
noncomputable def flexs_word_1_t (k : Nat) (J : JF (Bool)) (L : LF (Bool)) : Int → Option (Bool)
  | a0 => bif (a0 == (3 : Int)) then (some true) else (bif (a0 == (4 : Int)) then (some true) else (some (a0 == (6 : Int))))
theorem flexs_word_1_e (k : Nat) (x : Int) : clexs_word_1 k x = flexs_word_1_t k (flexs_word_1 k).J (flexs_word_1 k).L x := by
  apply cutX (flexs_word_1 k) [] [] (st0 (flexs_word_1 k).C Tryz.f188 flexs_word_1i x) [] [] (flexs_word_1_t k · · x) <;> intros <;> kernel_rfl
theorem clexs_word_1_ok (k : Nat) : SigOK Tryz.prog 188 (sglexs_word_1 k) :=
  fn_ok (C := (flexs_word_1 k).C) (l := flexs_word_1E k) rfl trivial (by kernel_rfl) k (fn := Tryz.f188) (by kernel_rfl) (by kernel_rfl) (by kernel_rfl) flexs_word_1i flexs_word_1o rfl rfl (show 0 ≤ 48 by decide) (show 0 ≤ 48 by decide)

/-! (*carrefour/lex.scanner).pass -/
def flexs_passi : Sk := ⟨[.lf (.ptr 0 0), .lf (.fn 188 [] [])], [[.pv (.slice (.int .u8)), .pv (.int .i64)]], []⟩
def flexs_passo : Sk := ⟨[.lf (.pv .str)], [[.pv (.slice (.int .u8)), .pv (.int .i64)]], []⟩
def flexs_pass_k2 : Sk := ⟨sparse 44 [(0, .lf (.ptr 0 0)), (1, .lf (.fn 188 [] [])), (5, .lf (.pv (.int .i64)))], [[.pv (.slice (.int .u8)), .pv (.int .i64)]], []⟩
abbrev flexs_pass_T2 := (Int) × (List (Int)) × (Int)
def flexs_pass_s2 : flexs_pass_T2 → St := stOf flexs_pass_k2 92
abbrev flexs_passT := (List (Int)) × (Int)
abbrev flexs_passR := (List Int) × (List (Int)) × (Int)
noncomputable def flexs_passE (k : Nat) : List (Nat × List Sig) := [(138, [sglexs_kind'1 k]), (188, [sglexs_word_1 k])]
noncomputable def flexs_pass (k : Nat) : FnX flexs_passR := mkX { P := Tryz.prog, env := lookS (flexs_passE k), n := 92, npB := 1, npO := 0, hint := fun i => look none [(2, some flexs_pass_k2)] i, pops := [], bl := [54, 56] } k Tryz.f187 flexs_passo
noncomputable def clexs_pass (k : Nat) : flexs_passT → Option flexs_passR := fnOf (flexs_pass k).C k Tryz.f187 flexs_passi flexs_passo
noncomputable def sglexs_pass (k : Nat) : Sig := ⟨flexs_passi, flexs_passo, mkFun flexs_passi.tys flexs_passo.tys (clexs_pass k)⟩
noncomputable def flexs_pass_t (k : Nat) (J : JF flexs_passR) (L : LF flexs_passR) : flexs_passT → Option flexs_passR
  | (a0, a1) => L 2 [] k (flexs_pass_s2 (a1, a0, a1))
theorem flexs_pass_e (k : Nat) (x : flexs_passT) : clexs_pass k x = flexs_pass_t k (flexs_pass k).J (flexs_pass k).L x := by
  apply cutX (flexs_pass k) [] [] (st0 (flexs_pass k).C Tryz.f187 flexs_passi x) [] [(2, [], k)] (flexs_pass_t k · · x) <;> intros <;> kernel_rfl
noncomputable def flexs_pass_tl2 (k j2 : Nat) (J : JF flexs_passR) (L : LF flexs_passR) : flexs_pass_T2 → Option flexs_passR
  | (a0, a1, a2) => bif (decide (a2 < ((List.length a1 : Nat) : Int))) then (((clexs_kind'1 k) (a1, a2)).bind fun o1 => ((clexs_word_1 k) (o1)).bind fun o2 => bif o2 then (L 2 [] j2 (flexs_pass_s2 (a0, a1, (IntKind.wrap .i64 (a2 + (1 : Int)))))) else (bif (cutB a0 a2 (List.length a1)) then some ((cutL a1 a0 a2), a1, a2) else none)) else (bif (cutB a0 a2 (List.length a1)) then some ((cutL a1 a0 a2), a1, a2) else none)
theorem flexs_pass_el2 (k j2 : Nat) (x : flexs_pass_T2) : (flexs_pass k).L 2 [] (j2 + 1) (flexs_pass_s2 x) = flexs_pass_tl2 k j2 (flexs_pass k).J (flexs_pass k).L x := by
  apply cutX (flexs_pass k) [.r, .r, .l, .b, .b] [j2] (flexs_pass_s2 x) [] [(2, [], j2)] (flexs_pass_tl2 k j2 · · x) <;> intros <;> kernel_rfl
theorem clexs_pass_ok (k : Nat) : SigOK Tryz.prog 187 (sglexs_pass k) :=
  fn_ok (C := (flexs_pass k).C) (l := flexs_passE k) rfl ⟨⟨clexs_kind'1_ok k, trivial⟩, ⟨clexs_word_1_ok k, trivial⟩, trivial⟩ (by kernel_rfl) k (fn := Tryz.f187) (by kernel_rfl) (by kernel_rfl) (by kernel_rfl) flexs_passi flexs_passo rfl rfl (show 1 ≤ 48 by decide) (show 0 ≤ 48 by decide)

/-! (*carrefour/lex.scanner).word -/
def flexs_wordi : Sk := ⟨[.lf (.ptr 0 0)], [[.pv (.slice (.int .u8)), .pv (.int .i64)]], []⟩
def flexs_wordo : Sk := ⟨[.agg [.pv (.int .i64), .pv .str, .pv (.int .i64), .pv (.int .i64)], .lf (.pv (.int .i64))], [[.pv (.slice (.int .u8)), .pv (.int .i64)]], []⟩
abbrev flexs_wordT := (List (Int)) × (Int)
abbrev flexs_wordR := (Int) × (List Int) × (Int) × (Int) × (Int) × (List (Int)) × (Int)
noncomputable def flexs_wordE (k : Nat) : List (Nat × List Sig) := [(187, [sglexs_pass k])]
noncomputable def flexs_word (k : Nat) : FnX flexs_wordR := mkX { P := Tryz.prog, env := lookS (flexs_wordE k), n := 61, npB := 1, npO := 0, hint := fun i => look none [] i, pops := [], bl := [54, 56] } k Tryz.f140 flexs_wordo
noncomputable def clexs_word (k : Nat) : flexs_wordT → Option flexs_wordR := fnOf (flexs_word k).C k Tryz.f140 flexs_wordi flexs_wordo
noncomputable def sglexs_word (k : Nat) : Sig := ⟨flexs_wordi, flexs_wordo, mkFun flexs_wordi.tys flexs_wordo.tys (clexs_word k)⟩
noncomputable def flexs_word_t (k : Nat) (J : JF flexs_wordR) (L : LF flexs_wordR) : flexs_wordT → Option flexs_wordR
  | (a0, a1) => ((clexs_pass k) (a0, a1)).bind fun o1 => bif (decide (((List.length o1.1 : Nat) : Int) > (24 : Int))) then (some ((0 : Int), ([] : List Int), (0 : Int), (0 : Int), (4 : Int), o1.2.1, o1.2.2)) else (some ((1 : Int), o1.1, (0 : Int), (0 : Int), (0 : Int), o1.2.1, o1.2.2))
theorem flexs_word_e (k : Nat) (x : flexs_wordT) : clexs_word k x = flexs_word_t k (flexs_word k).J (flexs_word k).L x := by
  apply cutX (flexs_word k) [] [] (st0 (flexs_word k).C Tryz.f140 flexs_wordi x) [] [] (flexs_word_t k · · x) <;> intros <;> kernel_rfl
theorem clexs_word_ok (k : Nat) : SigOK Tryz.prog 140 (sglexs_word k) :=
  fn_ok (C := (flexs_word k).C) (l := flexs_wordE k) rfl ⟨⟨clexs_pass_ok k, trivial⟩, trivial⟩ (by kernel_rfl) k (fn := Tryz.f140) (by kernel_rfl) (by kernel_rfl) (by kernel_rfl) flexs_wordi flexs_wordo rfl rfl (show 1 ≤ 48 by decide) (show 0 ≤ 48 by decide)

/-! (*carrefour/lex.scanner).number$1 -/
def flexs_number_1i : Sk := ⟨[.lf (.pv (.int .i64))], [], []⟩
def flexs_number_1o : Sk := ⟨[.lf (.pv .bool)], [], []⟩
abbrev flexs_number_1R := Bool
noncomputable def flexs_number_1E (k : Nat) : List (Nat × List Sig) := []
noncomputable def flexs_number_1 (k : Nat) : FnX (Bool) := mkX { P := Tryz.prog, env := lookS (flexs_number_1E k), n := 53, npB := 0, npO := 0, hint := fun i => look none [] i, pops := [], bl := [54, 56] } k Tryz.f189 flexs_number_1o
noncomputable def clexs_number_1 (k : Nat) : (Int) → Option (Bool) := fnOf (flexs_number_1 k).C k Tryz.f189 flexs_number_1i flexs_number_1o
noncomputable def sglexs_number_1 (k : Nat) : Sig := ⟨flexs_number_1i, flexs_number_1o, mkFun flexs_number_1i.tys flexs_number_1o.tys (clexs_number_1 k)⟩
noncomputable def flexs_number_1_t (k : Nat) (J : JF (Bool)) (L : LF (Bool)) : Int → Option (Bool)
  | a0 => some (a0 == (4 : Int))
theorem flexs_number_1_e (k : Nat) (x : Int) : clexs_number_1 k x = flexs_number_1_t k (flexs_number_1 k).J (flexs_number_1 k).L x := by
  apply cutX (flexs_number_1 k) [] [] (st0 (flexs_number_1 k).C Tryz.f189 flexs_number_1i x) [] [] (flexs_number_1_t k · · x) <;> intros <;> kernel_rfl
theorem clexs_number_1_ok (k : Nat) : SigOK Tryz.prog 189 (sglexs_number_1 k) :=
  fn_ok (C := (flexs_number_1 k).C) (l := flexs_number_1E k) rfl trivial (by kernel_rfl) k (fn := Tryz.f189) (by kernel_rfl) (by kernel_rfl) (by kernel_rfl) flexs_number_1i flexs_number_1o rfl rfl (show 0 ≤ 48 by decide) (show 0 ≤ 48 by decide)

/-! (*carrefour/lex.scanner).pass -/
def flexs_pass'1i : Sk := ⟨[.lf (.ptr 0 0), .lf (.fn 189 [] [])], [[.pv (.slice (.int .u8)), .pv (.int .i64)]], []⟩
def flexs_pass'1o : Sk := ⟨[.lf (.pv .str)], [[.pv (.slice (.int .u8)), .pv (.int .i64)]], []⟩
def flexs_pass'1_k2 : Sk := ⟨sparse 44 [(0, .lf (.ptr 0 0)), (1, .lf (.fn 189 [] [])), (5, .lf (.pv (.int .i64)))], [[.pv (.slice (.int .u8)), .pv (.int .i64)]], []⟩
abbrev flexs_pass'1_T2 := (Int) × (List (Int)) × (Int)
def flexs_pass'1_s2 : flexs_pass'1_T2 → St := stOf flexs_pass'1_k2 92
abbrev flexs_pass'1T := (List (Int)) × (Int)
abbrev flexs_pass'1R := (List Int) × (List (Int)) × (Int)
noncomputable def flexs_pass'1E (k : Nat) : List (Nat × List Sig) := [(138, [sglexs_kind'1 k]), (189, [sglexs_number_1 k])]
noncomputable def flexs_pass'1 (k : Nat) : FnX flexs_pass'1R := mkX { P := Tryz.prog, env := lookS (flexs_pass'1E k), n := 92, npB := 1, npO := 0, hint := fun i => look none [(2, some flexs_pass'1_k2)] i, pops := [], bl := [54, 56] } k Tryz.f187 flexs_pass'1o
noncomputable def clexs_pass'1 (k : Nat) : flexs_pass'1T → Option flexs_pass'1R := fnOf (flexs_pass'1 k).C k Tryz.f187 flexs_pass'1i flexs_pass'1o
noncomputable def sglexs_pass'1 (k : Nat) : Sig := ⟨flexs_pass'1i, flexs_pass'1o, mkFun flexs_pass'1i.tys flexs_pass'1o.tys (clexs_pass'1 k)⟩
noncomputable def flexs_pass'1_t (k : Nat) (J : JF flexs_pass'1R) (L : LF flexs_pass'1R) : flexs_pass'1T → Option flexs_pass'1R
  | (a0, a1) => L 2 [] k (flexs_pass'1_s2 (a1, a0, a1))
theorem flexs_pass'1_e (k : Nat) (x : flexs_pass'1T) : clexs_pass'1 k x = flexs_pass'1_t k (flexs_pass'1 k).J (flexs_pass'1 k).L x := by
  apply cutX (flexs_pass'1 k) [] [] (st0 (flexs_pass'1 k).C Tryz.f187 flexs_pass'1i x) [] [(2, [], k)] (flexs_pass'1_t k · · x) <;> intros <;> kernel_rfl
noncomputable def flexs_pass'1_tl2 (k j2 : Nat) (J : JF flexs_pass'1R) (L : LF flexs_pass'1R) : flexs_pass'1_T2 → Option flexs_pass'1R
  | (a0, a1, a2) => bif (decide (a2 < ((List.length a1 : Nat) : Int))) then (((clexs_kind'1 k) (a1, a2)).bind fun o1 => ((clexs_number_1 k) (o1)).bind fun o2 => bif o2 then (L 2 [] j2 (flexs_pass'1_s2 (a0, a1, (IntKind.wrap .i64 (a2 + (1 : Int)))))) else (bif (cutB a0 a2 (List.length a1)) then some ((cutL a1 a0 a2), a1, a2) else none)) else (bif (cutB a0 a2 (List.length a1)) then some ((cutL a1 a0 a2), a1, a2) else none)
theorem flexs_pass'1_el2 (k j2 : Nat) (x : flexs_pass'1_T2) : (flexs_pass'1 k).L 2 [] (j2 + 1) (flexs_pass'1_s2 x) = flexs_pass'1_tl2 k j2 (flexs_pass'1 k).J (flexs_pass'1 k).L x := by
  apply cutX (flexs_pass'1 k) [.r, .r, .l, .b, .b] [j2] (flexs_pass'1_s2 x) [] [(2, [], j2)] (flexs_pass'1_tl2 k j2 · · x) <;> intros <;> kernel_rfl
theorem clexs_pass'1_ok (k : Nat) : SigOK Tryz.prog 187 (sglexs_pass'1 k) :=
  fn_ok (C := (flexs_pass'1 k).C) (l := flexs_pass'1E k) rfl ⟨⟨clexs_kind'1_ok k, trivial⟩, ⟨clexs_number_1_ok k, trivial⟩, trivial⟩ (by kernel_rfl) k (fn := Tryz.f187) (by kernel_rfl) (by kernel_rfl) (by kernel_rfl) flexs_pass'1i flexs_pass'1o rfl rfl (show 1 ≤ 48 by decide) (show 0 ≤ 48 by decide)

/-! strconv.ParseInt: given -/
def fstrconvParseInti : Sk := ⟨[.lf (.pv .str), .lf (.pv (.int .i64)), .lf (.pv (.int .i64))], [], []⟩
def fstrconvParseInto : Sk := ⟨[.lf (.pv (.int .i64)), .lf (.err)], [], []⟩
def cstrconvParseInt (k : Nat) : ((List Int) × (Int) × (Int)) → Option ((Int) × (Bool)) := parseInt
theorem cstrconvParseInt_ok (k : Nat) : SigOK Tryz.prog 190 ⟨fstrconvParseInti, fstrconvParseInto, mkFun fstrconvParseInti.tys fstrconvParseInto.tys (cstrconvParseInt k)⟩ := parseInt_ok
noncomputable def sgstrconvParseInt (k : Nat) : Sig := ⟨fstrconvParseInti, fstrconvParseInto, mkFun fstrconvParseInti.tys fstrconvParseInto.tys (cstrconvParseInt k)⟩

/-! (*carrefour/lex.scanner).number -/
def flexs_numberi : Sk := ⟨[.lf (.ptr 0 0)], [[.pv (.slice (.int .u8)), .pv (.int .i64)]], []⟩
def flexs_numbero : Sk := ⟨[.agg [.pv (.int .i64), .pv .str, .pv (.int .i64), .pv (.int .i64)], .lf (.pv (.int .i64))], [[.pv (.slice (.int .u8)), .pv (.int .i64)]], []⟩
abbrev flexs_numberT := (List (Int)) × (Int)
abbrev flexs_numberR := (Int) × (List Int) × (Int) × (Int) × (Int) × (List (Int)) × (Int)
noncomputable def flexs_numberE (k : Nat) : List (Nat × List Sig) := [(187, [sglexs_pass'1 k]), (190, [sgstrconvParseInt k])]
noncomputable def flexs_number (k : Nat) : FnX flexs_numberR := mkX { P := Tryz.prog, env := lookS (flexs_numberE k), n := 69, npB := 1, npO := 0, hint := fun i => look none [] i, pops := [], bl := [54, 56] } k Tryz.f141 flexs_numbero
noncomputable def clexs_number (k : Nat) : flexs_numberT → Option flexs_numberR := fnOf (flexs_number k).C k Tryz.f141 flexs_numberi flexs_numbero
noncomputable def sglexs_number (k : Nat) : Sig := ⟨flexs_numberi, flexs_numbero, mkFun flexs_numberi.tys flexs_numbero.tys (clexs_number k)⟩
noncomputable def flexs_number_t (k : Nat) (J : JF flexs_numberR) (L : LF flexs_numberR) : flexs_numberT → Option flexs_numberR
  | (a0, a1) => ((clexs_pass'1 k) (a0, a1)).bind fun o1 => bif (decide (((List.length o1.1 : Nat) : Int) > (18 : Int))) then (some ((0 : Int), ([] : List Int), (0 : Int), (0 : Int), (4 : Int), o1.2.1, o1.2.2)) else (((cstrconvParseInt k) (o1.1, (10 : Int), (64 : Int))).bind fun o2 => some ((2 : Int), o1.1, o2.1, (0 : Int), (0 : Int), o1.2.1, o1.2.2))
theorem flexs_number_e (k : Nat) (x : flexs_numberT) : clexs_number k x = flexs_number_t k (flexs_number k).J (flexs_number k).L x := by
  apply cutX (flexs_number k) [] [] (st0 (flexs_number k).C Tryz.f141 flexs_numberi x) [] [] (flexs_number_t k · · x) <;> intros <;> kernel_rfl
theorem clexs_number_ok (k : Nat) : SigOK Tryz.prog 141 (sglexs_number k) :=
  fn_ok (C := (flexs_number k).C) (l := flexs_numberE k) rfl ⟨⟨clexs_pass'1_ok k, trivial⟩, ⟨cstrconvParseInt_ok k, trivial⟩, trivial⟩ (by kernel_rfl) k (fn := Tryz.f141) (by kernel_rfl) (by kernel_rfl) (by kernel_rfl) flexs_numberi flexs_numbero rfl rfl (show 1 ≤ 48 by decide) (show 0 ≤ 48 by decide)

/-! (*carrefour/lex.scanner).token -/
def flexs_tokeni : Sk := ⟨[.lf (.ptr 0 0)], [[.pv (.slice (.int .u8)), .pv (.int .i64)]], []⟩
def flexs_tokeno : Sk := ⟨[.agg [.pv (.int .i64), .pv .str, .pv (.int .i64), .pv (.int .i64)], .lf (.pv (.int .i64))], [[.pv (.slice (.int .u8)), .pv (.int .i64)]], []⟩
abbrev flexs_tokenT := (List (Int)) × (Int)
abbrev flexs_tokenR := (Int) × (List Int) × (Int) × (Int) × (Int) × (List (Int)) × (Int)
noncomputable def flexs_tokenE (k : Nat) : List (Nat × List Sig) := [(138, [sglexs_kind k]), (140, [sglexs_word k]), (141, [sglexs_number k])]
noncomputable def flexs_token (k : Nat) : FnX flexs_tokenR := mkX { P := Tryz.prog, env := lookS (flexs_tokenE k), n := 92, npB := 1, npO := 0, hint := fun i => look none [] i, pops := [], bl := [54, 56], ld := [(28, 9999), (29, 9999), (30, 0), (32, 9999), (33, 9999), (34, 0), (37, 9999), (38, 9999), (39, 0)], sr := [(2, 50)] } k Tryz.f91 flexs_tokeno
noncomputable def clexs_token (k : Nat) : flexs_tokenT → Option flexs_tokenR := fnOf (flexs_token k).C k Tryz.f91 flexs_tokeni flexs_tokeno
noncomputable def sglexs_token (k : Nat) : Sig := ⟨flexs_tokeni, flexs_tokeno, mkFun flexs_tokeni.tys flexs_tokeno.tys (clexs_token k)⟩
noncomputable def flexs_token_t (k : Nat) (J : JF flexs_tokenR) (L : LF flexs_tokenR) : flexs_tokenT → Option flexs_tokenR
  | (a0, a1) => ((clexs_kind k) (a0, a1)).bind fun o1 => bif (o1.1 == (3 : Int)) then (((clexs_word k) (o1.2.1, o1.2.2)).bind fun o2 => some (o2.1, o2.2.1, o2.2.2.1, o2.2.2.2.1, o2.2.2.2.2.1, o2.2.2.2.2.2.1, o2.2.2.2.2.2.2)) else (bif (o1.1 == (4 : Int)) then (((clexs_number k) (o1.2.1, o1.2.2)).bind fun o3 => some (o3.1, o3.2.1, o3.2.2.1, o3.2.2.2.1, o3.2.2.2.2.1, o3.2.2.2.2.2.1, o3.2.2.2.2.2.2)) else (bif (o1.1 == (5 : Int)) then (bif (cutB (IntKind.wrap .i64 ((IntKind.wrap .i64 (o1.2.2 + (1 : Int))) - (1 : Int))) (IntKind.wrap .i64 (o1.2.2 + (1 : Int))) (List.length o1.2.1)) then some ((3 : Int), (cutL o1.2.1 (IntKind.wrap .i64 ((IntKind.wrap .i64 (o1.2.2 + (1 : Int))) - (1 : Int))) (IntKind.wrap .i64 (o1.2.2 + (1 : Int)))), (0 : Int), (0 : Int), (0 : Int), o1.2.1, (IntKind.wrap .i64 (o1.2.2 + (1 : Int)))) else none) else (some ((0 : Int), ([] : List Int), (0 : Int), (0 : Int), (40 : Int), o1.2.1, o1.2.2))))
theorem flexs_token_e (k : Nat) (x : flexs_tokenT) : clexs_token k x = flexs_token_t k (flexs_token k).J (flexs_token k).L x := by
  apply cutX (flexs_token k) [] [] (st0 (flexs_token k).C Tryz.f91 flexs_tokeni x) [] [] (flexs_token_t k · · x) <;> intros <;> kernel_rfl
theorem clexs_token_ok (k : Nat) : SigOK Tryz.prog 91 (sglexs_token k) :=
  fn_ok (C := (flexs_token k).C) (l := flexs_tokenE k) rfl ⟨⟨clexs_kind_ok k, trivial⟩, ⟨clexs_word_ok k, trivial⟩, ⟨clexs_number_ok k, trivial⟩, trivial⟩ (by kernel_rfl) k (fn := Tryz.f91) (by kernel_rfl) (by kernel_rfl) (by kernel_rfl) flexs_tokeni flexs_tokeno rfl rfl (show 1 ≤ 48 by decide) (show 0 ≤ 48 by decide)

/-! carrefour/lex.Tokens -/
def flexTokensi : Sk := ⟨[.lf (.pv (.slice (.int .u8)))], [], []⟩
def flexTokenso : Sk := ⟨[.lf (.own 0), .lf (.pv (.int .i64)), .lf (.pv (.int .i64))], [], [some (135, yt8)]⟩
def flexTokens_k5 : Sk := ⟨sparse 46 [(0, .lf (.pv (.slice (.int .u8)))), (5, .lf (.ptr 0 0)), (6, .lf (.own 0))], [[.pv (.slice (.int .u8)), .pv (.int .i64)]], [some (135, yt8)]⟩
abbrev flexTokens_T5 := (List (Int)) × (List (Int)) × (Int) × (List (YT8))
def flexTokens_s5 : flexTokens_T5 → St := stOf flexTokens_k5 94
abbrev flexTokensR := (Int) × (Int) × (List (YT8))
noncomputable def flexTokensE (k : Nat) : List (Nat × List Sig) := [(90, [sglexs_skip k]), (91, [sglexs_token k])]
noncomputable def flexTokens (k : Nat) : FnX flexTokensR := mkX { P := Tryz.prog, env := lookS (flexTokensE k), n := 94, npB := 0, npO := 0, hint := fun i => look none [(5, some flexTokens_k5)] i, pops := [], bl := [54, 56] } k Tryz.f46 flexTokenso
noncomputable def clexTokens (k : Nat) : (List (Int)) → Option flexTokensR := fnOf (flexTokens k).C k Tryz.f46 flexTokensi flexTokenso
noncomputable def sglexTokens (k : Nat) : Sig := ⟨flexTokensi, flexTokenso, mkFun flexTokensi.tys flexTokenso.tys (clexTokens k)⟩
noncomputable def flexTokens_t (k : Nat) (J : JF flexTokensR) (L : LF flexTokensR) : List (Int) → Option flexTokensR
  | a0 => bif (decide (((List.length a0 : Nat) : Int) > (65536 : Int))) then (some ((4 : Int), (65536 : Int), [])) else (L 5 [] k (flexTokens_s5 (a0, a0, (0 : Int), [])))
theorem flexTokens_e (k : Nat) (x : List (Int)) : clexTokens k x = flexTokens_t k (flexTokens k).J (flexTokens k).L x := by
  apply cutX (flexTokens k) [] [] (st0 (flexTokens k).C Tryz.f46 flexTokensi x) [] [(5, [], k)] (flexTokens_t k · · x) <;> intros <;> kernel_rfl
noncomputable def flexTokens_tl5 (k j5 : Nat) (J : JF flexTokensR) (L : LF flexTokensR) : flexTokens_T5 → Option flexTokensR
  | (a0, a1, a2, a3) => ((clexs_skip k) (a1, a2)).bind fun o1 => bif (o1.2 == ((List.length a0 : Nat) : Int)) then (bif (appB 40 (List.length a3) (List.length ([((0 : Int), (([] : List Int), ((0 : Int), (o1.2, ()))))] : List (YT8)))) then some ((0 : Int), (0 : Int), (a3 ++ ([((0 : Int), (([] : List Int), ((0 : Int), (o1.2, ()))))] : List (YT8)))) else none) else (((clexs_token k) (o1.1, o1.2)).bind fun o2 => bif (o2.2.2.2.2.1 != (0 : Int)) then (some (o2.2.2.2.2.1, o1.2, [])) else (bif (appB 40 (List.length a3) (List.length ([(o2.1, (o2.2.1, (o2.2.2.1, (o1.2, ()))))] : List (YT8)))) then L 5 [] j5 (flexTokens_s5 (a0, o2.2.2.2.2.2.1, o2.2.2.2.2.2.2, (a3 ++ ([(o2.1, (o2.2.1, (o2.2.2.1, (o1.2, ()))))] : List (YT8))))) else none))
theorem flexTokens_el5 (k j5 : Nat) (x : flexTokens_T5) : (flexTokens k).L 5 [] (j5 + 1) (flexTokens_s5 x) = flexTokens_tl5 k j5 (flexTokens k).J (flexTokens k).L x := by
  apply cutX (flexTokens k) [.r, .r, .r, .r, .b, .b] [j5] (flexTokens_s5 x) [] [(5, [], j5)] (flexTokens_tl5 k j5 · · x) <;> intros <;> kernel_rfl
theorem clexTokens_ok (k : Nat) : SigOK Tryz.prog 46 (sglexTokens k) :=
  fn_ok (C := (flexTokens k).C) (l := flexTokensE k) rfl ⟨⟨clexs_skip_ok k, trivial⟩, ⟨clexs_token_ok k, trivial⟩, trivial⟩ (by kernel_rfl) k (fn := Tryz.f46) (by kernel_rfl) (by kernel_rfl) (by kernel_rfl) flexTokensi flexTokenso rfl rfl (show 0 ≤ 48 by decide) (show 0 ≤ 48 by decide)

/-! carrefour/lex.Right -/
def flexRighti : Sk := ⟨[.agg [.pv (.int .i64), .pv .str, .pv (.int .i64), .pv (.int .i64)]], [], []⟩
def flexRighto : Sk := ⟨[.lf (.pv .bool)], [], []⟩
abbrev flexRightT := (Int) × (List Int) × (Int) × (Int)
abbrev flexRightR := Bool
noncomputable def flexRightE (k : Nat) : List (Nat × List Sig) := [(46, [sglexTokens k])]
noncomputable def flexRight (k : Nat) : FnX (Bool) := mkX { P := Tryz.prog, env := lookS (flexRightE k), n := 77, npB := 0, npO := 0, hint := fun i => look none [] i, pops := [], bl := [54, 56] } k Tryz.f118 flexRighto
noncomputable def clexRight (k : Nat) : flexRightT → Option (Bool) := fnOf (flexRight k).C k Tryz.f118 flexRighti flexRighto
noncomputable def sglexRight (k : Nat) : Sig := ⟨flexRighti, flexRighto, mkFun flexRighti.tys flexRighto.tys (clexRight k)⟩
noncomputable def flexRight_t (k : Nat) (J : JF (Bool)) (L : LF (Bool)) : flexRightT → Option (Bool)
  | (a0, a1, a2, a3) => ((clexTokens k) (a1)).bind fun o1 => bif (o1.1 == (0 : Int)) then (bif (((List.length o1.2.2 : Nat) : Int) == (2 : Int)) then (bif (inB (0 : Int) (List.length o1.2.2)) then some ((eqI (rdA zt8 o1.2.2 (Int.toNat (0 : Int))).1 a0) && ((eqS (rdA zt8 o1.2.2 (Int.toNat (0 : Int))).2.1 a1) && ((eqI (rdA zt8 o1.2.2 (Int.toNat (0 : Int))).2.2.1 a2) && ((eqI (rdA zt8 o1.2.2 (Int.toNat (0 : Int))).2.2.2.1 (0 : Int)) && true)))) else none) else (some false)) else (some false)
theorem flexRight_e (k : Nat) (x : flexRightT) : clexRight k x = flexRight_t k (flexRight k).J (flexRight k).L x := by
  apply cutX (flexRight k) [] [] (st0 (flexRight k).C Tryz.f118 flexRighti x) [] [] (flexRight_t k · · x) <;> intros <;> kernel_rfl
theorem clexRight_ok (k : Nat) : SigOK Tryz.prog 118 (sglexRight k) :=
  fn_ok (C := (flexRight k).C) (l := flexRightE k) rfl ⟨⟨clexTokens_ok k, trivial⟩, trivial⟩ (by kernel_rfl) k (fn := Tryz.f118) (by kernel_rfl) (by kernel_rfl) (by kernel_rfl) flexRighti flexRighto rfl rfl (show 0 ≤ 48 by decide) (show 0 ≤ 48 by decide)

/-! carrefour/lex.Reserved -/
def flexReservedi : Sk := ⟨[.lf (.pv .str)], [], []⟩
def flexReservedo : Sk := ⟨[.lf (.pv .bool)], [], []⟩
def flexReserved_k16 : Sk := ⟨sparse 50 [(3, .lf (.pv .str))], [], []⟩
abbrev flexReserved_T16 := List Int
def flexReserved_s16 : flexReserved_T16 → St := stOf flexReserved_k16 98
def flexReserved_k26 : Sk := ⟨sparse 50 [(3, .lf (.pv .str))], [], []⟩
abbrev flexReserved_T26 := List Int
def flexReserved_s26 : flexReserved_T26 → St := stOf flexReserved_k26 98
def flexReserved_k33 : Sk := ⟨sparse 50 [(3, .lf (.pv .str))], [], []⟩
abbrev flexReserved_T33 := List Int
def flexReserved_s33 : flexReserved_T33 → St := stOf flexReserved_k33 98
abbrev flexReservedR := Bool
noncomputable def flexReservedE (k : Nat) : List (Nat × List Sig) := []
noncomputable def flexReserved (k : Nat) : FnX (Bool) := mkX { P := Tryz.prog, env := lookS (flexReservedE k), n := 98, npB := 0, npO := 0, hint := fun i => look none [(16, some flexReserved_k16), (26, some flexReserved_k26), (33, some flexReserved_k33)] i, pops := [], bl := [54, 56] } k Tryz.f119 flexReservedo
noncomputable def clexReserved (k : Nat) : (List Int) → Option (Bool) := fnOf (flexReserved k).C k Tryz.f119 flexReservedi flexReservedo
noncomputable def sglexReserved (k : Nat) : Sig := ⟨flexReservedi, flexReservedo, mkFun flexReservedi.tys flexReservedo.tys (clexReserved k)⟩
noncomputable def flexReserved_t (k : Nat) (J : JF (Bool)) (L : LF (Bool)) : List Int → Option (Bool)
  | a0 => bif (a0 == ([99, 121, 99, 108, 101] : List Int)) then (some true) else (bif (a0 == ([116, 111] : List Int)) then (some true) else (bif (a0 == ([98, 121] : List Int)) then (some true) else (bif (a0 == ([112, 101, 97, 107] : List Int)) then (some true) else (bif (a0 == ([110, 111, 100, 101] : List Int)) then (some true) else (bif (a0 == ([104, 101, 97, 100] : List Int)) then (some true) else (bif (a0 == ([118, 111, 108, 117, 109, 101] : List Int)) then (some true) else (bif (a0 == ([102, 108, 111, 119] : List Int)) then (some true) else (bif (a0 == ([117, 115, 101] : List Int)) then (some true) else (bif (a0 == ([115, 112, 101, 101, 100] : List Int)) then (some true) else (bif (a0 == ([103, 114, 97, 100, 101] : List Int)) then (some true) else (bif (a0 == ([119, 105, 100, 116, 104] : List Int)) then (some true) else (bif (a0 == ([108, 101, 110, 103, 116, 104] : List Int)) then (some true) else (bif (a0 == ([103, 114, 101, 101, 110] : List Int)) then (some true) else (J 16 [] (flexReserved_s16 (a0))))))))))))))))
theorem flexReserved_e (k : Nat) (x : List Int) : clexReserved k x = flexReserved_t k (flexReserved k).J (flexReserved k).L x := by
  apply cutX (flexReserved k) [] [] (st0 (flexReserved k).C Tryz.f119 flexReservedi x) [(16, []), (26, []), (33, [])] [] (flexReserved_t k · · x) <;> intros <;> kernel_rfl
noncomputable def flexReserved_tj16 (k : Nat) (J : JF (Bool)) (L : LF (Bool)) : List Int → Option (Bool)
  | a0 => bif (a0 == ([119, 97, 108, 107] : List Int)) then (some true) else (bif (a0 == ([119, 105, 116, 104] : List Int)) then (some true) else (bif (a0 == ([108, 111, 110, 103] : List Int)) then (some true) else (bif (a0 == ([112, 97, 99, 101] : List Int)) then (some true) else (bif (a0 == ([108, 101, 97, 115, 116] : List Int)) then (some true) else (bif (a0 == ([112, 104, 97, 115, 101] : List Int)) then (some true) else (bif (a0 == ([103, 114, 111, 117, 112] : List Int)) then (some true) else (bif (a0 == ([114, 105, 110, 103] : List Int)) then (some true) else (bif (a0 == ([102, 114, 101, 101] : List Int)) then (some true) else (bif (a0 == ([102, 111, 101] : List Int)) then (some true) else (J 26 [] (flexReserved_s26 (a0))))))))))))
theorem flexReserved_ej16 (k : Nat) (x : List Int) : (flexReserved k).J 16 [] (flexReserved_s16 x) = flexReserved_tj16 k (flexReserved k).J (flexReserved k).L x := by
  apply cutX (flexReserved k) [.r, .l, .r, .b, .l, .b, .b, .b, .b, .l, .r] [] (flexReserved_s16 x) [(16, []), (26, []), (33, [])] [] (flexReserved_tj16 k · · x) <;> intros <;> kernel_rfl
noncomputable def flexReserved_tj26 (k : Nat) (J : JF (Bool)) (L : LF (Bool)) : List Int → Option (Bool)
  | a0 => bif (a0 == ([97, 114, 116, 101, 114, 121] : List Int)) then (some true) else (bif (a0 == ([115, 116, 111, 112] : List Int)) then (some true) else (bif (a0 == ([111, 117, 116] : List Int)) then (some true) else (bif (a0 == ([105, 110] : List Int)) then (some true) else (bif (a0 == ([97, 104, 101, 97, 100] : List Int)) then (some true) else (bif (a0 == ([98, 97, 99, 107] : List Int)) then (some true) else (bif (a0 == ([119, 101, 105, 103, 104, 116, 115] : List Int)) then (some true) else (J 33 [] (flexReserved_s33 (a0)))))))))
theorem flexReserved_ej26 (k : Nat) (x : List Int) : (flexReserved k).J 26 [] (flexReserved_s26 x) = flexReserved_tj26 k (flexReserved k).J (flexReserved k).L x := by
  apply cutX (flexReserved k) [.r, .l, .r, .b, .l, .b, .b, .b, .b, .l, .r, .r] [] (flexReserved_s26 x) [(16, []), (26, []), (33, [])] [] (flexReserved_tj26 k · · x) <;> intros <;> kernel_rfl
noncomputable def flexReserved_tj33 (k : Nat) (J : JF (Bool)) (L : LF (Bool)) : List Int → Option (Bool)
  | a0 => bif (a0 == ([112, 108, 97, 110] : List Int)) then (some true) else (bif (a0 == ([111, 102, 102, 115, 101, 116] : List Int)) then (some true) else (bif (a0 == ([115, 117, 109] : List Int)) then (some true) else (bif (a0 == ([115, 112, 108, 105, 116] : List Int)) then (some true) else (bif (a0 == ([121, 101, 108, 108, 111, 119] : List Int)) then (some true) else (bif (a0 == ([114, 101, 100] : List Int)) then (some true) else (bif (a0 == ([102, 108, 97, 115, 104] : List Int)) then (some true) else (bif (a0 == ([98, 101, 115, 116] : List Int)) then (some true) else (bif (a0 == ([121, 101, 115] : List Int)) then (some true) else (bif (a0 == ([110, 111] : List Int)) then (some true) else (bif (a0 == ([115, 112, 101, 110, 116] : List Int)) then (some true) else (some false)))))))))))
theorem flexReserved_ej33 (k : Nat) (x : List Int) : (flexReserved k).J 33 [] (flexReserved_s33 x) = flexReserved_tj33 k (flexReserved k).J (flexReserved k).L x := by
  apply cutX (flexReserved k) [.r, .l, .r, .b, .l, .b, .b, .b, .b, .l, .r, .r, .r] [] (flexReserved_s33 x) [(16, []), (26, []), (33, [])] [] (flexReserved_tj33 k · · x) <;> intros <;> kernel_rfl
theorem clexReserved_ok (k : Nat) : SigOK Tryz.prog 119 (sglexReserved k) :=
  fn_ok (C := (flexReserved k).C) (l := flexReservedE k) rfl trivial (by kernel_rfl) k (fn := Tryz.f119) (by kernel_rfl) (by kernel_rfl) (by kernel_rfl) flexReservedi flexReservedo rfl rfl (show 0 ≤ 48 by decide) (show 0 ≤ 48 by decide)

/-! carrefour/show.names$1 -/
def fshownames_1i : Sk := ⟨[.lf (.pv .str)], [], []⟩
def fshownames_1o : Sk := ⟨[.lf (.pv .bool)], [], []⟩
abbrev fshownames_1R := Bool
noncomputable def fshownames_1E (k : Nat) : List (Nat × List Sig) := [(118, [sglexRight k]), (119, [sglexReserved k])]
noncomputable def fshownames_1 (k : Nat) : FnX (Bool) := mkX { P := Tryz.prog, env := lookS (fshownames_1E k), n := 59, npB := 0, npO := 0, hint := fun i => look none [] i, pops := [], bl := [54, 56] } k Tryz.f117 fshownames_1o
noncomputable def cshownames_1 (k : Nat) : (List Int) → Option (Bool) := fnOf (fshownames_1 k).C k Tryz.f117 fshownames_1i fshownames_1o
noncomputable def sgshownames_1 (k : Nat) : Sig := ⟨fshownames_1i, fshownames_1o, mkFun fshownames_1i.tys fshownames_1o.tys (cshownames_1 k)⟩
noncomputable def fshownames_1_t (k : Nat) (J : JF (Bool)) (L : LF (Bool)) : List Int → Option (Bool)
  | a0 => ((clexRight k) ((1 : Int), a0, (0 : Int), (0 : Int))).bind fun o1 => bif (!o1) then (some true) else (((clexReserved k) (a0)).bind fun o2 => some o2)
theorem fshownames_1_e (k : Nat) (x : List Int) : cshownames_1 k x = fshownames_1_t k (fshownames_1 k).J (fshownames_1 k).L x := by
  apply cutX (fshownames_1 k) [] [] (st0 (fshownames_1 k).C Tryz.f117 fshownames_1i x) [] [] (fshownames_1_t k · · x) <;> intros <;> kernel_rfl
theorem cshownames_1_ok (k : Nat) : SigOK Tryz.prog 117 (sgshownames_1 k) :=
  fn_ok (C := (fshownames_1 k).C) (l := fshownames_1E k) rfl ⟨⟨clexRight_ok k, trivial⟩, ⟨clexReserved_ok k, trivial⟩, trivial⟩ (by kernel_rfl) k (fn := Tryz.f117) (by kernel_rfl) (by kernel_rfl) (by kernel_rfl) fshownames_1i fshownames_1o rfl rfl (show 0 ≤ 48 by decide) (show 0 ≤ 48 by decide)

/-! slices.IndexFunc[[]string,string] -/
def fixf_stringi : Sk := ⟨[.lf (.pv (.slice .str)), .lf (.fn 117 [] [])], [], []⟩
def fixf_stringo : Sk := ⟨[.lf (.pv (.int .i64))], [], []⟩
def fixf_string_k2 : Sk := ⟨sparse 19 [(0, .lf (.pv (.slice .str))), (1, .lf (.fn 117 [] [])), (7, .lf (.pv (.int .i64))), (8, .lf (.pv (.int .i64)))], [], []⟩
abbrev fixf_string_T2 := (List (List Int)) × (Int) × (Int)
def fixf_string_s2 : fixf_string_T2 → St := stOf fixf_string_k2 67
abbrev fixf_stringR := Int
noncomputable def fixf_stringE (k : Nat) : List (Nat × List Sig) := [(117, [sgshownames_1 k])]
noncomputable def fixf_string (k : Nat) : FnX (Int) := mkX { P := Tryz.prog, env := lookS (fixf_stringE k), n := 67, npB := 0, npO := 0, hint := fun i => look none [(2, some fixf_string_k2)] i, pops := [], bl := [54, 56] } k Tryz.f176 fixf_stringo
noncomputable def cixf_string (k : Nat) : (List (List Int)) → Option (Int) := fnOf (fixf_string k).C k Tryz.f176 fixf_stringi fixf_stringo
noncomputable def sgixf_string (k : Nat) : Sig := ⟨fixf_stringi, fixf_stringo, mkFun fixf_stringi.tys fixf_stringo.tys (cixf_string k)⟩
noncomputable def fixf_string_t (k : Nat) (J : JF (Int)) (L : LF (Int)) : List (List Int) → Option (Int)
  | a0 => L 2 [] k (fixf_string_s2 (a0, ((List.length a0 : Nat) : Int), (0 : Int)))
theorem fixf_string_e (k : Nat) (x : List (List Int)) : cixf_string k x = fixf_string_t k (fixf_string k).J (fixf_string k).L x := by
  apply cutX (fixf_string k) [] [] (st0 (fixf_string k).C Tryz.f176 fixf_stringi x) [] [(2, [], k)] (fixf_string_t k · · x) <;> intros <;> kernel_rfl
noncomputable def fixf_string_tl2 (k j2 : Nat) (J : JF (Int)) (L : LF (Int)) : fixf_string_T2 → Option (Int)
  | (a0, a1, a2) => bif (decide (a2 < a1)) then (idx [] a0 a2 fun o1 => ((cshownames_1 k) (o1)).bind fun o2 => bif o2 then (some a2) else (L 2 [] j2 (fixf_string_s2 (a0, a1, (IntKind.wrap .i64 (a2 + (1 : Int))))))) else (some (-1 : Int))
theorem fixf_string_el2 (k j2 : Nat) (x : fixf_string_T2) : (fixf_string k).L 2 [] (j2 + 1) (fixf_string_s2 x) = fixf_string_tl2 k j2 (fixf_string k).J (fixf_string k).L x := by
  apply cutX (fixf_string k) [.r, .l, .r, .b, .b] [j2] (fixf_string_s2 x) [] [(2, [], j2)] (fixf_string_tl2 k j2 · · x) <;> intros <;> kernel_rfl
theorem cixf_string_ok (k : Nat) : SigOK Tryz.prog 176 (sgixf_string k) :=
  fn_ok (C := (fixf_string k).C) (l := fixf_stringE k) rfl ⟨⟨cshownames_1_ok k, trivial⟩, trivial⟩ (by kernel_rfl) k (fn := Tryz.f176) (by kernel_rfl) (by kernel_rfl) (by kernel_rfl) fixf_stringi fixf_stringo rfl rfl (show 0 ≤ 48 by decide) (show 0 ≤ 48 by decide)

/-! slices.ContainsFunc[[]string,string] -/
def fctf_stringi : Sk := ⟨[.lf (.pv (.slice .str)), .lf (.fn 117 [] [])], [], []⟩
def fctf_stringo : Sk := ⟨[.lf (.pv .bool)], [], []⟩
abbrev fctf_stringR := Bool
noncomputable def fctf_stringE (k : Nat) : List (Nat × List Sig) := [(176, [sgixf_string k])]
noncomputable def fctf_string (k : Nat) : FnX (Bool) := mkX { P := Tryz.prog, env := lookS (fctf_stringE k), n := 57, npB := 0, npO := 0, hint := fun i => look none [] i, pops := [], bl := [54, 56] } k Tryz.f116 fctf_stringo
noncomputable def cctf_string (k : Nat) : (List (List Int)) → Option (Bool) := fnOf (fctf_string k).C k Tryz.f116 fctf_stringi fctf_stringo
noncomputable def sgctf_string (k : Nat) : Sig := ⟨fctf_stringi, fctf_stringo, mkFun fctf_stringi.tys fctf_stringo.tys (cctf_string k)⟩
noncomputable def fctf_string_t (k : Nat) (J : JF (Bool)) (L : LF (Bool)) : List (List Int) → Option (Bool)
  | a0 => ((cixf_string k) (a0)).bind fun o1 => some (decide (o1 ≥ (0 : Int)))
theorem fctf_string_e (k : Nat) (x : List (List Int)) : cctf_string k x = fctf_string_t k (fctf_string k).J (fctf_string k).L x := by
  apply cutX (fctf_string k) [] [] (st0 (fctf_string k).C Tryz.f116 fctf_stringi x) [] [] (fctf_string_t k · · x) <;> intros <;> kernel_rfl
theorem cctf_string_ok (k : Nat) : SigOK Tryz.prog 116 (sgctf_string k) :=
  fn_ok (C := (fctf_string k).C) (l := fctf_stringE k) rfl ⟨⟨cixf_string_ok k, trivial⟩, trivial⟩ (by kernel_rfl) k (fn := Tryz.f116) (by kernel_rfl) (by kernel_rfl) (by kernel_rfl) fctf_stringi fctf_stringo rfl rfl (show 0 ≤ 48 by decide) (show 0 ≤ 48 by decide)

/-! carrefour/show.names -/
def fshownamesi : Sk := ⟨[.lf (.pv (.slice .str))], [], []⟩
def fshownameso : Sk := ⟨[.lf (.pv .bool)], [], []⟩
abbrev fshownamesR := Bool
noncomputable def fshownamesE (k : Nat) : List (Nat × List Sig) := [(116, [sgctf_string k])]
noncomputable def fshownames (k : Nat) : FnX (Bool) := mkX { P := Tryz.prog, env := lookS (fshownamesE k), n := 54, npB := 0, npO := 0, hint := fun i => look none [] i, pops := [], bl := [54, 56] } k Tryz.f64 fshownameso
noncomputable def cshownames (k : Nat) : (List (List Int)) → Option (Bool) := fnOf (fshownames k).C k Tryz.f64 fshownamesi fshownameso
noncomputable def sgshownames (k : Nat) : Sig := ⟨fshownamesi, fshownameso, mkFun fshownamesi.tys fshownameso.tys (cshownames k)⟩
noncomputable def fshownames_t (k : Nat) (J : JF (Bool)) (L : LF (Bool)) : List (List Int) → Option (Bool)
  | a0 => ((cctf_string k) (a0)).bind fun o1 => some (!o1)
theorem fshownames_e (k : Nat) (x : List (List Int)) : cshownames k x = fshownames_t k (fshownames k).J (fshownames k).L x := by
  apply cutX (fshownames k) [] [] (st0 (fshownames k).C Tryz.f64 fshownamesi x) [] [] (fshownames_t k · · x) <;> intros <;> kernel_rfl
theorem cshownames_ok (k : Nat) : SigOK Tryz.prog 64 (sgshownames k) :=
  fn_ok (C := (fshownames k).C) (l := fshownamesE k) rfl ⟨⟨cctf_string_ok k, trivial⟩, trivial⟩ (by kernel_rfl) k (fn := Tryz.f64) (by kernel_rfl) (by kernel_rfl) (by kernel_rfl) fshownamesi fshownameso rfl rfl (show 0 ≤ 48 by decide) (show 0 ≤ 48 by decide)
end Go.Proofs.YtipcabmhdokfjaaGreatDoorV
