/- The library's contracts, laid, as calls of the abstract machine; a text between quotes. -/
import Derived.Shelf.Strings.Builder1
import Derived.Shelf.Strings.Builder2
import Derived.Shelf.Strings.OnBuilder
import Derived.Shelf.Small.Bits
import Derived.Shelf.Small.Strs
import Derived.Shelf.Strings.BuilderF
import Derived.Shelf.Strings.BuilderK
import Derived.Shelf.Utf8.RuneCount
import Derived.Shelf.Strconv.Itoa0
import Derived.Shelf.Strconv.Itoa1
import Derived.Shelf.LaysM
import Derived.Shelf.Strconv.Itoa2
import Derived.Shelf.Strconv.Itoa3
import Derived.Shelf.Strconv.Itoa4
import Derived.Shelf.Strings.Search1
import Derived.Shelf.Strings.Search2
import Derived.Shelf.Strings.Search3
import Derived.Shelf.Strings.Count
import Derived.Shelf.Strings.Shaped
import Derived.Shelf.Strings.Prefix
import Derived.Shelf.Strings.Split
import Derived.Shelf.Strings.SplitShaped
import Derived.Shelf.Bits.Mul64
import Derived.Shelf.Strings.Repeat
import Derived.Shelf.Unicode.DecodeSlow
import Derived.Shelf.Unicode.DecodeAny
import Derived.Shelf.Slices.CompactS
import Derived.Ground.Names2Prog
import Derived.Shelf.Slices.SearchI
import Derived.Shelf.Slices.Cells
import Derived.Test.YtbbpfakobaiglaaGreatDoorProg
import Derived.KernelRfl
import Derived.Test.YtbbpfakobaiglaaGreatDoorWalkB
import Derived.Test.YtbbpfakobaiglaaGreatDoorVmC
import Derived.WalkKit
import Derived.BigCall
import Derived.OwnWalk
set_option linter.unusedVariables false
set_option linter.unusedSimpArgs false
namespace Go.Proofs
open Go.Shelf
def Tryz.lays156_ren : Go.Shelf.Ren := ⟨fun | 156 => 93 | 165 => 166 | 166 => 167 | 169 => 168 | 240 => 213 | 241 => 214 | 276 => 248 | 277 => 249 | n => n, fun | 31 => 131 | 9 => 9 | 3 => 3 | 4 => 4 | 0 => 0 | 20 => 20 | 72 => 177 | 76 => 181 | 70 => 174 | 37 => 175 | 75 => 180 | 127 => 214 | 164 => 247 | 5 => 5 | 80 => 154 | n => n, fun | n => n⟩
theorem Tryz.lays156 : Go.Proofs.Lays.n156 Tryz.prog Tryz.lays156_ren := {
  mixed := by kernel_rfl
  f156 := Tryz.func93.trans (congrArg some (by kernel_rfl))
  f165 := Tryz.func166.trans (congrArg some (by kernel_rfl))
  f166 := Tryz.func167.trans (congrArg some (by kernel_rfl))
  f169 := Tryz.func168.trans (congrArg some (by kernel_rfl))
  f240 := Tryz.func213.trans (congrArg some (by kernel_rfl))
  f241 := Tryz.func214.trans (congrArg some (by kernel_rfl))
  f276 := Tryz.func248.trans (congrArg some (by kernel_rfl))
  f277 := Tryz.func249.trans (congrArg some (by kernel_rfl))
  t0 := Tryz.underlying0
  a0 := Tryz.isAgg0
  z0 := Tryz.sizeOf0
  v0 := Tryz.zeroValue0
  t3 := Tryz.underlying3
  a3 := Tryz.isAgg3
  z3 := Tryz.sizeOf3
  v3 := Tryz.zeroValue3
  t4 := Tryz.underlying4
  a4 := Tryz.isAgg4
  z4 := Tryz.sizeOf4
  v4 := Tryz.zeroValue4
  t9 := Tryz.underlying9
  a9 := Tryz.isAgg9
  z9 := Tryz.sizeOf9
  v9 := Tryz.zeroValue9
  t20 := Tryz.underlying20
  a20 := Tryz.isAgg20
  z20 := Tryz.sizeOf20
  v20 := Tryz.zeroValue20
  t31 := Tryz.underlying131
  a31 := Tryz.isAgg131
  z31 := Tryz.sizeOf131
  v31 := Tryz.zeroValue131
  t37 := Tryz.underlying175
  a37 := Tryz.isAgg175
  z37 := Tryz.sizeOf175
  v37 := Tryz.zeroValue175
  t70 := Tryz.underlying174
  a70 := Tryz.isAgg174
  z70 := Tryz.sizeOf174
  v70 := Tryz.zeroValue174
  t72 := Tryz.underlying177
  a72 := Tryz.isAgg177
  z72 := Tryz.sizeOf177
  v72 := Tryz.zeroValue177
  t75 := Tryz.underlying180
  a75 := Tryz.isAgg180
  z75 := Tryz.sizeOf180
  v75 := Tryz.zeroValue180
  t76 := Tryz.underlying181
  a76 := Tryz.isAgg181
  z76 := Tryz.sizeOf181
  v76 := Tryz.zeroValue181
  t127 := Tryz.underlying214
  a127 := Tryz.isAgg214
  z127 := Tryz.sizeOf214
  v127 := Tryz.zeroValue214
  t164 := Tryz.underlying247
  a164 := Tryz.isAgg247
  z164 := Tryz.sizeOf247
  v164 := Tryz.zeroValue247 }
theorem Tryz.Builder_Extra_156 : Builder.Extra Tryz.prog Tryz.lays156_ren := {
  sizeBuilder := by kernel_rfl
  liesBuilder := by kernel_rfl
  t5 := Tryz.underlying5
  a5 := Tryz.isAgg5
  z5 := Tryz.sizeOf5
  v5 := Tryz.zeroValue5
  infoByte := by kernel_rfl
  cellsByte := by kernel_rfl
  sizeByte := by kernel_rfl
  neB5 := by decide }
open Go.RowKit in
/-- No element: the empty string; the world is as it was. (Whatever the slice's address and capacity: a nil slice too.) (LAID: no walk: one application.) -/
theorem Tryz.strings_Join_none (a : Option Addr) (c : Nat) (sep : ByteArray) (w : World) :
    Calls Tryz.prog 93 #[.slice a 0 c, .string sep] w fun e w' => e = .returned (.string ⟨#[]⟩) ∧ w' = w := Any.strings_Join_none Tryz.lays156 Tryz.Builder_Extra_156 a c sep w
open Go.RowKit in
/-- strings.Join: "Join concatenates the elements of its first argument to create a single string. The separator string sep is placed between elements in the resulting string.": HOWEVER MANY ELEMENTS. Below the heap's end the world is as it was. (LAID: no walk: one application.) -/
theorem Tryz.strings_Join (bk o c : Nat) (xs : List ByteArray) (sep : ByteArray) (w : World) (hcells : ∀ (j : Nat) x, xs[j]? = some x → w.cell? ⟨bk, o + j, none⟩ = some (.string x)) (hbk : bk < w.heap.size) (hN : xs.length ≤ 140737488355328) (hcap : xs.length ≤ c) (hlen : (Lib.join (xs.map (·.data.toList)) sep.data.toList).length ≤ 140737488355328) :
    Calls Tryz.prog 93 #[.slice (some ⟨bk, o, none⟩) xs.length c, .string sep] w fun e w' => e = .returned (.string ⟨(Lib.join (xs.map (·.data.toList)) sep.data.toList).toArray⟩) ∧ Below w.heap.size w w' := Any.strings_Join Tryz.lays156 Tryz.Builder_Extra_156 bk o c xs sep w hcells hbk hN hcap hlen
def Tryz.laysM173_ren : Go.Shelf.Ren := ⟨fun | 173 => 114 | 246 => 185 | 283 => 230 | 284 => 231 | 285 => 232 | 286 => 233 | 129 => 260 | 317 => 268 | 318 => 269 | 319 => 270 | 320 => 271 | 337 => 292 | 338 => 293 | n => n, fun | 2 => 2 | 3 => 3 | 9 => 9 | 4 => 4 | 171 => 227 | 0 => 0 | 53 => 203 | 37 => 175 | 5 => 5 | 173 => 230 | 212 => 268 | 51 => 258 | 20 => 20 | 213 => 269 | 46 => 183 | 232 => 299 | 233 => 300 | n => n, fun | 17 => 0 | 18 => 4 | 19 => 5 | n => n⟩
theorem Tryz.laysM173 : Go.Proofs.LaysM.n173 Tryz.prog Tryz.laysM173_ren := {
  mixed := by kernel_rfl
  f129 := Tryz.func260.trans (congrArg some (by kernel_rfl))
  f173 := Tryz.func114.trans (congrArg some (by kernel_rfl))
  f246 := Tryz.func185.trans (congrArg some (by kernel_rfl))
  f283 := Tryz.func230.trans (congrArg some (by kernel_rfl))
  f284 := Tryz.func231.trans (congrArg some (by kernel_rfl))
  f285 := Tryz.func232.trans (congrArg some (by kernel_rfl))
  f286 := Tryz.func233.trans (congrArg some (by kernel_rfl))
  f317 := Tryz.func268.trans (congrArg some (by kernel_rfl))
  f318 := Tryz.func269.trans (congrArg some (by kernel_rfl))
  f319 := Tryz.func270.trans (congrArg some (by kernel_rfl))
  f320 := Tryz.func271.trans (congrArg some (by kernel_rfl))
  f337 := Tryz.func292.trans (congrArg some (by kernel_rfl))
  f338 := Tryz.func293.trans (congrArg some (by kernel_rfl))
  t0 := Tryz.underlying0
  a0 := Tryz.isAgg0
  z0 := Tryz.sizeOf0
  v0 := Tryz.zeroValue0
  t2 := Tryz.underlying2
  a2 := Tryz.isAgg2
  z2 := Tryz.sizeOf2
  v2 := Tryz.zeroValue2
  t3 := Tryz.underlying3
  a3 := Tryz.isAgg3
  z3 := Tryz.sizeOf3
  v3 := Tryz.zeroValue3
  t4 := Tryz.underlying4
  a4 := Tryz.isAgg4
  z4 := Tryz.sizeOf4
  v4 := Tryz.zeroValue4
  t5 := Tryz.underlying5
  a5 := Tryz.isAgg5
  z5 := Tryz.sizeOf5
  v5 := Tryz.zeroValue5
  t9 := Tryz.underlying9
  a9 := Tryz.isAgg9
  z9 := Tryz.sizeOf9
  v9 := Tryz.zeroValue9
  t20 := Tryz.underlying20
  a20 := Tryz.isAgg20
  z20 := Tryz.sizeOf20
  v20 := Tryz.zeroValue20
  t37 := Tryz.underlying175
  a37 := Tryz.isAgg175
  z37 := Tryz.sizeOf175
  v37 := Tryz.zeroValue175
  t46 := Tryz.underlying183
  a46 := Tryz.isAgg183
  z46 := Tryz.sizeOf183
  v46 := Tryz.zeroValue183
  t51 := Tryz.underlying258
  a51 := Tryz.isAgg258
  z51 := Tryz.sizeOf258
  v51 := Tryz.zeroValue258
  t53 := Tryz.underlying203
  a53 := Tryz.isAgg203
  z53 := Tryz.sizeOf203
  v53 := Tryz.zeroValue203
  t171 := Tryz.underlying227
  a171 := Tryz.isAgg227
  z171 := Tryz.sizeOf227
  v171 := Tryz.zeroValue227
  t173 := Tryz.underlying230
  a173 := Tryz.isAgg230
  z173 := Tryz.sizeOf230
  v173 := Tryz.zeroValue230
  t212 := Tryz.underlying268
  a212 := Tryz.isAgg268
  z212 := Tryz.sizeOf268
  v212 := Tryz.zeroValue268
  t213 := Tryz.underlying269
  a213 := Tryz.isAgg269
  z213 := Tryz.sizeOf269
  t232 := Tryz.underlying299
  a232 := Tryz.isAgg299
  z232 := Tryz.sizeOf299
  v232 := Tryz.zeroValue299
  t233 := Tryz.underlying300
  a233 := Tryz.isAgg300
  z233 := Tryz.sizeOf300
  v233 := Tryz.zeroValue300
  g17 := by kernel_rfl
  g18 := by kernel_rfl
  g19 := by kernel_rfl
  i0 := by kernel_rfl
  i2 := by kernel_rfl
  i3 := by kernel_rfl
  i4 := by kernel_rfl
  i5 := by kernel_rfl
  i9 := by kernel_rfl
  i20 := by kernel_rfl
  i37 := by kernel_rfl
  i46 := by kernel_rfl
  i51 := by kernel_rfl
  i53 := by kernel_rfl
  i171 := by kernel_rfl
  i173 := by kernel_rfl
  i212 := by kernel_rfl
  i232 := by kernel_rfl
  i233 := by kernel_rfl
  m17 := by kernel_rfl
  m18 := by kernel_rfl
  m19 := by kernel_rfl }
open Go.RowKit Go.Sort Go.Lib in
/-- strconv.FormatInt: "FormatInt returns the string representation of i in the given base": AT BASE 10: i's decimal numeral, for every int64. (LAID: no walk: one application.) -/
theorem Tryz.strconv_FormatInt_10 (n : Int) (h0 : -9223372036854775808 ≤ n) (h1 : n ≤ 9223372036854775807) (w : World) (htab : Lib.TabIs Tryz.prog w "internal/strconv.uint64pow10" .u64 Lib.pow10Tab) :
    Calls Tryz.prog 114 #[.int .i64 n, .int .i64 10] w fun e w' => e = .returned (.string ⟨(Lib.itoa n).toArray⟩) ∧ ∃ k os, w' = grow (w.drewN k) os := Any.strconv_FormatInt_10 Tryz.laysM173 n h0 h1 w htab
def Tryz.lays146_ren : Go.Shelf.Ren := ⟨fun | 146 => 247 | 221 => 284 | 268 => 300 | 138 => 301 | 143 => 302 | 195 => 306 | 197 => 307 | 218 => 308 | 219 => 309 | 260 => 311 | 217 => 238 | 225 => 312 | 224 => 313 | 267 => 314 | 266 => 276 | 314 => 316 | n => n, fun | 9 => 9 | 31 => 131 | 3 => 3 | 4 => 4 | 0 => 0 | 105 => 305 | 21 => 21 | 5 => 5 | 46 => 183 | 119 => 307 | 139 => 310 | 138 => 309 | 146 => 288 | 51 => 258 | n => n, fun | 1 => 1 | 3 => 6 | 4 => 7 | n => n⟩
theorem Tryz.lays146 : Go.Proofs.Lays.n146 Tryz.prog Tryz.lays146_ren := {
  mixed := by kernel_rfl
  f138 := Tryz.func301.trans (congrArg some (by kernel_rfl))
  f143 := Tryz.func302.trans (congrArg some (by kernel_rfl))
  f146 := Tryz.func247.trans (congrArg some (by kernel_rfl))
  f195 := Tryz.func306.trans (congrArg some (by kernel_rfl))
  f197 := Tryz.func307.trans (congrArg some (by kernel_rfl))
  f217 := Tryz.func238.trans (congrArg some (by kernel_rfl))
  f218 := Tryz.func308.trans (congrArg some (by kernel_rfl))
  f219 := Tryz.func309.trans (congrArg some (by kernel_rfl))
  f221 := Tryz.func284.trans (congrArg some (by kernel_rfl))
  f224 := Tryz.func313.trans (congrArg some (by kernel_rfl))
  f225 := Tryz.func312.trans (congrArg some (by kernel_rfl))
  f260 := Tryz.func311.trans (congrArg some (by kernel_rfl))
  f266 := Tryz.func276.trans (congrArg some (by kernel_rfl))
  f267 := Tryz.func314.trans (congrArg some (by kernel_rfl))
  f268 := Tryz.func300.trans (congrArg some (by kernel_rfl))
  f314 := Tryz.func316.trans (congrArg some (by kernel_rfl))
  t0 := Tryz.underlying0
  a0 := Tryz.isAgg0
  z0 := Tryz.sizeOf0
  v0 := Tryz.zeroValue0
  t3 := Tryz.underlying3
  a3 := Tryz.isAgg3
  z3 := Tryz.sizeOf3
  v3 := Tryz.zeroValue3
  t4 := Tryz.underlying4
  a4 := Tryz.isAgg4
  z4 := Tryz.sizeOf4
  v4 := Tryz.zeroValue4
  t5 := Tryz.underlying5
  a5 := Tryz.isAgg5
  z5 := Tryz.sizeOf5
  v5 := Tryz.zeroValue5
  t9 := Tryz.underlying9
  a9 := Tryz.isAgg9
  z9 := Tryz.sizeOf9
  v9 := Tryz.zeroValue9
  t21 := Tryz.underlying21
  a21 := Tryz.isAgg21
  z21 := Tryz.sizeOf21
  v21 := Tryz.zeroValue21
  t31 := Tryz.underlying131
  a31 := Tryz.isAgg131
  z31 := Tryz.sizeOf131
  v31 := Tryz.zeroValue131
  t46 := Tryz.underlying183
  a46 := Tryz.isAgg183
  z46 := Tryz.sizeOf183
  v46 := Tryz.zeroValue183
  t51 := Tryz.underlying258
  a51 := Tryz.isAgg258
  z51 := Tryz.sizeOf258
  v51 := Tryz.zeroValue258
  t105 := Tryz.underlying305
  a105 := Tryz.isAgg305
  z105 := Tryz.sizeOf305
  v105 := Tryz.zeroValue305
  t119 := Tryz.underlying307
  a119 := Tryz.isAgg307
  z119 := Tryz.sizeOf307
  t138 := Tryz.underlying309
  a138 := Tryz.isAgg309
  z138 := Tryz.sizeOf309
  v138 := Tryz.zeroValue309
  t139 := Tryz.underlying310
  a139 := Tryz.isAgg310
  z139 := Tryz.sizeOf310
  v139 := Tryz.zeroValue310
  t146 := Tryz.underlying288
  a146 := Tryz.isAgg288
  z146 := Tryz.sizeOf288
  v146 := Tryz.zeroValue288
  g1 := by kernel_rfl
  g3 := by kernel_rfl
  g4 := by kernel_rfl }
open Go.RowKit Go.Lib in
/-- strings.Split. (LAID: no walk: one application.) -/
theorem Tryz.strings_Split (s sep : ByteArray) (m : Int) (w : World) (hs : s.size < 4294967281) (hm : w.cell? ⟨1, 0, none⟩ = some (.int .i64 m)) (h1 : 1 ≤ sep.size) :
    Calls Tryz.prog 247 #[.string s, .string sep] w fun e w' =>
      e = .returned (.slice (some ⟨w.heap.size, 0, none⟩) (Lib.countB s sep + 1) (Lib.countB s sep + 1)) ∧ w' = w.alloc (.cells ((Lib.splitB sep 0 (Lib.countB s sep) s).map Value.string).toArray 9) := Any.strings_Split Tryz.lays146 (by kernel_rfl) s sep m w hs hm h1
def Tryz.lays105_ren : Go.Shelf.Ren := ⟨fun | 105 => 235 | 212 => 272 | 99 => 133 | 165 => 166 | 166 => 167 | 170 => 273 | 169 => 168 | 263 => 294 | 264 => 295 | 206 => 196 | 240 => 213 | 241 => 214 | 276 => 248 | 277 => 249 | n => n, fun | 9 => 9 | 3 => 3 | 4 => 4 | 20 => 20 | 0 => 0 | 46 => 183 | 109 => 270 | 5 => 5 | 72 => 177 | 76 => 181 | 51 => 258 | 146 => 288 | 53 => 203 | 148 => 290 | 70 => 174 | 37 => 175 | 75 => 180 | 127 => 214 | 164 => 247 | 80 => 154 | n => n, fun | n => n⟩
theorem Tryz.lays105 : Go.Proofs.Lays.n105 Tryz.prog Tryz.lays105_ren := {
  mixed := by kernel_rfl
  f99 := Tryz.func133.trans (congrArg some (by kernel_rfl))
  f105 := Tryz.func235.trans (congrArg some (by kernel_rfl))
  f165 := Tryz.func166.trans (congrArg some (by kernel_rfl))
  f166 := Tryz.func167.trans (congrArg some (by kernel_rfl))
  f169 := Tryz.func168.trans (congrArg some (by kernel_rfl))
  f170 := Tryz.func273.trans (congrArg some (by kernel_rfl))
  f206 := Tryz.func196.trans (congrArg some (by kernel_rfl))
  f212 := Tryz.func272.trans (congrArg some (by kernel_rfl))
  f240 := Tryz.func213.trans (congrArg some (by kernel_rfl))
  f241 := Tryz.func214.trans (congrArg some (by kernel_rfl))
  f263 := Tryz.func294.trans (congrArg some (by kernel_rfl))
  f264 := Tryz.func295.trans (congrArg some (by kernel_rfl))
  f276 := Tryz.func248.trans (congrArg some (by kernel_rfl))
  f277 := Tryz.func249.trans (congrArg some (by kernel_rfl))
  t0 := Tryz.underlying0
  a0 := Tryz.isAgg0
  z0 := Tryz.sizeOf0
  v0 := Tryz.zeroValue0
  t3 := Tryz.underlying3
  a3 := Tryz.isAgg3
  z3 := Tryz.sizeOf3
  v3 := Tryz.zeroValue3
  t4 := Tryz.underlying4
  a4 := Tryz.isAgg4
  z4 := Tryz.sizeOf4
  v4 := Tryz.zeroValue4
  t5 := Tryz.underlying5
  a5 := Tryz.isAgg5
  z5 := Tryz.sizeOf5
  v5 := Tryz.zeroValue5
  t9 := Tryz.underlying9
  a9 := Tryz.isAgg9
  z9 := Tryz.sizeOf9
  v9 := Tryz.zeroValue9
  t20 := Tryz.underlying20
  a20 := Tryz.isAgg20
  z20 := Tryz.sizeOf20
  v20 := Tryz.zeroValue20
  t37 := Tryz.underlying175
  a37 := Tryz.isAgg175
  z37 := Tryz.sizeOf175
  v37 := Tryz.zeroValue175
  t46 := Tryz.underlying183
  a46 := Tryz.isAgg183
  z46 := Tryz.sizeOf183
  v46 := Tryz.zeroValue183
  t51 := Tryz.underlying258
  a51 := Tryz.isAgg258
  z51 := Tryz.sizeOf258
  v51 := Tryz.zeroValue258
  t53 := Tryz.underlying203
  a53 := Tryz.isAgg203
  z53 := Tryz.sizeOf203
  v53 := Tryz.zeroValue203
  t70 := Tryz.underlying174
  a70 := Tryz.isAgg174
  z70 := Tryz.sizeOf174
  v70 := Tryz.zeroValue174
  t72 := Tryz.underlying177
  a72 := Tryz.isAgg177
  z72 := Tryz.sizeOf177
  v72 := Tryz.zeroValue177
  t75 := Tryz.underlying180
  a75 := Tryz.isAgg180
  z75 := Tryz.sizeOf180
  v75 := Tryz.zeroValue180
  t76 := Tryz.underlying181
  a76 := Tryz.isAgg181
  z76 := Tryz.sizeOf181
  v76 := Tryz.zeroValue181
  t109 := Tryz.underlying270
  a109 := Tryz.isAgg270
  z109 := Tryz.sizeOf270
  v109 := Tryz.zeroValue270
  t127 := Tryz.underlying214
  a127 := Tryz.isAgg214
  z127 := Tryz.sizeOf214
  v127 := Tryz.zeroValue214
  t146 := Tryz.underlying288
  a146 := Tryz.isAgg288
  z146 := Tryz.sizeOf288
  v146 := Tryz.zeroValue288
  t148 := Tryz.underlying290
  a148 := Tryz.isAgg290
  z148 := Tryz.sizeOf290
  v148 := Tryz.zeroValue290
  t164 := Tryz.underlying247
  a164 := Tryz.isAgg247
  z164 := Tryz.sizeOf247
  v164 := Tryz.zeroValue247 }
theorem Tryz.Builder_Extra_105 : Builder.Extra Tryz.prog Tryz.lays105_ren := {
  sizeBuilder := by kernel_rfl
  liesBuilder := by kernel_rfl
  t5 := Tryz.underlying5
  a5 := Tryz.isAgg5
  z5 := Tryz.sizeOf5
  v5 := Tryz.zeroValue5
  infoByte := by kernel_rfl
  cellsByte := by kernel_rfl
  sizeByte := by kernel_rfl
  neB5 := by decide }
open Go.RowKit Go.Lib in
/-- **strings.Repeat: count ≥ 0, the result within one allocation: count copies of s.** (LAID: no walk: one application.) -/
theorem Tryz.strings_Repeat (s : ByteArray) (c : Nat) (w : World) (hc : c ≤ 9223372036854775807) (hlen : s.size * c ≤ 140737488355328) :
    Calls Tryz.prog 235 #[.string s, .int .i64 c] w fun e w' => e = .returned (.string ⟨(Lib.repeatL s.data.toList c).toArray⟩) ∧ Below w.heap.size w w' := Any.strings_Repeat Tryz.lays105 Tryz.Builder_Extra_105 s c w hc hlen
def Tryz.laysQ_ren : Go.Shelf.Ren := ⟨fun | 166 => 167 | 167 => 186 | 169 => 168 | 240 => 213 | 276 => 248 | n => n, fun | 31 => 131 | 72 => 177 | 76 => 181 | 70 => 174 | 37 => 175 | 75 => 180 | 127 => 214 | 164 => 247 | 80 => 154 | n => n, fun | n => n⟩
theorem Tryz.laysQ166 : Go.Proofs.Lays.n166 Tryz.prog Tryz.laysQ_ren := {
  mixed := by kernel_rfl
  f166 := Tryz.func167.trans (congrArg some (by kernel_rfl))
  f240 := Tryz.func213.trans (congrArg some (by kernel_rfl))
  f276 := Tryz.func248.trans (congrArg some (by kernel_rfl))
  t0 := Tryz.underlying0
  a0 := Tryz.isAgg0
  z0 := Tryz.sizeOf0
  v0 := Tryz.zeroValue0
  t3 := Tryz.underlying3
  a3 := Tryz.isAgg3
  z3 := Tryz.sizeOf3
  v3 := Tryz.zeroValue3
  t4 := Tryz.underlying4
  a4 := Tryz.isAgg4
  z4 := Tryz.sizeOf4
  v4 := Tryz.zeroValue4
  t9 := Tryz.underlying9
  a9 := Tryz.isAgg9
  z9 := Tryz.sizeOf9
  v9 := Tryz.zeroValue9
  t20 := Tryz.underlying20
  a20 := Tryz.isAgg20
  z20 := Tryz.sizeOf20
  v20 := Tryz.zeroValue20
  t37 := Tryz.underlying175
  a37 := Tryz.isAgg175
  z37 := Tryz.sizeOf175
  v37 := Tryz.zeroValue175
  t70 := Tryz.underlying174
  a70 := Tryz.isAgg174
  z70 := Tryz.sizeOf174
  v70 := Tryz.zeroValue174
  t72 := Tryz.underlying177
  a72 := Tryz.isAgg177
  z72 := Tryz.sizeOf177
  v72 := Tryz.zeroValue177
  t75 := Tryz.underlying180
  a75 := Tryz.isAgg180
  z75 := Tryz.sizeOf180
  v75 := Tryz.zeroValue180
  t164 := Tryz.underlying247
  a164 := Tryz.isAgg247
  z164 := Tryz.sizeOf247
  v164 := Tryz.zeroValue247 }
theorem Tryz.laysQ167 : Go.Proofs.Lays.n167 Tryz.prog Tryz.laysQ_ren := {
  mixed := by kernel_rfl
  f167 := Tryz.func186.trans (congrArg some (by kernel_rfl))
  f240 := Tryz.func213.trans (congrArg some (by kernel_rfl))
  f276 := Tryz.func248.trans (congrArg some (by kernel_rfl))
  t0 := Tryz.underlying0
  a0 := Tryz.isAgg0
  z0 := Tryz.sizeOf0
  v0 := Tryz.zeroValue0
  t4 := Tryz.underlying4
  a4 := Tryz.isAgg4
  z4 := Tryz.sizeOf4
  v4 := Tryz.zeroValue4
  t5 := Tryz.underlying5
  a5 := Tryz.isAgg5
  z5 := Tryz.sizeOf5
  v5 := Tryz.zeroValue5
  t9 := Tryz.underlying9
  a9 := Tryz.isAgg9
  z9 := Tryz.sizeOf9
  v9 := Tryz.zeroValue9
  t20 := Tryz.underlying20
  a20 := Tryz.isAgg20
  z20 := Tryz.sizeOf20
  v20 := Tryz.zeroValue20
  t37 := Tryz.underlying175
  a37 := Tryz.isAgg175
  z37 := Tryz.sizeOf175
  v37 := Tryz.zeroValue175
  t70 := Tryz.underlying174
  a70 := Tryz.isAgg174
  z70 := Tryz.sizeOf174
  v70 := Tryz.zeroValue174
  t72 := Tryz.underlying177
  a72 := Tryz.isAgg177
  z72 := Tryz.sizeOf177
  v72 := Tryz.zeroValue177
  t75 := Tryz.underlying180
  a75 := Tryz.isAgg180
  z75 := Tryz.sizeOf180
  v75 := Tryz.zeroValue180
  t164 := Tryz.underlying247
  a164 := Tryz.isAgg247
  z164 := Tryz.sizeOf247
  v164 := Tryz.zeroValue247 }
theorem Tryz.laysQ169 : Go.Proofs.Lays.n169 Tryz.prog Tryz.laysQ_ren := {
  mixed := by kernel_rfl
  f169 := Tryz.func168.trans (congrArg some (by kernel_rfl))
  t0 := Tryz.underlying0
  a0 := Tryz.isAgg0
  z0 := Tryz.sizeOf0
  v0 := Tryz.zeroValue0
  t3 := Tryz.underlying3
  a3 := Tryz.isAgg3
  z3 := Tryz.sizeOf3
  v3 := Tryz.zeroValue3
  t9 := Tryz.underlying9
  a9 := Tryz.isAgg9
  z9 := Tryz.sizeOf9
  v9 := Tryz.zeroValue9
  t37 := Tryz.underlying175
  a37 := Tryz.isAgg175
  z37 := Tryz.sizeOf175
  v37 := Tryz.zeroValue175
  t70 := Tryz.underlying174
  a70 := Tryz.isAgg174
  z70 := Tryz.sizeOf174
  v70 := Tryz.zeroValue174
  t72 := Tryz.underlying177
  a72 := Tryz.isAgg177
  z72 := Tryz.sizeOf177
  v72 := Tryz.zeroValue177
  t127 := Tryz.underlying214
  a127 := Tryz.isAgg214
  z127 := Tryz.sizeOf214
  v127 := Tryz.zeroValue214 }
theorem Tryz.Builder_Extra_Q : Builder.Extra Tryz.prog Tryz.laysQ_ren := {
  sizeBuilder := by kernel_rfl
  liesBuilder := by kernel_rfl
  t5 := Tryz.underlying5
  a5 := Tryz.isAgg5
  z5 := Tryz.sizeOf5
  v5 := Tryz.zeroValue5
  infoByte := by kernel_rfl
  cellsByte := by kernel_rfl
  sizeByte := by kernel_rfl
  neB5 := by decide }
open Go.RowKit in
theorem Tryz.WriteByte_k (B b : Nat) (bs : List Value) (c : Int) (w : World) (h : Lib.IsBuilderF 177 5 B b bs w) (hlen : bs.length + 1 ≤ 140737488355328) (hBw : B ≤ w.heap.size) :
    Calls Tryz.prog 186 #[.pointer (some ⟨b, 0, none⟩), .int .u8 c] w fun e w' => e = .returned .nilIface ∧ (Lib.BuilderAtF 177 5 B b (.pointer (some ⟨b, 0, none⟩)) (bs ++ [.int .u8 c]) w' ∧ Below B w w' ∧ Lib.OthersKept 5 (some b) w w') := Any.Builder_WriteByte_k Tryz.laysQ167 Tryz.Builder_Extra_Q B b bs c w h hlen hBw
open Go.RowKit in
theorem Tryz.WriteString_k (B b : Nat) (bs : List Value) (s : ByteArray) (w : World) (h : Lib.IsBuilderF 177 5 B b bs w) (hlen : bs.length + s.size ≤ 140737488355328) (hBw : B ≤ w.heap.size) :
    Calls Tryz.prog 167 #[.pointer (some ⟨b, 0, none⟩), .string s] w fun e w' => e = .returned (.tuple #[.int .i64 s.size, .nilIface]) ∧ (Lib.BuilderAtF 177 5 B b (.pointer (some ⟨b, 0, none⟩)) (bs ++ Lib.strCells s) w' ∧ Below B w w' ∧ Lib.OthersKept 5 (some b) w w') := Any.Builder_WriteString_k Tryz.laysQ166 Tryz.Builder_Extra_Q B b bs s w h hlen hBw
open Go.RowKit in
theorem Tryz.String_any_k (B b : Nat) (l : List UInt8) (w : World) (h : Lib.IsBuilderF 177 5 B b (Lib.byteCells l) w) (hBw : B ≤ w.heap.size) :
    Calls Tryz.prog 168 #[.pointer (some ⟨b, 0, none⟩)] w fun e w' => e = .returned (.string ⟨l.toArray⟩) ∧ (Lib.IsBuilderF 177 5 B b (Lib.byteCells l) w' ∧ Below B w w' ∧ Lib.OthersKept 5 (some b) w w') := Any.Builder_String_any_k Tryz.laysQ169 Tryz.Builder_Extra_Q B b l w h hBw
end Go.Proofs

namespace Go.Vm
open Go Go.Proofs Go.RowKit
theorem glob0 : Tryz.prog.globalNamed "internal/strconv.uint64pow10" = some 0 := by kernel_rfl
theorem J0_stable : Stable J0 := by
  rintro w w' C C' hC hw ⟨h0, h1, h2, m, h3⟩
  refine ⟨hC _ h0, hC _ h1, ?_, m, ?_⟩
  · unfold Lib.TabIs World.var? at h2 ⊢
    rw [glob0] at h2 ⊢
    simp only [Option.bind_some] at h2 ⊢
    rw [hw 0 h0]
    exact h2
  · unfold World.cell? at h3 ⊢
    rw [hw 1 h1]
    exact h3
theorem m0_ok {w w' : World} {g : Gh} {C : Nat → Prop} (hm : MemOk w g m0) (hC : ∀ h, C h → h < w'.heap.size) : MemOk w' { g with C := C } m0 := by
  refine ⟨hm.nb, hm.nt, hm.nm, ?_, ?_, ?_, ?_, fun h hh => ⟨hC h hh, fun l hl => ?_⟩⟩
  · intro b cs h; simp [m0] at h
  · intro b cs h; simp [m0] at h
  · intro b cs h; simp [m0] at h
  · intro l l' hl; cases l <;> simp [Held, m0] at hl
  · cases l <;> simp [Held, m0] at hl
/-- A call that hands back data, having laid some blocks. -/
theorem snd_data {f : FuncId} {args : List V} {r : V} (he : Enters Tryz.prog f)
    (h : ∀ (w : World) (g : Gh) (A : Array Value), J0 w g.C → VRL w g args A → MemOk w g m0 → Calls Tryz.prog f A w fun e w' => ∃ mv, ∃ N : Nat → Prop, e = .returned mv ∧ Below w.heap.size w w' ∧ (∀ x, N x → w.heap.size ≤ x ∧ x < w'.heap.size) ∧ DR w' (fun x => g.C x ∨ N x) r mv) :
    Snd Tryz.prog J0 f args m0 r m0 := by
  refine ⟨he, fun w g A hJ hA hm => (h w g A hJ hA hm).mono ?_⟩
  rintro e w' ⟨mv, N, rfl, hb, hN, hd⟩
  have hoff : ∀ x, Off m0 g x := fun x l hl => by cases l <;> simp [Held, m0] at hl
  have hC : ∀ x, g.C x ∨ N x → x < w'.heap.size := fun x hx => by
    rcases hx with hx | hx
    · exact Nat.lt_of_lt_of_le (hm.com x hx).1 hb.size
    · exact (hN x hx).2
  refine ⟨mv, { g with C := fun x => g.C x ∨ N x }, rfl, .data hd, m0_ok hm hC, ⟨fun b hb => by simp [m0] at hb, fun x hx => .inl hx, hb.os, hb.tape, hb.output, hb.size, fun x hx _ => hb.block x hx, fun x hx _ hc => ?_, fun x hx _ l hl => by cases l <;> simp [Held, m0] at hl⟩⟩
  rcases hc with hc | hc
  · exact hc
  · have := (hN x hc).1
    omega
theorem snd_str {f : FuncId} {args : List V} {s : ByteArray} (he : Enters Tryz.prog f)
    (h : ∀ (w : World) (g : Gh) (A : Array Value), J0 w g.C → VRL w g args A → MemOk w g m0 → Calls Tryz.prog f A w fun e w' => e = .returned (.string s) ∧ Below w.heap.size w w') : Snd Tryz.prog J0 f args m0 (.str s) m0 :=
  snd_data he fun w g A hJ hA hm => (h w g A hJ hA hm).mono fun e w' => fun ⟨h1, h2⟩ => ⟨_, fun _ => False, h1, h2, fun _ h => h.elim, .str s⟩
theorem args1 {w : World} {g : Gh} {a : V} {A : Array Value} (h : VRL w g [a] A) : ∃ x, A = #[x] ∧ VR w g a x := by
  obtain ⟨h1, h2⟩ := h
  obtain ⟨l⟩ := A
  match l, h1 with
  | [x], _ => exact ⟨x, rfl, by simpa using h2 0 a rfl⟩
theorem args2 {w : World} {g : Gh} {a b : V} {A : Array Value} (h : VRL w g [a, b] A) : ∃ x y, A = #[x, y] ∧ VR w g a x ∧ VR w g b y := by
  obtain ⟨h1, h2⟩ := h
  obtain ⟨l⟩ := A
  match l, h1 with
  | [x, y], _ => exact ⟨x, y, rfl, by simpa using h2 0 a rfl, by simpa using h2 1 b rfl⟩
theorem enters_of' {f : FuncId} {fn : Func} (h : Tryz.prog.funcs[f]? = some fn) (hb : fn.body.isNone = false) (hn : (fn.name == "runtime.NumGoroutine") = false) : Enters Tryz.prog f := ⟨fn, h, hb, hn⟩
theorem grow_below (w : World) (k : Nat) (os : Array Obj) : Below w.heap.size w (Go.Sort.grow (w.drewN k) os) := by
  refine ⟨rfl, rfl, rfl, by simp [Go.Sort.grow, World.drewN], fun x hx => ?_⟩
  simp only [Go.Sort.grow, World.drewN]
  rw [Array.getElem?_append_left hx]
theorem snd_fmt (n : Int) (h0 : -9223372036854775808 ≤ n) (h1 : n ≤ 9223372036854775807) : Snd Tryz.prog J0 114 [.int .i64 n, .int .i64 10] m0 (.str (bs (Lib.itoa n))) m0 := by
  refine snd_str (enters_of' Tryz.func114 (by kernel_rfl) (by kernel_rfl)) fun w g A hJ hA hm => ?_
  obtain ⟨x, y, rfl, hx, hy⟩ := args2 hA
  obtain rfl := hx.int_inv
  obtain rfl := hy.int_inv
  refine (Tryz.strconv_FormatInt_10 n h0 h1 w hJ.2.2.1).mono ?_
  rintro e w' ⟨h1, k, os, rfl⟩
  exact ⟨h1, grow_below w k os⟩
theorem repeat_rep (k : Nat) : Lib.repeatL [48] k = List.replicate k 48 := by
  have := Lib.repeatL_replicate 48 1 k
  simpa using this
theorem snd_rep (k : Nat) (hk : k ≤ 4) : Snd Tryz.prog J0 235 [.str (bs [48]), .int .i64 k] m0 (.str (bs (List.replicate k 48))) m0 := by
  refine snd_str (enters_of' Tryz.func235 (by kernel_rfl) (by kernel_rfl)) fun w g A hJ hA hm => ?_
  obtain ⟨x, y, rfl, hx, hy⟩ := args2 hA
  obtain rfl := hx.str_inv
  obtain rfl := hy.int_inv
  refine (Tryz.strings_Repeat (bs [48]) k w (by omega) (by simp; omega)).mono ?_
  rintro e w' ⟨h1, h2⟩
  refine ⟨?_, h2⟩
  rw [h1]
  have : (bs [48]).data.toList = [48] := rfl
  rw [this, repeat_rep]
  rfl
theorem joinS_eq (sep : S) : ∀ ss : List S, joinS sep ss = Lib.join ss sep
  | [] => rfl
  | [x] => (Lib.join_one x sep).symm
  | x :: y :: r => by
    rw [joinS, joinS_eq sep (y :: r), Lib.join_cons, Lib.join_cons]
    simp [Lib.joinTail]
theorem snd_join (ss : List S) (sep : S) (hl : ss.length ≤ 140737488355328) (hj : (joinS sep ss).length ≤ 140737488355328) :
    Snd Tryz.prog J0 93 [.sl (ss.map fun s => [.str (bs s)]), .str (bs sep)] m0 (.str (bs (joinS sep ss))) m0 := by
  refine snd_str (enters_of' Tryz.func93 (by kernel_rfl) (by kernel_rfl)) fun w g A hJ hA hm => ?_
  obtain ⟨x, y, rfl, hx, hy⟩ := args2 hA
  obtain rfl := hy.str_inv
  have hx := hx.sl_inv
  generalize hxs : (ss.map fun s => [V.str (bs s)]) = xs at hx
  cases hx with
  | sl0 A cap =>
    obtain rfl : ss = [] := by simpa using hxs
    refine (Tryz.strings_Join_none A cap (bs sep) w).mono ?_
    rintro e w' ⟨h1, rfl⟩
    exact ⟨h1, Below.refl _ _⟩
  | sl xs gb off cap sz arr e fr h1 h2 h3 h4 h5 h6 h7 =>
    subst hxs
    have hsz : ss ≠ [] → sz = 1 := fun hne => by
      obtain ⟨a, r, rfl⟩ := List.exists_cons_of_ne_nil hne
      exact (h4 [.str (bs a)] (by simp)).symm
    have hcell : ∀ (j : Nat) x, (ss.map bs)[j]? = some x → w.cell? ⟨gb, off + j, none⟩ = some (.string x) := fun j x hx => by
      rw [List.getElem?_map, Option.map_eq_some_iff] at hx
      obtain ⟨a, ha, rfl⟩ := hx
      have hlt := (List.getElem?_eq_some_iff.1 ha).1
      have hs1 := hsz (by rintro rfl; simp at ha)
      subst hs1
      have hd := h6 j [.str (bs a)] 0 (.str (bs a)) (by simp [ha]) rfl
      simp only [Nat.mul_one, Nat.add_zero] at hd h5
      have hin : off + j < arr.size := by simp at h5; omega
      have : arr.getD (off + j) undef = .string (bs a) := by
        generalize arr.getD (off + j) undef = v at hd
        cases hd
        rfl
      simp only [World.cell?, h2]
      rw [Array.getElem?_eq_getElem hin]
      rw [Array.getD_eq_getD_getElem?, Array.getElem?_eq_getElem hin] at this
      simpa using this
    have hmap : (ss.map bs).map (·.data.toList) = ss := by
      rw [List.map_map]
      exact (List.map_congr_left fun a _ => rfl).trans (List.map_id ss)
    have hsep : (bs sep).data.toList = sep := rfl
    have := Tryz.strings_Join gb off cap (ss.map bs) (bs sep) w hcell (hm.com gb h1).1 (by simpa using hl) (by simpa using h3) (by rw [hmap, hsep, ← joinS_eq]; exact hj)
    rw [hmap, hsep, ← joinS_eq] at this
    simpa using this
theorem signs_split : (Lib.splitB (bs [32]) 0 (Lib.countB (bs signTable) (bs [32])) (bs signTable)) = signs.map bs := by kernel_rfl
theorem signs_count : Lib.countB (bs signTable) (bs [32]) = 19 := by kernel_rfl
theorem snd_split : Snd Tryz.prog J0 247 [.str (bs signTable), .str (bs [32])] m0 (.sl (signs.map fun s => [.str (bs s)])) m0 := by
  refine snd_data (enters_of' Tryz.func247 (by kernel_rfl) (by kernel_rfl)) fun w g A hJ hA hm => ?_
  obtain ⟨x, y, rfl, hx, hy⟩ := args2 hA
  obtain rfl := hx.str_inv
  obtain rfl := hy.str_inv
  obtain ⟨m, hM⟩ := hJ.2.2.2
  refine (Tryz.strings_Split (bs signTable) (bs [32]) m w (by simp [signTable]) hM (by simp)).mono ?_
  rintro e w' ⟨rfl, rfl⟩
  rw [signs_split, signs_count]
  have hsz : (w.alloc (.cells ((signs.map bs).map Value.string).toArray 9)).heap[w.heap.size]? = some (.cells ((signs.map bs).map Value.string).toArray 9 (0, 0)) := by
    show (w.heap.push _)[w.heap.size]? = _
    rw [Array.getElem?_push_size]
  refine ⟨_, fun x => x = w.heap.size, rfl, (Below.refl _ w).alloc (Nat.le_refl _) _, fun x hx => ?_, ?_⟩
  · subst hx
    exact ⟨Nat.le_refl _, by simp⟩
  · refine .sl (signs.map fun s => [.str (bs s)]) w.heap.size 0 20 1 ((signs.map bs).map Value.string).toArray 9 (0, 0) (.inr rfl) hsz (by simp [signs]) ?_ (by simp [signs]) ?_ ?_
    · intro x hx
      obtain ⟨a, _, rfl⟩ := List.mem_map.1 hx
      rfl
    · intro i x j u hx hu
      rw [List.getElem?_map, Option.map_eq_some_iff] at hx
      obtain ⟨a, ha, rfl⟩ := hx
      obtain rfl : j = 0 := by
        have := (List.getElem?_eq_some_iff.1 hu).1
        simp at this
        exact this
      simp only [List.getElem?_cons_zero, Option.some.injEq] at hu
      subst hu
      have : (((signs.map bs).map Value.string).toArray).getD (0 + i * 1 + 0) undef = .string (bs a) := by
        simp [Array.getD_eq_getD_getElem?, ha]
      rw [this]
      exact .str _
    · intro i hi
      have hi' : i < signs.length := by simpa using hi
      have : (((signs.map bs).map Value.string).toArray).getD (0 + i) undef = .string (bs signs[i]) := by
        simp [Array.getD_eq_getD_getElem?, hi']
      rw [this]
      rfl
end Go.Vm

namespace Go.Vm
open Go Go.Proofs Go.RowKit
theorem quoteIn_take {l : S} {i : Nat} (h : i < l.length) : quoteIn (l.take (i + 1)) = quoteIn (l.take i) ++ quoteC l[i] := by
  unfold quoteIn
  rw [List.take_add_one, List.flatMap_append, List.getElem?_eq_getElem h]
  simp
theorem below_heap {w w' : World} (h : Below w.heap.size w w') {k : Nat} {o : Obj} (hk : w.heap[k]? = some o) : w'.heap[k]? = some o := by
  rw [h.block k (Array.getElem?_eq_some_iff.1 hk).1, hk]
theorem builder_below {w w' : World} (h : Below w.heap.size w w') {T e : TypeId} {B b : Nat} {bs : List Value} (hI : Lib.IsBuilderF T e B b bs w) : Lib.IsBuilderF T e B b bs w' := by
  have key : ∀ p, Lib.BuilderAtF T e B b p bs w → Lib.BuilderAtF T e B b p bs w' := by
    rintro p ⟨h1, v, h2, ⟨h3, h4⟩, h5⟩
    refine ⟨h1, v, below_heap h h2, ⟨h3, ?_⟩, h5⟩
    rcases h4 with h4 | ⟨g, cap, cur, fz, q1, q2, q3, q4⟩
    · exact .inl h4
    · exact .inr ⟨g, cap, cur, fz, q1, q2, below_heap h q3, q4⟩
  exact hI.elim (fun x => .inl (key _ x)) (fun x => .inr (key _ x))
/-- The kit's own form of what the abstract machine says of a call that takes texts and hands back a text. -/
theorem snd_call1 {f : FuncId} {a r : ByteArray} (h : Snd Tryz.prog J0 f [.str a] m0 (.str r) m0) {w0 w : World} {g : Gh} (hJ : J0 w0 g.C) (hm : MemOk w0 g m0) (hb : Below w0.heap.size w0 w) :
    Calls Tryz.prog f #[.string a] w fun e w' => e = .returned (.string r) ∧ Below w.heap.size w w' := by
  have hJ' : J0 w g.C := J0_stable _ _ _ _ (fun _ h => h) (fun x hx => hb.block x (hm.com x hx).1) hJ
  have hm' : MemOk w g m0 := m0_ok (C := g.C) hm fun x hx => Nat.lt_of_lt_of_le (hm.com x hx).1 hb.size
  refine (h.2 w g #[.string a] hJ' ⟨rfl, fun i u hu => ?_⟩ hm').mono ?_
  · match i, hu with
    | 0, hu =>
      simp only [List.getElem?_cons_zero, Option.some.injEq] at hu
      subst hu
      exact .data (.str a)
  · rintro e w' ⟨mv, g', rfl, hv, _, hc⟩
    obtain rfl := hv.str_inv
    exact ⟨rfl, hc.os, hc.tape, hc.output, hc.size, fun k hk => hc.keep k hk fun l hl => by cases l <;> simp [Held, m0] at hl⟩
theorem take_drop_one {l : S} {k : Nat} (h : k < l.length) : (l.take (k + 1)).drop k = [l[k]] := by
  rw [List.take_add_one, List.drop_append]
  simp [h, show k - min k l.length = 0 by omega]
theorem extract_one {l : S} {k : Nat} (h : k < l.length) : (bs l).extract k (k + 1) = bs [l[k]] := by
  rw [extract_bs, take_drop_one h]
theorem slice_one {l : S} {k : Nat} (h : k < l.length) (w : World) : (Instr.slice 9 (.string (bs l)) (some (.int .i64 k)) (some (.int .i64 (k + 1))) none).run Tryz.prog w = .ok (.string (bs [l[k]])) w := by
  have := run_sliceBounds (P := Tryz.prog) (w := w) false (len := l.length) (cap := l.length) (lov := some (.int .i64 k)) (hiv := some (.int .i64 (k + 1))) (lo := some (k : Int)) (hi := some ((k : Int) + 1)) ⟨.i64, rfl⟩ ⟨.i64, rfl⟩ (by simp) (by simp; omega) (by simp; omega) (Nat.le_refl _)
  simp only [Option.getD_some, show ((k : Int)).toNat = k by omega, show ((k : Int) + 1).toNat = k + 1 by omega] at this
  simp [Instr.slice, run_underlying Tryz.underlying9, this, take_drop_one h]
theorem q34 {c : UInt8} (h : (c.toNat : Int) = 34 ∨ (c.toNat : Int) = 92) : quoteC c = [92, c] := by
  unfold quoteC
  rw [if_pos]
  rcases h with h | h
  · exact .inl (UInt8.toNat_inj.1 (by simpa using (by omega : c.toNat = 34)))
  · exact .inr (UInt8.toNat_inj.1 (by simpa using (by omega : c.toNat = 92)))
theorem q_not {c : UInt8} (h1 : ¬ (c.toNat : Int) = 34) (h2 : ¬ (c.toNat : Int) = 92) : ¬ (c = 34 ∨ c = 92) := by
  rintro (rfl | rfl)
  · exact h1 rfl
  · exact h2 rfl
theorem q10 {c : UInt8} (h : (c.toNat : Int) = 10) : quoteC c = [92, 110] := by
  obtain rfl : c = 10 := UInt8.toNat_inj.1 (by simpa using (by omega : c.toNat = 10))
  rfl
theorem qhex {c : UInt8} (h1 : ¬ (c.toNat : Int) = 34) (h2 : ¬ (c.toNat : Int) = 92) (h3 : ¬ (c.toNat : Int) = 10) (h : (c.toNat : Int) < 32 ∨ 126 < (c.toNat : Int)) : quoteC c = 92 :: 120 :: hexS [c] := by
  unfold quoteC
  rw [if_neg (q_not h1 h2), if_neg (by rintro rfl; exact h3 rfl), if_pos]
  rcases h with h | h
  · exact .inl (UInt8.lt_iff_toNat_lt.2 (by simpa using (by omega : c.toNat < 32)))
  · exact .inr (UInt8.lt_iff_toNat_lt.2 (by simpa using (by omega : 126 < c.toNat)))
theorem qplain {c : UInt8} (h1 : ¬ (c.toNat : Int) = 34) (h2 : ¬ (c.toNat : Int) = 92) (h3 : ¬ (c.toNat : Int) = 10) (h4 : ¬ (c.toNat : Int) < 32) (h5 : ¬ 126 < (c.toNat : Int)) : quoteC c = [c] := by
  unfold quoteC
  rw [if_neg (q_not h1 h2), if_neg (by rintro rfl; exact h3 rfl), if_neg]
  rintro (h | h)
  · have := UInt8.lt_iff_toNat_lt.1 h
    simp at this
    omega
  · have := UInt8.lt_iff_toNat_lt.1 h
    simp at this
    omega
theorem quote_next {l : S} {k : Nat} (h : k < l.length) {q : S} (hq : quoteC l[k] = q) {B : Nat} {p : Value} {W : World} (hb : p = .pointer (some ⟨B, 0, none⟩)) (h1 : Lib.BuilderAtF 177 5 B B p (Lib.byteCells (34 :: quoteIn (l.take k)) ++ Lib.byteCells q) W) :
    Lib.IsBuilderF 177 5 B B (Lib.byteCells (34 :: quoteIn (l.take (k + 1)))) W := by
  subst hb
  rw [quoteIn_take h, ← List.cons_append, Lib.byteCells_append, hq]
  exact .inr h1
theorem quote_end {l : S} {k : Nat} (h : l.length ≤ k) {B : Nat} {W : World} (h1 : Lib.BuilderAtF 177 5 B B (.pointer (some ⟨B, 0, none⟩)) (Lib.byteCells (34 :: quoteIn (l.take k)) ++ [.int .u8 34]) W) : Lib.IsBuilderF 177 5 B B (Lib.byteCells (quoteS l)) W := by
  rw [List.take_of_length_le h] at h1
  unfold quoteS
  rw [Lib.byteCells_append]
  exact .inr h1
set_option maxHeartbeats 4000000 in
set_option maxRecDepth 1000000 in
theorem quote_walk (l : S) (hl : l.length ≤ 1000000) (w : World) (g : Gh) (hJ : J0 w g.C) (hm : MemOk w g m0) (hX : ∀ c : UInt8, Snd Tryz.prog J0 94 [.str (bs [c])] m0 (.str (bs (hexS [c]))) m0) :
    Calls Tryz.prog 115 #[.string (bs l)] w fun e w' => e = .returned (.string (bs (quoteS l))) ∧ Below w.heap.size w w' := by
  go_enter Tryz.func115, Tryz.ntmps115
  go_wp2_with (go_at_call 186; refine (Tryz.WriteByte_k w.heap.size w.heap.size [] 34 _ (Lib.IsBuilderF.of (Lib.fresh_isBuilder 177 5 w)) (by simp) (by simp)).mono ?_)
  rintro e W1 ⟨rfl, h1, b1, k1⟩
  go_wp2
  go_loopw [9] (fun i wr => ∃ k : Nat, i = .int .i64 k ∧ k ≤ l.length ∧ Lib.IsBuilderF 177 5 w.heap.size w.heap.size (Lib.byteCells (34 :: quoteIn (l.take k))) wr ∧ Below w.heap.size w wr) (fun i _ => l.length - (intOf i).toNat)
  case atStart =>
    refine ⟨0, rfl, by omega, ?_, ((Below.refl _ w).alloc (Nat.le_refl _) _).trans b1⟩
    exact .inr h1
  case round =>
    obtain ⟨k, rfl, hk, hI, hbw⟩ := hrel
    clear h1 b1 k1
    have hql := quoteIn_len (l.take k)
    simp only [List.length_take] at hql
    have hsz : w.heap.size ≤ wr.heap.size := hbw.size
    by_cases hlt : k < l.length
    · have hlt' : k < (bs l).size := by simpa using hlt
      have hbc : (bs l)[k]'hlt' = l[k] := rfl
      have hslc := slice_one hlt
      generalize hcc : ((l[k].toNat : Nat) : Int) = cc
      have hlen1 : (hexS [l[k]]).length = 2 := by simp [hexS]
      by_cases h34 : cc = 34
      · have hqc : quoteC l[k] = [92, l[k]] := q34 (.inl (by rw [hcc]; exact h34))
        go_wp2_with (go_at_call 167; refine (Tryz.WriteString_k w.heap.size w.heap.size _ _ _ hI (by rw [Lib.byteCells_length]; simp; omega) (by omega)).mono ?_; rintro e W1 ⟨rfl, h1, b1, k1⟩)
        go_roundw
        case rel => exact ⟨k + 1, by go_num, by omega, quote_next hlt hqc rfl h1, hbw.trans b1⟩
        case measure => simp [intOf]; omega
      have b34 : (cc == 34) = false := by simpa using h34
      by_cases h92 : cc = 92
      · have hqc : quoteC l[k] = [92, l[k]] := q34 (.inr (by rw [hcc]; exact h92))
        go_wp2_with (go_at_call 167; refine (Tryz.WriteString_k w.heap.size w.heap.size _ _ _ hI (by rw [Lib.byteCells_length]; simp; omega) (by omega)).mono ?_; rintro e W1 ⟨rfl, h1, b1, k1⟩)
        go_roundw
        case rel => exact ⟨k + 1, by go_num, by omega, quote_next hlt hqc rfl h1, hbw.trans b1⟩
        case measure => simp [intOf]; omega
      have b92 : (cc == 92) = false := by simpa using h92
      by_cases h10 : cc = 10
      · have hqc : quoteC l[k] = [92, 110] := q10 (by rw [hcc]; exact h10)
        go_wp2_with (go_at_call 167; refine (Tryz.WriteString_k w.heap.size w.heap.size _ _ _ hI (by rw [Lib.byteCells_length]; simp; omega) (by omega)).mono ?_; rintro e W1 ⟨rfl, h1, b1, k1⟩)
        go_roundw
        case rel => exact ⟨k + 1, by go_num, by omega, quote_next hlt hqc rfl h1, hbw.trans b1⟩
        case measure => simp [intOf]; omega
      have b10 : (cc == 10) = false := by simpa using h10
      by_cases h32 : cc < 32
      · have hqc : quoteC l[k] = 92 :: 120 :: hexS [l[k]] := qhex (by rw [hcc]; exact h34) (by rw [hcc]; exact h92) (by rw [hcc]; exact h10) (.inl (by rw [hcc]; exact h32))
        go_wp2_with (first | (go_at_call 94; refine (snd_call1 (hX l[k]) hJ hm hbw).mono ?_; rintro e W0 ⟨rfl, b0⟩; have hI0 := builder_below b0 hI; have hbw0 := hbw.trans (b0.mono hsz); have hsz0 := hbw0.size) | (go_at_call 167; refine (Tryz.WriteString_k w.heap.size w.heap.size _ _ _ hI0 (by rw [Lib.byteCells_length]; simp; omega) (by omega)).mono ?_; rintro e W1 ⟨rfl, h1, b1, k1⟩))
        go_roundw
        case rel => exact ⟨k + 1, by go_num, by omega, quote_next hlt hqc rfl h1, hbw0.trans b1⟩
        case measure => simp [intOf]; omega
      by_cases h126 : 126 < cc
      · have hqc : quoteC l[k] = 92 :: 120 :: hexS [l[k]] := qhex (by rw [hcc]; exact h34) (by rw [hcc]; exact h92) (by rw [hcc]; exact h10) (.inr (by rw [hcc]; exact h126))
        go_wp2_with (first | (go_at_call 94; refine (snd_call1 (hX l[k]) hJ hm hbw).mono ?_; rintro e W0 ⟨rfl, b0⟩; have hI0 := builder_below b0 hI; have hbw0 := hbw.trans (b0.mono hsz); have hsz0 := hbw0.size) | (go_at_call 167; refine (Tryz.WriteString_k w.heap.size w.heap.size _ _ _ hI0 (by rw [Lib.byteCells_length]; simp; omega) (by omega)).mono ?_; rintro e W1 ⟨rfl, h1, b1, k1⟩))
        go_roundw
        case rel => exact ⟨k + 1, by go_num, by omega, quote_next hlt hqc rfl h1, hbw0.trans b1⟩
        case measure => simp [intOf]; omega
      · have hqc : quoteC l[k] = [l[k]] := qplain (by rw [hcc]; exact h34) (by rw [hcc]; exact h92) (by rw [hcc]; exact h10) (by rw [hcc]; exact h32) (by rw [hcc]; exact h126)
        go_wp2_with (go_at_call 186; refine (Tryz.WriteByte_k w.heap.size w.heap.size _ _ _ hI (by rw [Lib.byteCells_length]; simp; omega) (by omega)).mono ?_; rintro e W1 ⟨rfl, h1, b1, k1⟩)
        go_roundw
        case rel => exact ⟨k + 1, by go_num, by omega, quote_next hlt hqc rfl (by subst hcc; exact h1), hbw.trans b1⟩
        case measure => simp [intOf]; omega
    · go_wp2_with (first
        | (go_at_call 186; refine (Tryz.WriteByte_k w.heap.size w.heap.size _ _ _ hI (by rw [Lib.byteCells_length]; simp; omega) (by omega)).mono ?_; rintro e W1 ⟨rfl, h1, b1, k1⟩; have hI1 := quote_end (by omega) h1; have hbw1 := hbw.trans b1; have hsz1 := hbw1.size)
        | (go_at_call 168; refine (Tryz.String_any_k w.heap.size w.heap.size _ _ hI1 hsz1).mono ?_; rintro e W2 ⟨rfl, h2, b2, k2⟩))
      go_ret
      exact ⟨rfl, hbw1.trans b2⟩
theorem snd_quote (l : S) (hl : l.length ≤ 1000000) (hX : ∀ c : UInt8, Snd Tryz.prog J0 94 [.str (bs [c])] m0 (.str (bs (hexS [c]))) m0) : Snd Tryz.prog J0 115 [.str (bs l)] m0 (.str (bs (quoteS l))) m0 := by
  refine snd_str (enters_of' Tryz.func115 (by kernel_rfl) (by kernel_rfl)) fun w g A hJ hA hm => ?_
  obtain ⟨x, rfl, hx⟩ := args1 hA
  obtain rfl := hx.str_inv
  exact quote_walk l hl w g hJ hm hX
end Go.Vm
