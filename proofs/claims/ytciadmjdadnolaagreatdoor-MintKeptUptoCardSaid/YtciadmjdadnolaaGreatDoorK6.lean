/- Texts of this proof, one behind the other; each says its condition at its head. -/
import Derived.Shelf.Strconv.Atoi
import Derived.Shelf.Strconv.Itoa0
import Derived.Shelf.Strconv.Itoa1
import Derived.Shelf.LaysM
import Derived.Shelf.Strconv.Itoa2
import Derived.Shelf.Strconv.Itoa3
import Derived.Shelf.Strconv.AtoiErrFast
import Derived.Shelf.Strconv.ParseIntEmpty
import Derived.Shelf.Strconv.AtoiFail
import Derived.Shelf.Strconv.Clone
import Derived.Shelf.Strconv.SyntaxError
import Derived.Shelf.LaysC
import Derived.Shelf.Strconv.ToError
import Derived.Shelf.Strconv.Lower
import Derived.Shelf.Strconv.ParseUint10
import Derived.Shelf.Strconv.ParseUint10Empty
import Derived.Shelf.Strconv.ParseUint10Any
import Derived.Shelf.Strconv.ParseInt10
import Derived.Shelf.Strconv.AtoiLong
import Derived.Shelf.Strconv.AtoiInnerAll
import Derived.Shelf.Strconv.RangeError
import Derived.Shelf.Strconv.ToErrorRange
import Derived.Shelf.Strconv.AtoiAll
import Derived.Shelf.Strconv.ErrVarAll
import Derived.Shelf.Strings.Search1
import Derived.Shelf.Strings.Search2
import Derived.Shelf.Strings.Search3
import Derived.Shelf.Strings.Cut
import Derived.Shelf.Strings.Count
import Derived.Shelf.Strings.Shaped
import Derived.Shelf.Strings.Split
import Derived.Shelf.Strings.SplitShaped
import Derived.Shelf.Bits.Mul64
import Derived.Shelf.Unicode.DecodeSlow
import Derived.Shelf.Slices.Turned
import Derived.Test.YtciadmjdadnolaaGreatDoorProg
import Derived.Test.YtciadmjdadnolaaGreatDoorK5
import Derived.Shelf.Spec.TrailingZeros
import Derived.Test.YtciadmjdadnolaaGreatDoorK1
import Derived.Test.YtciadmjdadnolaaGreatDoorRows
import Derived.WalkKit
import Derived.ProofKit
import Derived.LaidMore
import Derived.LaidHandle
import Derived.Lib.LaidTab
import Derived.Stop.Joined
import Derived.Stop.LaidErr
import Derived.Lay
import Derived.HandedShaped
import Derived.Shelf.Vars
/- The contracts of strings.Split, Cut and what they call, as the shelf's command prints them. Conditions: as each says. -/
namespace Go.Proofs.YtciadmjdadnolaaGreatDoor
open Go.Shelf
def sh_laysM171_ren : Go.Shelf.Ren := ⟨fun | 171 => 58 | 243 => 91 | 246 => 132 | 283 => 180 | 284 => 181 | 285 => 182 | 286 => 183 | 129 => 228 | 317 => 227 | 318 => 229 | 319 => 230 | 320 => 185 | 337 => 231 | 338 => 209 | n => n, fun | 3 => 3 | 9 => 9 | 2 => 2 | 4 => 4 | 171 => 268 | 0 => 0 | 53 => 235 | 37 => 122 | 5 => 5 | 173 => 270 | 212 => 324 | 51 => 166 | 20 => 20 | 213 => 325 | 46 => 31 | 232 => 344 | 233 => 337 | n => n, fun | 17 => 3 | 18 => 7 | 19 => 4 | n => n⟩
theorem sh_laysM171 : Go.Proofs.LaysM.n171 Tryz.prog sh_laysM171_ren := {
 mixed := by kernel_rfl
 f129 := Tryz.func228.trans (congrArg some (by kernel_rfl))
 f171 := Tryz.func58.trans (congrArg some (by kernel_rfl))
 f243 := Tryz.func91.trans (congrArg some (by kernel_rfl))
 f246 := Tryz.func132.trans (congrArg some (by kernel_rfl))
 f283 := Tryz.func180.trans (congrArg some (by kernel_rfl))
 f284 := Tryz.func181.trans (congrArg some (by kernel_rfl))
 f285 := Tryz.func182.trans (congrArg some (by kernel_rfl))
 f286 := Tryz.func183.trans (congrArg some (by kernel_rfl))
 f317 := Tryz.func227.trans (congrArg some (by kernel_rfl))
 f318 := Tryz.func229.trans (congrArg some (by kernel_rfl))
 f319 := Tryz.func230.trans (congrArg some (by kernel_rfl))
 f320 := Tryz.func185.trans (congrArg some (by kernel_rfl))
 f337 := Tryz.func231.trans (congrArg some (by kernel_rfl))
 f338 := Tryz.func209.trans (congrArg some (by kernel_rfl))
 t0 := Tryz.underlying0
 a0 := Tryz.isAgg0
 z0 := Tryz.sizeOf0
 v0 := Tryz.zeroValue0
 t2 := Tryz.underlying2
 a2 := Tryz.isAgg2
 z2 := Tryz.sizeOf2
 v2 := Tryz.zeroValue2
 t3 := Tryz.underlying3
 a3 := Tryz.isAgg3
 z3 := Tryz.sizeOf3
 v3 := Tryz.zeroValue3
 t4 := Tryz.underlying4
 a4 := Tryz.isAgg4
 z4 := Tryz.sizeOf4
 v4 := Tryz.zeroValue4
 t5 := Tryz.underlying5
 a5 := Tryz.isAgg5
 z5 := Tryz.sizeOf5
 v5 := Tryz.zeroValue5
 t9 := Tryz.underlying9
 a9 := Tryz.isAgg9
 z9 := Tryz.sizeOf9
 v9 := Tryz.zeroValue9
 t20 := Tryz.underlying20
 a20 := Tryz.isAgg20
 z20 := Tryz.sizeOf20
 v20 := Tryz.zeroValue20
 t37 := Tryz.underlying122
 a37 := Tryz.isAgg122
 z37 := Tryz.sizeOf122
 v37 := Tryz.zeroValue122
 t46 := Tryz.underlying31
 a46 := Tryz.isAgg31
 z46 := Tryz.sizeOf31
 v46 := Tryz.zeroValue31
 t51 := Tryz.underlying166
 a51 := Tryz.isAgg166
 z51 := Tryz.sizeOf166
 v51 := Tryz.zeroValue166
 t53 := Tryz.underlying235
 a53 := Tryz.isAgg235
 z53 := Tryz.sizeOf235
 v53 := Tryz.zeroValue235
 t171 := Tryz.underlying268
 a171 := Tryz.isAgg268
 z171 := Tryz.sizeOf268
 v171 := Tryz.zeroValue268
 t173 := Tryz.underlying270
 a173 := Tryz.isAgg270
 z173 := Tryz.sizeOf270
 v173 := Tryz.zeroValue270
 t212 := Tryz.underlying324
 a212 := Tryz.isAgg324
 z212 := Tryz.sizeOf324
 v212 := Tryz.zeroValue324
 t213 := Tryz.underlying325
 a213 := Tryz.isAgg325
 z213 := Tryz.sizeOf325
 t232 := Tryz.underlying344
 a232 := Tryz.isAgg344
 z232 := Tryz.sizeOf344
 v232 := Tryz.zeroValue344
 t233 := Tryz.underlying337
 a233 := Tryz.isAgg337
 z233 := Tryz.sizeOf337
 v233 := Tryz.zeroValue337
 g17 := by kernel_rfl
 g18 := by kernel_rfl
 g19 := by kernel_rfl
 i0 := by kernel_rfl
 i2 := by kernel_rfl
 i3 := by kernel_rfl
 i4 := by kernel_rfl
 i5 := by kernel_rfl
 i9 := by kernel_rfl
 i20 := by kernel_rfl
 i37 := by kernel_rfl
 i46 := by kernel_rfl
 i51 := by kernel_rfl
 i53 := by kernel_rfl
 i171 := by kernel_rfl
 i173 := by kernel_rfl
 i212 := by kernel_rfl
 i232 := by kernel_rfl
 i233 := by kernel_rfl
 m17 := by kernel_rfl
 m18 := by kernel_rfl
 m19 := by kernel_rfl }
open Go.RowKit Go.Sort Go.Lib in
theorem sh_strconv_Itoa (n : Int) (h0 : -9223372036854775808 ≤ n) (h1 : n ≤ 9223372036854775807) (w : World) (htab : Lib.TabIs Tryz.prog w "internal/strconv.uint64pow10" .u64 Lib.pow10Tab) :
 Calls Tryz.prog 58 #[.int .i64 n] w fun e w' => e = .returned (.string ⟨(Lib.itoa n).toArray⟩) ∧ ∃ k os, w' = grow (w.drewN k) os := Any.strconv_Itoa sh_laysM171 n h0 h1 w htab
def sh_laysC172_ren : Go.Shelf.Ren := ⟨fun | 172 => 57 | 244 => 89 | 245 => 90 | 247 => 127 | 279 => 128 | 280 => 129 | 281 => 130 | 282 => 131 | 287 => 177 | 316 => 178 | 171 => 58 | 205 => 179 | 321 => 225 | 322 => 226 | 243 => 91 | 246 => 132 | 283 => 180 | 284 => 181 | 285 => 182 | 286 => 183 | 129 => 228 | 317 => 227 | 318 => 229 | 319 => 230 | 320 => 185 | 337 => 231 | 338 => 209 | n => n, fun | 9 => 9 | 3 => 3 | 75 => 116 | 76 => 117 | 4 => 4 | 5 => 5 | 167 => 187 | 37 => 122 | 0 => 0 | 85 => 188 | 2 => 2 | 168 => 190 | 53 => 235 | 175 => 262 | 46 => 31 | 210 => 266 | 127 => 319 | 145 => 322 | 143 => 320 | 21 => 21 | 171 => 268 | 173 => 270 | 212 => 324 | 51 => 166 | 20 => 20 | 213 => 325 | 232 => 344 | 233 => 337 | 80 => 348 | n => n, fun | 15 => 1 | 16 => 2 | 17 => 3 | 18 => 7 | 19 => 4 | n => n⟩
theorem sh_laysC172 : Go.Proofs.LaysC.n172 Tryz.prog sh_laysC172_ren := {
 mixed := by kernel_rfl
 f129 := Tryz.func228.trans (congrArg some (by kernel_rfl))
 f171 := Tryz.func58.trans (congrArg some (by kernel_rfl))
 f172 := Tryz.func57.trans (congrArg some (by kernel_rfl))
 f205 := Tryz.func179.trans (congrArg some (by kernel_rfl))
 f243 := Tryz.func91.trans (congrArg some (by kernel_rfl))
 f244 := Tryz.func89.trans (congrArg some (by kernel_rfl))
 f245 := Tryz.func90.trans (congrArg some (by kernel_rfl))
 f246 := Tryz.func132.trans (congrArg some (by kernel_rfl))
 f247 := Tryz.func127.trans (congrArg some (by kernel_rfl))
 f279 := Tryz.func128.trans (congrArg some (by kernel_rfl))
 f280 := Tryz.func129.trans (congrArg some (by kernel_rfl))
 f281 := Tryz.func130.trans (congrArg some (by kernel_rfl))
 f282 := Tryz.func131.trans (congrArg some (by kernel_rfl))
 f283 := Tryz.func180.trans (congrArg some (by kernel_rfl))
 f284 := Tryz.func181.trans (congrArg some (by kernel_rfl))
 f285 := Tryz.func182.trans (congrArg some (by kernel_rfl))
 f286 := Tryz.func183.trans (congrArg some (by kernel_rfl))
 f287 := Tryz.func177.trans (congrArg some (by kernel_rfl))
 f316 := Tryz.func178.trans (congrArg some (by kernel_rfl))
 f317 := Tryz.func227.trans (congrArg some (by kernel_rfl))
 f318 := Tryz.func229.trans (congrArg some (by kernel_rfl))
 f319 := Tryz.func230.trans (congrArg some (by kernel_rfl))
 f320 := Tryz.func185.trans (congrArg some (by kernel_rfl))
 f321 := Tryz.func225.trans (congrArg some (by kernel_rfl))
 f322 := Tryz.func226.trans (congrArg some (by kernel_rfl))
 f337 := Tryz.func231.trans (congrArg some (by kernel_rfl))
 f338 := Tryz.func209.trans (congrArg some (by kernel_rfl))
 t0 := Tryz.underlying0
 a0 := Tryz.isAgg0
 z0 := Tryz.sizeOf0
 v0 := Tryz.zeroValue0
 t2 := Tryz.underlying2
 a2 := Tryz.isAgg2
 z2 := Tryz.sizeOf2
 v2 := Tryz.zeroValue2
 t3 := Tryz.underlying3
 a3 := Tryz.isAgg3
 z3 := Tryz.sizeOf3
 v3 := Tryz.zeroValue3
 t4 := Tryz.underlying4
 a4 := Tryz.isAgg4
 z4 := Tryz.sizeOf4
 v4 := Tryz.zeroValue4
 t5 := Tryz.underlying5
 a5 := Tryz.isAgg5
 z5 := Tryz.sizeOf5
 v5 := Tryz.zeroValue5
 t9 := Tryz.underlying9
 a9 := Tryz.isAgg9
 z9 := Tryz.sizeOf9
 v9 := Tryz.zeroValue9
 t20 := Tryz.underlying20
 a20 := Tryz.isAgg20
 z20 := Tryz.sizeOf20
 v20 := Tryz.zeroValue20
 t21 := Tryz.underlying21
 a21 := Tryz.isAgg21
 z21 := Tryz.sizeOf21
 v21 := Tryz.zeroValue21
 t37 := Tryz.underlying122
 a37 := Tryz.isAgg122
 z37 := Tryz.sizeOf122
 v37 := Tryz.zeroValue122
 t46 := Tryz.underlying31
 a46 := Tryz.isAgg31
 z46 := Tryz.sizeOf31
 v46 := Tryz.zeroValue31
 t51 := Tryz.underlying166
 a51 := Tryz.isAgg166
 z51 := Tryz.sizeOf166
 v51 := Tryz.zeroValue166
 t53 := Tryz.underlying235
 a53 := Tryz.isAgg235
 z53 := Tryz.sizeOf235
 v53 := Tryz.zeroValue235
 t75 := Tryz.underlying116
 a75 := Tryz.isAgg116
 z75 := Tryz.sizeOf116
 v75 := Tryz.zeroValue116
 t76 := Tryz.underlying117
 a76 := Tryz.isAgg117
 z76 := Tryz.sizeOf117
 v76 := Tryz.zeroValue117
 t85 := Tryz.underlying188
 a85 := Tryz.isAgg188
 z85 := Tryz.sizeOf188
 v85 := Tryz.zeroValue188
 t127 := Tryz.underlying319
 a127 := Tryz.isAgg319
 z127 := Tryz.sizeOf319
 v127 := Tryz.zeroValue319
 t143 := Tryz.underlying320
 a143 := Tryz.isAgg320
 z143 := Tryz.sizeOf320
 v143 := Tryz.zeroValue320
 t145 := Tryz.underlying322
 a145 := Tryz.isAgg322
 z145 := Tryz.sizeOf322
 v145 := Tryz.zeroValue322
 t167 := Tryz.underlying187
 a167 := Tryz.isAgg187
 z167 := Tryz.sizeOf187
 v167 := Tryz.zeroValue187
 t168 := Tryz.underlying190
 a168 := Tryz.isAgg190
 z168 := Tryz.sizeOf190
 v168 := Tryz.zeroValue190
 t171 := Tryz.underlying268
 a171 := Tryz.isAgg268
 z171 := Tryz.sizeOf268
 v171 := Tryz.zeroValue268
 t173 := Tryz.underlying270
 a173 := Tryz.isAgg270
 z173 := Tryz.sizeOf270
 v173 := Tryz.zeroValue270
 t175 := Tryz.underlying262
 a175 := Tryz.isAgg262
 z175 := Tryz.sizeOf262
 v175 := Tryz.zeroValue262
 t210 := Tryz.underlying266
 a210 := Tryz.isAgg266
 z210 := Tryz.sizeOf266
 v210 := Tryz.zeroValue266
 t212 := Tryz.underlying324
 a212 := Tryz.isAgg324
 z212 := Tryz.sizeOf324
 v212 := Tryz.zeroValue324
 t213 := Tryz.underlying325
 a213 := Tryz.isAgg325
 z213 := Tryz.sizeOf325
 t232 := Tryz.underlying344
 a232 := Tryz.isAgg344
 z232 := Tryz.sizeOf344
 v232 := Tryz.zeroValue344
 t233 := Tryz.underlying337
 a233 := Tryz.isAgg337
 z233 := Tryz.sizeOf337
 v233 := Tryz.zeroValue337
 g15 := by kernel_rfl
 g16 := by kernel_rfl
 g17 := by kernel_rfl
 g18 := by kernel_rfl
 g19 := by kernel_rfl
 t80 := Tryz.underlying348
 a80 := Tryz.isAgg348
 z80 := Tryz.sizeOf348
 v80 := Tryz.zeroValue348
 i0 := by kernel_rfl
 i2 := by kernel_rfl
 i3 := by kernel_rfl
 i4 := by kernel_rfl
 i5 := by kernel_rfl
 i9 := by kernel_rfl
 i20 := by kernel_rfl
 i21 := by kernel_rfl
 i37 := by kernel_rfl
 i46 := by kernel_rfl
 i51 := by kernel_rfl
 i53 := by kernel_rfl
 i75 := by kernel_rfl
 i76 := by kernel_rfl
 i80 := by kernel_rfl
 i85 := by kernel_rfl
 i127 := by kernel_rfl
 i143 := by kernel_rfl
 i145 := by kernel_rfl
 i167 := by kernel_rfl
 i168 := by kernel_rfl
 i171 := by kernel_rfl
 i173 := by kernel_rfl
 i175 := by kernel_rfl
 i210 := by kernel_rfl
 i212 := by kernel_rfl
 i232 := by kernel_rfl
 i233 := by kernel_rfl
 m15 := by kernel_rfl
 m16 := by kernel_rfl
 m17 := by kernel_rfl
 m18 := by kernel_rfl
 m19 := by kernel_rfl
 c0 := by kernel_rfl
 c2 := by kernel_rfl
 c3 := by kernel_rfl
 c4 := by kernel_rfl
 c5 := by kernel_rfl
 c9 := by kernel_rfl
 c20 := by kernel_rfl
 c21 := by kernel_rfl
 c37 := by kernel_rfl
 c46 := by kernel_rfl
 c51 := by kernel_rfl
 c53 := by kernel_rfl
 c75 := by kernel_rfl
 c76 := by kernel_rfl
 c80 := by kernel_rfl
 c85 := by kernel_rfl
 c127 := by kernel_rfl
 c143 := by kernel_rfl
 c145 := by kernel_rfl
 c167 := by kernel_rfl
 c168 := by kernel_rfl
 c171 := by kernel_rfl
 c173 := by kernel_rfl
 c175 := by kernel_rfl
 c210 := by kernel_rfl
 c212 := by kernel_rfl
 c213 := by kernel_rfl
 c232 := by kernel_rfl
 c233 := by kernel_rfl }
open Go.RowKit in
theorem sh_strconv_Atoi_ok (s : ByteArray) (hmax : s.size ≤ 9223372036854775806) (v : Int) (h : Lib.atoiAll s.data.toList = .ok v) (w : World) :
 Calls Tryz.prog 57 #[.string s] w fun e w' => e = .returned (.tuple #[.int .i64 v, .nilIface]) ∧ (w' = w ∨ ∃ t, w' = Lib.bytesWorld w 5 t) := Any.strconv_Atoi_ok sh_laysC172 s hmax v h w
open Go.RowKit in
theorem sh_strconv_Atoi_syntax (s : ByteArray) (hlim : s.size ≤ 281474976710656) {r : Lib.NumEnd Int} (h : Lib.atoiAll s.data.toList = r) (k1 : ∀ v, r ≠ .ok v) (k2 : r ≠ .range) (ev : Value) (w : World) (hv : w.cell? ⟨1, 0, none⟩ = some ev) (hev : ev = .nilIface ∨ ∃ te pe, ev = .iface te pe) :
 Calls Tryz.prog 57 #[.string s] w fun e w' => ∃ N, e = .returned (.tuple #[.int .i64 (0), .iface 190 (.pointer (some ⟨N, 0, none⟩))]) ∧ w.heap.size ≤ N ∧ w'.heap[N]? = some (.cells #[.string ⟨#[65, 116, 111, 105]⟩, .string s, ev] 266 (0, 0)) ∧ Below w.heap.size w w' := by
 cases r
 case ok v => exact absurd rfl (k1 v)
 case range => exact absurd rfl k2
 exact Any.strconv_Atoi_syntax sh_laysC172 s hlim h ev w hv hev
open Go.RowKit in
theorem sh_strconv_Atoi_range (s : ByteArray) (hlim : s.size ≤ 281474976710656) (h : Lib.atoiAll s.data.toList = .range) (ev : Value) (w : World) (hv : w.cell? ⟨2, 0, none⟩ = some ev) (hev : ev = .nilIface ∨ ∃ te pe, ev = .iface te pe) :
 Calls Tryz.prog 57 #[.string s] w fun e w' => ∃ N, e = .returned (.tuple #[.int .i64 (Lib.atoiSat s.data.toList), .iface 190 (.pointer (some ⟨N, 0, none⟩))]) ∧ w.heap.size ≤ N ∧ w'.heap[N]? = some (.cells #[.string ⟨#[65, 116, 111, 105]⟩, .string s, ev] 266 (0, 0)) ∧ Below w.heap.size w w' := Any.strconv_Atoi_range sh_laysC172 s hlim h ev w hv hev
def sh_lays145_ren : Go.Shelf.Ren := ⟨fun | 145 => 25 | 220 => 37 | 219 => 53 | 217 => 70 | 225 => 71 | 224 => 72 | 267 => 73 | 266 => 106 | 314 => 107 | n => n, fun | 9 => 9 | 4 => 4 | 59 => 65 | 3 => 3 | 5 => 5 | 46 => 31 | 146 => 167 | 51 => 166 | n => n, fun | 1 => 0 | n => n⟩
theorem sh_lays145 : Go.Proofs.Lays.n145 Tryz.prog sh_lays145_ren := {
 mixed := by kernel_rfl
 f145 := Tryz.func25.trans (congrArg some (by kernel_rfl))
 f217 := Tryz.func70.trans (congrArg some (by kernel_rfl))
 f219 := Tryz.func53.trans (congrArg some (by kernel_rfl))
 f220 := Tryz.func37.trans (congrArg some (by kernel_rfl))
 f224 := Tryz.func72.trans (congrArg some (by kernel_rfl))
 f225 := Tryz.func71.trans (congrArg some (by kernel_rfl))
 f266 := Tryz.func106.trans (congrArg some (by kernel_rfl))
 f267 := Tryz.func73.trans (congrArg some (by kernel_rfl))
 f314 := Tryz.func107.trans (congrArg some (by kernel_rfl))
 t3 := Tryz.underlying3
 a3 := Tryz.isAgg3
 z3 := Tryz.sizeOf3
 v3 := Tryz.zeroValue3
 t4 := Tryz.underlying4
 a4 := Tryz.isAgg4
 z4 := Tryz.sizeOf4
 v4 := Tryz.zeroValue4
 t5 := Tryz.underlying5
 a5 := Tryz.isAgg5
 z5 := Tryz.sizeOf5
 v5 := Tryz.zeroValue5
 t9 := Tryz.underlying9
 a9 := Tryz.isAgg9
 z9 := Tryz.sizeOf9
 v9 := Tryz.zeroValue9
 t46 := Tryz.underlying31
 a46 := Tryz.isAgg31
 z46 := Tryz.sizeOf31
 v46 := Tryz.zeroValue31
 t51 := Tryz.underlying166
 a51 := Tryz.isAgg166
 z51 := Tryz.sizeOf166
 v51 := Tryz.zeroValue166
 t59 := Tryz.underlying65
 a59 := Tryz.isAgg65
 z59 := Tryz.sizeOf65
 v59 := Tryz.zeroValue65
 t146 := Tryz.underlying167
 a146 := Tryz.isAgg167
 z146 := Tryz.sizeOf167
 v146 := Tryz.zeroValue167
 g1 := by kernel_rfl }
open Go.RowKit Go.Lib in
theorem sh_strings_Cut (s sep : ByteArray) (m : Int) (w : World) (hs : s.size < 4294967281) (hm : w.cell? ⟨0, 0, none⟩ = some (.int .i64 m)) :
 Calls Tryz.prog 25 #[.string s, .string sep] w fun e w' => e = .returned (.tuple #[.string ⟨(Lib.cut s.data.toList sep.data.toList).1.toArray⟩, .string ⟨(Lib.cut s.data.toList sep.data.toList).2.1.toArray⟩, .bool (Lib.cut s.data.toList sep.data.toList).2.2]) ∧ ∃ n, w' = w.drewN n := Any.strings_Cut sh_lays145 s sep m w hs hm
def sh_lays146_ren : Go.Shelf.Ren := ⟨fun | 146 => 55 | 221 => 88 | 268 => 124 | 138 => 125 | 143 => 126 | 195 => 174 | 197 => 175 | 218 => 176 | 219 => 53 | 260 => 224 | 217 => 70 | 225 => 71 | 224 => 72 | 267 => 73 | 266 => 106 | 314 => 107 | n => n, fun | 9 => 9 | 31 => 28 | 3 => 3 | 4 => 4 | 0 => 0 | 105 => 260 | 21 => 21 | 5 => 5 | 46 => 31 | 119 => 340 | 139 => 343 | 138 => 342 | 146 => 167 | 51 => 166 | n => n, fun | 1 => 0 | 3 => 5 | 4 => 6 | n => n⟩
theorem sh_lays146 : Go.Proofs.Lays.n146 Tryz.prog sh_lays146_ren := {
 mixed := by kernel_rfl
 f138 := Tryz.func125.trans (congrArg some (by kernel_rfl))
 f143 := Tryz.func126.trans (congrArg some (by kernel_rfl))
 f146 := Tryz.func55.trans (congrArg some (by kernel_rfl))
 f195 := Tryz.func174.trans (congrArg some (by kernel_rfl))
 f197 := Tryz.func175.trans (congrArg some (by kernel_rfl))
 f217 := Tryz.func70.trans (congrArg some (by kernel_rfl))
 f218 := Tryz.func176.trans (congrArg some (by kernel_rfl))
 f219 := Tryz.func53.trans (congrArg some (by kernel_rfl))
 f221 := Tryz.func88.trans (congrArg some (by kernel_rfl))
 f224 := Tryz.func72.trans (congrArg some (by kernel_rfl))
 f225 := Tryz.func71.trans (congrArg some (by kernel_rfl))
 f260 := Tryz.func224.trans (congrArg some (by kernel_rfl))
 f266 := Tryz.func106.trans (congrArg some (by kernel_rfl))
 f267 := Tryz.func73.trans (congrArg some (by kernel_rfl))
 f268 := Tryz.func124.trans (congrArg some (by kernel_rfl))
 f314 := Tryz.func107.trans (congrArg some (by kernel_rfl))
 t0 := Tryz.underlying0
 a0 := Tryz.isAgg0
 z0 := Tryz.sizeOf0
 v0 := Tryz.zeroValue0
 t3 := Tryz.underlying3
 a3 := Tryz.isAgg3
 z3 := Tryz.sizeOf3
 v3 := Tryz.zeroValue3
 t4 := Tryz.underlying4
 a4 := Tryz.isAgg4
 z4 := Tryz.sizeOf4
 v4 := Tryz.zeroValue4
 t5 := Tryz.underlying5
 a5 := Tryz.isAgg5
 z5 := Tryz.sizeOf5
 v5 := Tryz.zeroValue5
 t9 := Tryz.underlying9
 a9 := Tryz.isAgg9
 z9 := Tryz.sizeOf9
 v9 := Tryz.zeroValue9
 t21 := Tryz.underlying21
 a21 := Tryz.isAgg21
 z21 := Tryz.sizeOf21
 v21 := Tryz.zeroValue21
 t31 := Tryz.underlying28
 a31 := Tryz.isAgg28
 z31 := Tryz.sizeOf28
 v31 := Tryz.zeroValue28
 t46 := Tryz.underlying31
 a46 := Tryz.isAgg31
 z46 := Tryz.sizeOf31
 v46 := Tryz.zeroValue31
 t51 := Tryz.underlying166
 a51 := Tryz.isAgg166
 z51 := Tryz.sizeOf166
 v51 := Tryz.zeroValue166
 t105 := Tryz.underlying260
 a105 := Tryz.isAgg260
 z105 := Tryz.sizeOf260
 v105 := Tryz.zeroValue260
 t119 := Tryz.underlying340
 a119 := Tryz.isAgg340
 z119 := Tryz.sizeOf340
 t138 := Tryz.underlying342
 a138 := Tryz.isAgg342
 z138 := Tryz.sizeOf342
 v138 := Tryz.zeroValue342
 t139 := Tryz.underlying343
 a139 := Tryz.isAgg343
 z139 := Tryz.sizeOf343
 v139 := Tryz.zeroValue343
 t146 := Tryz.underlying167
 a146 := Tryz.isAgg167
 z146 := Tryz.sizeOf167
 v146 := Tryz.zeroValue167
 g1 := by kernel_rfl
 g3 := by kernel_rfl
 g4 := by kernel_rfl }
open Go.RowKit Go.Lib in
theorem sh_strings_Split (s sep : ByteArray) (m : Int) (w : World) (hs : s.size < 4294967281) (hm : w.cell? ⟨0, 0, none⟩ = some (.int .i64 m)) (h1 : 1 ≤ sep.size) :
 Calls Tryz.prog 55 #[.string s, .string sep] w fun e w' =>
  e = .returned (.slice (some ⟨w.heap.size, 0, none⟩) (Lib.countB s sep + 1) (Lib.countB s sep + 1)) ∧ w' = w.alloc (.cells ((Lib.splitB sep 0 (Lib.countB s sep) s).map Value.string).toArray 9) := Any.strings_Split sh_lays146 (by kernel_rfl) s sep m w hs hm h1
def sh_lays212_ren : Go.Shelf.Ren := ⟨fun | 212 => 193 | 263 => 232 | 264 => 233 | n => n, fun | 46 => 31 | 51 => 166 | 146 => 167 | 53 => 235 | 148 => 328 | n => n, fun | n => n⟩
theorem sh_lays212 : Go.Proofs.Lays.n212 Tryz.prog sh_lays212_ren := {
 mixed := by kernel_rfl
 f212 := Tryz.func193.trans (congrArg some (by kernel_rfl))
 f263 := Tryz.func232.trans (congrArg some (by kernel_rfl))
 f264 := Tryz.func233.trans (congrArg some (by kernel_rfl))
 t46 := Tryz.underlying31
 a46 := Tryz.isAgg31
 z46 := Tryz.sizeOf31
 v46 := Tryz.zeroValue31
 t51 := Tryz.underlying166
 a51 := Tryz.isAgg166
 z51 := Tryz.sizeOf166
 v51 := Tryz.zeroValue166
 t53 := Tryz.underlying235
 a53 := Tryz.isAgg235
 z53 := Tryz.sizeOf235
 v53 := Tryz.zeroValue235
 t146 := Tryz.underlying167
 a146 := Tryz.isAgg167
 z146 := Tryz.sizeOf167
 v146 := Tryz.zeroValue167
 t148 := Tryz.underlying328
 a148 := Tryz.isAgg328
 z148 := Tryz.sizeOf328
 v148 := Tryz.zeroValue328 }
open Go.RowKit Go.Lib in
theorem sh_bits_Mul (x y : Nat) (hx : x < 18446744073709551616) (hy : y < 18446744073709551616) (w : World) :
 Calls Tryz.prog 193 #[.int .u64 x, .int .u64 y] w fun e w' => e = .returned (.tuple #[.int .u64 ((x * y / 18446744073709551616 : Nat) : Int), .int .u64 ((x * y % 18446744073709551616 : Nat) : Int)]) ∧ w' = w := Any.bits_Mul sh_lays212 x y hx hy w
end Go.Proofs.YtciadmjdadnolaaGreatDoor
/- Walks of isLine and of a rule's read, at texts whose parts are known. Conditions: the library's MaxLen stands in its variable; the parts are known. -/
namespace Go.Proofs.YtciadmjdadnolaaGreatDoor
open Go.RowKit Go.Maps
/-- The library's MaxLen in its variable. -/
def MaxL (w : World) : Prop := ∃ m : Int, w.cell? ⟨0, 0, none⟩ = some (.int .i64 m)
theorem MaxL.keep {w w' : World} (h : MaxL w) (hb : Below w.heap.size w w') : MaxL w' := by
 obtain ⟨m, hm⟩ := h
 exact ⟨m, cell_keep hb hm⟩
/-- A text's parts between blanks. -/
def Parts (s : ByteArray) (l : List ByteArray) : Prop := ∀ w, MaxL w → Calls Tryz.prog 55 #[.string s, .string ⟨#[32]⟩] w fun e w' =>
 e = .returned (.slice (some ⟨w.heap.size, 0, none⟩) l.length l.length) ∧ w.alloc (.cells (strV l).toArray 9) = w'
theorem parts_of {s : ByteArray} {l : List ByteArray} (hs : s.size < 4294967281) (h : Lib.splitB ⟨#[32]⟩ 0 (Lib.countB s ⟨#[32]⟩) s = l) (hn : Lib.countB s ⟨#[32]⟩ + 1 = l.length) : Parts s l := fun w ⟨m, hm⟩ => by
 have c := sh_strings_Split s ⟨#[32]⟩ m w hs hm (by decide)
 rw [h, hn] at c
 exact c.mono fun _ _ ⟨h1, h2⟩ => ⟨h1, h2.symm⟩
theorem u8_line (w : World) (l : List UInt8) : LineS w (u8V l) fun i => match l[i]? with | some b => odd8 b | none => false := fun i v hv => by
 unfold u8V at hv
 rw [List.getElem?_map] at hv
 obtain ⟨b, hb, rfl⟩ := Option.map_eq_some_iff.1 hv
 simp only [hb]
 exact line1 b w
theorem bytes_sl (w : World) (s : ByteArray) (C : Nat) (T : TypeId) (fr : Nat × Nat) (h1 : s.size ≤ C) (h2 : C ≤ maxLen) : Sl (w.alloc (.cells (bytesRow s C) T fr)) (some ⟨w.heap.size, 0, none⟩) s.size C (u8V s.data.toList) := by
 have hl : s.data.size = s.size := rfl
 refine ⟨by simp [u8V], h1, h2, fun _ => ⟨w.heap.size, 0, rfl, by simp, fun j u hu => ?_⟩⟩
 rw [Nat.zero_add, cell_of_row _ w.heap.size j (bytesRow s C) T fr (heap_alloc_new w _)]
 unfold u8V at hu
 rw [List.getElem?_map] at hu
 obtain ⟨b, hb, rfl⟩ := Option.map_eq_some_iff.1 hu
 unfold bytesRow
 have hj : j < s.data.size := by have := (List.getElem?_eq_some_iff.1 hb).1; simpa using this
 rw [Array.getElem?_append_left (by simpa using hj), Array.getElem?_map]
 rw [Array.getElem?_toList] at hb
 rw [hb]
 rfl
set_option maxRecDepth 100000 in
set_option maxHeartbeats 1000000 in
theorem lineF (s : ByteArray) (l : List ByteArray) (hp : Parts s l) (he : ByteArray.empty ∉ l) (hb : ∀ b ∈ s.data.toList, odd8 b = false) (h60 : s.size ≤ 60) (hl : l.length ≤ 1000) (w : World) (hm : MaxL w) :
 Calls Tryz.prog 43 #[.string s] w fun e w' => e = .returned (.bool true) ∧ Below w.heap.size w w' := by
 have HP := hid (hp w hm)
 have HL := hid (show l.length ≤ 1000000 by omega)
 have HH := hid (strHas (some ⟨w.heap.size, 0, none⟩) l.length l.length l ByteArray.empty false (w.alloc (.cells (strV l).toArray 9)) (by have := Sl.new w (strV l).toArray 9 (n := l.length) (by simp [strV]) HL.out; simpa using this) (by simp [he]))
 have HBY := hid fun (W : World) A c (hs : Sl W A s.size c (u8V s.data.toList)) => byteAny A s.size c (u8V s.data.toList) _ false W hs (u8_line W s.data.toList) (by
  constructor
  · intro h; cases h
  · rintro ⟨i, hi, h⟩
    have hx : s.data.toList[i]? = some (s.data.toList[i]'(by simpa using hi)) := List.getElem?_eq_getElem _
    rw [hx] at h
    simp only at h
    rw [hb _ (List.getElem_mem _)] at h
    cases h)
 have hcb := fun (W : World) => run_bytes_of_string (P := Tryz.prog) W 9 122 5 s Tryz.underlying9 Tryz.underlying122 Tryz.underlying5
 have h61 : (s.size : Int) ≤ 60 := by omega
 clear hp he hb hm
 go_enter Tryz.func43, Tryz.ntmps43
 go_wp2_with fail
 refine (HP.out).mono ?_; rintro e w1 ⟨rfl, rfl⟩
 go_wp2_with fail
 refine (HH.out).mono ?_; rintro e w1 ⟨rfl, rfl⟩
 go_wp2_with fail
 have hg1 := grownCap_ge (w.alloc (.cells (strV l).toArray 9)) s.size 0 5
 have hg2 := grownCap_le_maxLen (w.alloc (.cells (strV l).toArray 9)) s.size 0 5 (by unfold maxLen; omega)
 generalize grownCap (w.alloc (.cells (strV l).toArray 9)) s.size 0 5 = C at *
 have HW := hid ((((Below.refl w.heap.size w).alloc (Nat.le_refl _) (.cells (strV l).toArray 9)).alloc (by simp) (.cells (bytesRow s C) 5 ((bytesRow s C).size, (bytesRow s C).size + 1))).drew)
 have HS1 := hid (bytes_sl (w.alloc (.cells (strV l).toArray 9)) s C 5 ((bytesRow s C).size, (bytesRow s C).size + 1) hg1 hg2).drew
 have hsz : (w.alloc (.cells (strV l).toArray 9)).heap.size = w.heap.size + 1 := by simp
 rw [hsz] at HS1
 clear hg1 hg2 hsz hcb
 refine (HBY.out _ _ _ HS1.out).mono ?_; rintro e w1 ⟨rfl, rfl⟩
 go_wp2
 go_ret
 exact ⟨rfl, HW.out⟩
end Go.Proofs.YtciadmjdadnolaaGreatDoor
/- The contract of math/bits.TrailingZeros64 and TrailingZeros, laid at this program. Condition: the library's table of 64 numbers stands in its variable. -/
namespace Go.Proofs.YtciadmjdadnolaaGreatDoor
open Go.Shelf Go.RowKit
def tz_ren : Go.Shelf.Ren := ⟨fun | 29 => 209 | n => n, fun | 22 => 235 | 25 => 31 | 54 => 337 | n => n, fun | 1 => 4 | n => n⟩
theorem tzLays : Go.Proofs.Lays7.n29 Tryz.prog tz_ren := {
 mixed := by kernel_rfl
 f29 := Tryz.func209.trans (congrArg some (by kernel_rfl))
 t0 := Tryz.underlying0
 a0 := Tryz.isAgg0
 z0 := Tryz.sizeOf0
 v0 := Tryz.zeroValue0
 i0 := by kernel_rfl
 t3 := Tryz.underlying3
 a3 := Tryz.isAgg3
 z3 := Tryz.sizeOf3
 v3 := Tryz.zeroValue3
 i3 := by kernel_rfl
 t4 := Tryz.underlying4
 a4 := Tryz.isAgg4
 z4 := Tryz.sizeOf4
 v4 := Tryz.zeroValue4
 i4 := by kernel_rfl
 t5 := Tryz.underlying5
 a5 := Tryz.isAgg5
 z5 := Tryz.sizeOf5
 v5 := Tryz.zeroValue5
 i5 := by kernel_rfl
 t22 := Tryz.underlying235
 a22 := Tryz.isAgg235
 z22 := Tryz.sizeOf235
 v22 := Tryz.zeroValue235
 i22 := by kernel_rfl
 t25 := Tryz.underlying31
 a25 := Tryz.isAgg31
 z25 := Tryz.sizeOf31
 v25 := Tryz.zeroValue31
 i25 := by kernel_rfl
 t54 := Tryz.underlying337
 a54 := Tryz.isAgg337
 z54 := Tryz.sizeOf337
 g1 := by kernel_rfl }
/-- The library's table in its variable. -/
def Tab (w : World) : Prop := TabAt 4 Lib.deBruijn64tab w
theorem Tab.below {w w' : World} (h : Tab w) (hb : Below w.heap.size w w') : Tab w' := fun j hj => cell_keep hb (h j hj)
theorem Tab.grown {w w' : World} {row : Option Nat} (h : Tab w) (hg : w.grownBy w' row) (hr : row ≠ some 4) : Tab w' := fun j hj =>
 (World.cell?_of_block (a := ⟨4, j, none⟩) (hg.block 4 (World.block_lt_of_cell? _ _ (h j hj)) (fun e => hr e.symm))).trans (h j hj)
theorem Tab.pos {w : World} (h : Tab w) : 4 < w.heap.size := World.block_lt_of_cell? _ _ (h 0 (by decide))
theorem tz64 (x : Nat) (hx : x < 18446744073709551616) (w : World) (hT : Tab w) :
 Calls Tryz.prog 209 #[.int .u64 x] w fun e w' => e = .returned (.int .i64 (Lib.ctz 64 x)) ∧ w = w' :=
 (Any7.bits_TrailingZeros64 tzLays x hx w (fun _ => hT)).mono fun _ _ ⟨he, hw⟩ => ⟨he, hw.symm⟩
set_option maxRecDepth 100000 in
theorem tzU (x : Nat) (hx : x < 18446744073709551616) (w : World) (hT : Tab w) :
 Calls Tryz.prog 185 #[.int .u64 x] w fun e w' => e = .returned (.int .i64 (Lib.ctz 64 x)) ∧ w = w' := by
 have HT := hid (tz64 x hx w hT)
 clear hT
 generalize Lib.ctz 64 x = k at *
 go_enter Tryz.func185, Tryz.ntmps185
 go_wp2_with fail
 refine (HT.out).mono ?_; rintro e w' ⟨rfl, rfl⟩
 go_wp2
 go_ret
 exact ⟨rfl, rfl⟩
end Go.Proofs.YtciadmjdadnolaaGreatDoor
/- What the rows' condition and the world's shape give the walks: the table of trailing zeros; MaxLen's cell; and a start that meets the condition. No condition. -/
namespace Go.Proofs.YtciadmjdadnolaaGreatDoor
open Go Go.ChangeShapes Go.WideShapes Go.ChangeAt Go.RowKit
theorem own : ownKnob Tryz.prog.godebug = none := by kernel_rfl
theorem laidOut : laidOutB Tryz.prog = true := by kernel_rfl
def laidRest : List (String × DataW Unit) := [("internal/strconv.uint64pow10", Rows.laid_internal_strconv_uint64pow10), ("unicode/utf8.acceptRanges", Rows.laid_unicode_utf8_acceptRanges), ("strconv.ErrRange", Rows.laid_strconv_ErrRange), ("strconv.ErrSyntax", Rows.laid_strconv_ErrSyntax), ("unicode/utf8.first", Rows.laid_unicode_utf8_first)]
def laid : List (String × DataW Unit) := ("math/bits.deBruijn32tab", Rows.laid_math_bits_deBruijn32tab) :: ("math/bits.deBruijn64tab", Rows.laid_math_bits_deBruijn64tab) :: laidRest
theorem gTab : Tryz.prog.globalNamed "math/bits.deBruijn64tab" = some 4 := by kernel_rfl
theorem tTab : (Tryz.prog.globals[4]?).map (·.type) = some 337 := by kernel_rfl
set_option maxRecDepth 100000 in
theorem tab_is : (Rows.laid_math_bits_deBruijn64tab : DataW Unit) = Lib.tabData .u8 (Lib.deBruijn64tab.map Int.ofNat) := by kernel_rfl
set_option maxRecDepth 100000 in
theorem laid_plain (w : World) : laidMetH Tryz.prog laid w = laidMet Tryz.prog laid w := MakeChecks.laidMetH_plain _ _ _ (by kernel_rfl)
set_option maxRecDepth 100000 in
theorem door_met (os : Os) (args : Array Value) : laidMetH Tryz.prog laid ((World.laidAll Tryz.prog os laid).forCall (fun _ _ => 0) ⟨#[], args, []⟩).memory := by
 rw [laid_plain]
 exact laidMet_laidAll _ (by kernel_rfl) (by kernel_rfl)
/-- What the condition gives the walk: the table's cells. -/
theorem of_laid {W : World} (h : laidMetH Tryz.prog laid W) : Tab W := by
 rw [laid_plain] at h
 have h2 : laidMet Tryz.prog (("math/bits.deBruijn64tab", Lib.tabData .u8 (Lib.deBruijn64tab.map Int.ofNat)) :: laidRest) W := by
  rw [← tab_is]
  exact laidMet.tail h
 have ht := Lib.tabIs_of_head gTab tTab Tryz.underlying337 Tryz.underlying5 (by kernel_rfl) (by kernel_rfl) h2
 intro j hj
 have := ht.cell gTab j (by simpa using hj)
 rw [this]
 congr 2
 rw [List.getD_eq_getElem?_getD, List.getElem?_map, List.getElem?_eq_getElem hj, List.getD_eq_getElem?_getD, List.getElem?_eq_getElem hj]
 rfl
/-- What the world's shape gives the walk. -/
theorem of_shape {W : World} (h : W.ShapedOpen Tryz.prog) : MaxL W :=
 cell_of_shapedOpen_int (t := 3) (zero := #[.int .i64 0]) h (of_decide_eq_true (by kernel_rfl)) (by kernel_rfl) rfl (by kernel_rfl) (by kernel_rfl) Tryz.underlying3
section
variable {H : Type} {enc : TypeId × Value → H}
end
end Go.Proofs.YtciadmjdadnolaaGreatDoor
