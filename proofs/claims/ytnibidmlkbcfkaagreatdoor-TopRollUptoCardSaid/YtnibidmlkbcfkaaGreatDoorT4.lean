/- Texts of this proof, one behind the other; each says its condition at its head. -/
import Derived.Shelf.Strconv.Atoi
import Derived.Shelf.Strconv.Itoa0
import Derived.Shelf.Strconv.Itoa1
import Derived.Shelf.LaysM
import Derived.Shelf.Strconv.Itoa2
import Derived.Shelf.Strconv.Itoa3
import Derived.Shelf.Strconv.AtoiErrFast
import Derived.Shelf.Strconv.ParseIntEmpty
import Derived.Shelf.Strconv.AtoiFail
import Derived.Shelf.Strconv.Clone
import Derived.Shelf.Strconv.SyntaxError
import Derived.Shelf.LaysC
import Derived.Shelf.Strconv.ToError
import Derived.Shelf.Strconv.Lower
import Derived.Shelf.Strconv.ParseUint10
import Derived.Shelf.Strconv.ParseUint10Empty
import Derived.Shelf.Strconv.ParseUint10Any
import Derived.Shelf.Strconv.ParseInt10
import Derived.Shelf.Strconv.AtoiLong
import Derived.Shelf.Strconv.AtoiInnerAll
import Derived.Shelf.Strconv.RangeError
import Derived.Shelf.Strconv.ToErrorRange
import Derived.Shelf.Strconv.AtoiAll
import Derived.Shelf.Strconv.ErrVarAll
import Derived.Shelf.Strings.Search1
import Derived.Shelf.Strings.Search2
import Derived.Shelf.Strings.Search3
import Derived.Shelf.Strings.Cut
import Derived.Shelf.Strings.Count
import Derived.Shelf.Strings.Shaped
import Derived.Shelf.Strings.Split
import Derived.Shelf.Bits.Mul64
import Derived.Shelf.Unicode.DecodeSlow
import Derived.Test.YtnibidmlkbcfkaaGreatDoorProg
import Derived.Test.YtnibidmlkbcfkaaGreatDoorT3
import Derived.Shelf.Spec.TrailingZeros
import Derived.Test.YtnibidmlkbcfkaaGreatDoorT1
import Derived.Test.YtnibidmlkbcfkaaGreatDoorRows
import Derived.WalkKit
import Derived.ProofKit
import Derived.LaidMore
import Derived.LaidHandle
import Derived.Lib.LaidTab
import Derived.Stop.Joined
import Derived.Stop.LaidErr
import Derived.Lay
import Derived.HandedShaped
import Derived.Shelf.Vars
namespace Go.Proofs.YtnibidmlkbcfkaaGreatDoor
/- The contracts of strings.Split, Cut and what they call, as the shelf's command prints them. Conditions: as each says. -/
section
open Go.Shelf
def sh_laysM171_ren : Go.Shelf.Ren := ⟨fun | 171 => 19 | 243 => 47 | 246 => 76 | 283 => 111 | 284 => 112 | 285 => 113 | 286 => 114 | 129 => 155 | 317 => 154 | 318 => 156 | 319 => 157 | 320 => 110 | 337 => 152 | 338 => 153 | n => n, fun | 3 => 3 | 9 => 9 | 2 => 2 | 4 => 4 | 171 => 162 | 0 => 0 | 53 => 163 | 37 => 105 | 5 => 5 | 173 => 166 | 212 => 202 | 51 => 200 | 20 => 20 | 213 => 203 | 46 => 46 | 232 => 276 | 233 => 277 | n => n, fun | 17 => 1 | 18 => 6 | 19 => 7 | n => n⟩
theorem sh_laysM171 : Go.Proofs.LaysM.n171 Tryz.prog sh_laysM171_ren := {
 mixed := by kernel_rfl
 f129 := Tryz.func155.trans (congrArg some (by kernel_rfl))
 f171 := Tryz.func19.trans (congrArg some (by kernel_rfl))
 f243 := Tryz.func47.trans (congrArg some (by kernel_rfl))
 f246 := Tryz.func76.trans (congrArg some (by kernel_rfl))
 f283 := Tryz.func111.trans (congrArg some (by kernel_rfl))
 f284 := Tryz.func112.trans (congrArg some (by kernel_rfl))
 f285 := Tryz.func113.trans (congrArg some (by kernel_rfl))
 f286 := Tryz.func114.trans (congrArg some (by kernel_rfl))
 f317 := Tryz.func154.trans (congrArg some (by kernel_rfl))
 f318 := Tryz.func156.trans (congrArg some (by kernel_rfl))
 f319 := Tryz.func157.trans (congrArg some (by kernel_rfl))
 f320 := Tryz.func110.trans (congrArg some (by kernel_rfl))
 f337 := Tryz.func152.trans (congrArg some (by kernel_rfl))
 f338 := Tryz.func153.trans (congrArg some (by kernel_rfl))
 t0 := Tryz.underlying0
 a0 := Tryz.isAgg0
 z0 := Tryz.sizeOf0
 v0 := Tryz.zeroValue0
 t2 := Tryz.underlying2
 a2 := Tryz.isAgg2
 z2 := Tryz.sizeOf2
 v2 := Tryz.zeroValue2
 t3 := Tryz.underlying3
 a3 := Tryz.isAgg3
 z3 := Tryz.sizeOf3
 v3 := Tryz.zeroValue3
 t4 := Tryz.underlying4
 a4 := Tryz.isAgg4
 z4 := Tryz.sizeOf4
 v4 := Tryz.zeroValue4
 t5 := Tryz.underlying5
 a5 := Tryz.isAgg5
 z5 := Tryz.sizeOf5
 v5 := Tryz.zeroValue5
 t9 := Tryz.underlying9
 a9 := Tryz.isAgg9
 z9 := Tryz.sizeOf9
 v9 := Tryz.zeroValue9
 t20 := Tryz.underlying20
 a20 := Tryz.isAgg20
 z20 := Tryz.sizeOf20
 v20 := Tryz.zeroValue20
 t37 := Tryz.underlying105
 a37 := Tryz.isAgg105
 z37 := Tryz.sizeOf105
 v37 := Tryz.zeroValue105
 t46 := Tryz.underlying46
 a46 := Tryz.isAgg46
 z46 := Tryz.sizeOf46
 v46 := Tryz.zeroValue46
 t51 := Tryz.underlying200
 a51 := Tryz.isAgg200
 z51 := Tryz.sizeOf200
 v51 := Tryz.zeroValue200
 t53 := Tryz.underlying163
 a53 := Tryz.isAgg163
 z53 := Tryz.sizeOf163
 v53 := Tryz.zeroValue163
 t171 := Tryz.underlying162
 a171 := Tryz.isAgg162
 z171 := Tryz.sizeOf162
 v171 := Tryz.zeroValue162
 t173 := Tryz.underlying166
 a173 := Tryz.isAgg166
 z173 := Tryz.sizeOf166
 v173 := Tryz.zeroValue166
 t212 := Tryz.underlying202
 a212 := Tryz.isAgg202
 z212 := Tryz.sizeOf202
 v212 := Tryz.zeroValue202
 t213 := Tryz.underlying203
 a213 := Tryz.isAgg203
 z213 := Tryz.sizeOf203
 t232 := Tryz.underlying276
 a232 := Tryz.isAgg276
 z232 := Tryz.sizeOf276
 v232 := Tryz.zeroValue276
 t233 := Tryz.underlying277
 a233 := Tryz.isAgg277
 z233 := Tryz.sizeOf277
 v233 := Tryz.zeroValue277
 g17 := by kernel_rfl
 g18 := by kernel_rfl
 g19 := by kernel_rfl
 i0 := by kernel_rfl
 i2 := by kernel_rfl
 i3 := by kernel_rfl
 i4 := by kernel_rfl
 i5 := by kernel_rfl
 i9 := by kernel_rfl
 i20 := by kernel_rfl
 i37 := by kernel_rfl
 i46 := by kernel_rfl
 i51 := by kernel_rfl
 i53 := by kernel_rfl
 i171 := by kernel_rfl
 i173 := by kernel_rfl
 i212 := by kernel_rfl
 i232 := by kernel_rfl
 i233 := by kernel_rfl
 m17 := by kernel_rfl
 m18 := by kernel_rfl
 m19 := by kernel_rfl }
open Go.RowKit Go.Sort Go.Lib in
theorem sh_strconv_Itoa (n : Int) (h0 : -9223372036854775808 ≤ n) (h1 : n ≤ 9223372036854775807) (w : World) (htab : Lib.TabIs Tryz.prog w "internal/strconv.uint64pow10" .u64 Lib.pow10Tab) :
 Calls Tryz.prog 19 #[.int .i64 n] w fun e w' => e = .returned (.string ⟨(Lib.itoa n).toArray⟩) ∧ ∃ k os, w' = grow (w.drewN k) os := Any.strconv_Itoa sh_laysM171 n h0 h1 w htab
def sh_laysC172_ren : Go.Shelf.Ren := ⟨fun | 172 => 51 | 244 => 80 | 245 => 81 | 247 => 115 | 279 => 116 | 280 => 117 | 281 => 118 | 282 => 119 | 287 => 158 | 316 => 159 | 171 => 19 | 205 => 160 | 321 => 198 | 322 => 199 | 243 => 47 | 246 => 76 | 283 => 111 | 284 => 112 | 285 => 113 | 286 => 114 | 129 => 155 | 317 => 154 | 318 => 156 | 319 => 157 | 320 => 110 | 337 => 152 | 338 => 153 | n => n, fun | 9 => 9 | 3 => 3 | 75 => 97 | 76 => 98 | 4 => 4 | 5 => 5 | 167 => 173 | 37 => 105 | 0 => 0 | 85 => 174 | 2 => 2 | 168 => 176 | 53 => 163 | 175 => 204 | 46 => 46 | 210 => 208 | 127 => 142 | 145 => 281 | 143 => 279 | 21 => 21 | 171 => 162 | 173 => 166 | 212 => 202 | 51 => 200 | 20 => 20 | 213 => 203 | 232 => 276 | 233 => 277 | 80 => 62 | n => n, fun | 15 => 2 | 16 => 3 | 17 => 1 | 18 => 6 | 19 => 7 | n => n⟩
theorem sh_laysC172 : Go.Proofs.LaysC.n172 Tryz.prog sh_laysC172_ren := {
 mixed := by kernel_rfl
 f129 := Tryz.func155.trans (congrArg some (by kernel_rfl))
 f171 := Tryz.func19.trans (congrArg some (by kernel_rfl))
 f172 := Tryz.func51.trans (congrArg some (by kernel_rfl))
 f205 := Tryz.func160.trans (congrArg some (by kernel_rfl))
 f243 := Tryz.func47.trans (congrArg some (by kernel_rfl))
 f244 := Tryz.func80.trans (congrArg some (by kernel_rfl))
 f245 := Tryz.func81.trans (congrArg some (by kernel_rfl))
 f246 := Tryz.func76.trans (congrArg some (by kernel_rfl))
 f247 := Tryz.func115.trans (congrArg some (by kernel_rfl))
 f279 := Tryz.func116.trans (congrArg some (by kernel_rfl))
 f280 := Tryz.func117.trans (congrArg some (by kernel_rfl))
 f281 := Tryz.func118.trans (congrArg some (by kernel_rfl))
 f282 := Tryz.func119.trans (congrArg some (by kernel_rfl))
 f283 := Tryz.func111.trans (congrArg some (by kernel_rfl))
 f284 := Tryz.func112.trans (congrArg some (by kernel_rfl))
 f285 := Tryz.func113.trans (congrArg some (by kernel_rfl))
 f286 := Tryz.func114.trans (congrArg some (by kernel_rfl))
 f287 := Tryz.func158.trans (congrArg some (by kernel_rfl))
 f316 := Tryz.func159.trans (congrArg some (by kernel_rfl))
 f317 := Tryz.func154.trans (congrArg some (by kernel_rfl))
 f318 := Tryz.func156.trans (congrArg some (by kernel_rfl))
 f319 := Tryz.func157.trans (congrArg some (by kernel_rfl))
 f320 := Tryz.func110.trans (congrArg some (by kernel_rfl))
 f321 := Tryz.func198.trans (congrArg some (by kernel_rfl))
 f322 := Tryz.func199.trans (congrArg some (by kernel_rfl))
 f337 := Tryz.func152.trans (congrArg some (by kernel_rfl))
 f338 := Tryz.func153.trans (congrArg some (by kernel_rfl))
 t0 := Tryz.underlying0
 a0 := Tryz.isAgg0
 z0 := Tryz.sizeOf0
 v0 := Tryz.zeroValue0
 t2 := Tryz.underlying2
 a2 := Tryz.isAgg2
 z2 := Tryz.sizeOf2
 v2 := Tryz.zeroValue2
 t3 := Tryz.underlying3
 a3 := Tryz.isAgg3
 z3 := Tryz.sizeOf3
 v3 := Tryz.zeroValue3
 t4 := Tryz.underlying4
 a4 := Tryz.isAgg4
 z4 := Tryz.sizeOf4
 v4 := Tryz.zeroValue4
 t5 := Tryz.underlying5
 a5 := Tryz.isAgg5
 z5 := Tryz.sizeOf5
 v5 := Tryz.zeroValue5
 t9 := Tryz.underlying9
 a9 := Tryz.isAgg9
 z9 := Tryz.sizeOf9
 v9 := Tryz.zeroValue9
 t20 := Tryz.underlying20
 a20 := Tryz.isAgg20
 z20 := Tryz.sizeOf20
 v20 := Tryz.zeroValue20
 t21 := Tryz.underlying21
 a21 := Tryz.isAgg21
 z21 := Tryz.sizeOf21
 v21 := Tryz.zeroValue21
 t37 := Tryz.underlying105
 a37 := Tryz.isAgg105
 z37 := Tryz.sizeOf105
 v37 := Tryz.zeroValue105
 t46 := Tryz.underlying46
 a46 := Tryz.isAgg46
 z46 := Tryz.sizeOf46
 v46 := Tryz.zeroValue46
 t51 := Tryz.underlying200
 a51 := Tryz.isAgg200
 z51 := Tryz.sizeOf200
 v51 := Tryz.zeroValue200
 t53 := Tryz.underlying163
 a53 := Tryz.isAgg163
 z53 := Tryz.sizeOf163
 v53 := Tryz.zeroValue163
 t75 := Tryz.underlying97
 a75 := Tryz.isAgg97
 z75 := Tryz.sizeOf97
 v75 := Tryz.zeroValue97
 t76 := Tryz.underlying98
 a76 := Tryz.isAgg98
 z76 := Tryz.sizeOf98
 v76 := Tryz.zeroValue98
 t85 := Tryz.underlying174
 a85 := Tryz.isAgg174
 z85 := Tryz.sizeOf174
 v85 := Tryz.zeroValue174
 t127 := Tryz.underlying142
 a127 := Tryz.isAgg142
 z127 := Tryz.sizeOf142
 v127 := Tryz.zeroValue142
 t143 := Tryz.underlying279
 a143 := Tryz.isAgg279
 z143 := Tryz.sizeOf279
 v143 := Tryz.zeroValue279
 t145 := Tryz.underlying281
 a145 := Tryz.isAgg281
 z145 := Tryz.sizeOf281
 v145 := Tryz.zeroValue281
 t167 := Tryz.underlying173
 a167 := Tryz.isAgg173
 z167 := Tryz.sizeOf173
 v167 := Tryz.zeroValue173
 t168 := Tryz.underlying176
 a168 := Tryz.isAgg176
 z168 := Tryz.sizeOf176
 v168 := Tryz.zeroValue176
 t171 := Tryz.underlying162
 a171 := Tryz.isAgg162
 z171 := Tryz.sizeOf162
 v171 := Tryz.zeroValue162
 t173 := Tryz.underlying166
 a173 := Tryz.isAgg166
 z173 := Tryz.sizeOf166
 v173 := Tryz.zeroValue166
 t175 := Tryz.underlying204
 a175 := Tryz.isAgg204
 z175 := Tryz.sizeOf204
 v175 := Tryz.zeroValue204
 t210 := Tryz.underlying208
 a210 := Tryz.isAgg208
 z210 := Tryz.sizeOf208
 v210 := Tryz.zeroValue208
 t212 := Tryz.underlying202
 a212 := Tryz.isAgg202
 z212 := Tryz.sizeOf202
 v212 := Tryz.zeroValue202
 t213 := Tryz.underlying203
 a213 := Tryz.isAgg203
 z213 := Tryz.sizeOf203
 t232 := Tryz.underlying276
 a232 := Tryz.isAgg276
 z232 := Tryz.sizeOf276
 v232 := Tryz.zeroValue276
 t233 := Tryz.underlying277
 a233 := Tryz.isAgg277
 z233 := Tryz.sizeOf277
 v233 := Tryz.zeroValue277
 g15 := by kernel_rfl
 g16 := by kernel_rfl
 g17 := by kernel_rfl
 g18 := by kernel_rfl
 g19 := by kernel_rfl
 t80 := Tryz.underlying62
 a80 := Tryz.isAgg62
 z80 := Tryz.sizeOf62
 v80 := Tryz.zeroValue62
 i0 := by kernel_rfl
 i2 := by kernel_rfl
 i3 := by kernel_rfl
 i4 := by kernel_rfl
 i5 := by kernel_rfl
 i9 := by kernel_rfl
 i20 := by kernel_rfl
 i21 := by kernel_rfl
 i37 := by kernel_rfl
 i46 := by kernel_rfl
 i51 := by kernel_rfl
 i53 := by kernel_rfl
 i75 := by kernel_rfl
 i76 := by kernel_rfl
 i80 := by kernel_rfl
 i85 := by kernel_rfl
 i127 := by kernel_rfl
 i143 := by kernel_rfl
 i145 := by kernel_rfl
 i167 := by kernel_rfl
 i168 := by kernel_rfl
 i171 := by kernel_rfl
 i173 := by kernel_rfl
 i175 := by kernel_rfl
 i210 := by kernel_rfl
 i212 := by kernel_rfl
 i232 := by kernel_rfl
 i233 := by kernel_rfl
 m15 := by kernel_rfl
 m16 := by kernel_rfl
 m17 := by kernel_rfl
 m18 := by kernel_rfl
 m19 := by kernel_rfl
 c0 := by kernel_rfl
 c2 := by kernel_rfl
 c3 := by kernel_rfl
 c4 := by kernel_rfl
 c5 := by kernel_rfl
 c9 := by kernel_rfl
 c20 := by kernel_rfl
 c21 := by kernel_rfl
 c37 := by kernel_rfl
 c46 := by kernel_rfl
 c51 := by kernel_rfl
 c53 := by kernel_rfl
 c75 := by kernel_rfl
 c76 := by kernel_rfl
 c80 := by kernel_rfl
 c85 := by kernel_rfl
 c127 := by kernel_rfl
 c143 := by kernel_rfl
 c145 := by kernel_rfl
 c167 := by kernel_rfl
 c168 := by kernel_rfl
 c171 := by kernel_rfl
 c173 := by kernel_rfl
 c175 := by kernel_rfl
 c210 := by kernel_rfl
 c212 := by kernel_rfl
 c213 := by kernel_rfl
 c232 := by kernel_rfl
 c233 := by kernel_rfl }
open Go.RowKit in
theorem sh_strconv_Atoi_ok (s : ByteArray) (hmax : s.size ≤ 9223372036854775806) (v : Int) (h : Lib.atoiAll s.data.toList = .ok v) (w : World) :
 Calls Tryz.prog 51 #[.string s] w fun e w' => e = .returned (.tuple #[.int .i64 v, .nilIface]) ∧ (w' = w ∨ ∃ t, w' = Lib.bytesWorld w 5 t) := Any.strconv_Atoi_ok sh_laysC172 s hmax v h w
open Go.RowKit in
theorem sh_strconv_Atoi_syntax (s : ByteArray) (hlim : s.size ≤ 281474976710656) {r : Lib.NumEnd Int} (h : Lib.atoiAll s.data.toList = r) (k1 : ∀ v, r ≠ .ok v) (k2 : r ≠ .range) (ev : Value) (w : World) (hv : w.cell? ⟨2, 0, none⟩ = some ev) (hev : ev = .nilIface ∨ ∃ te pe, ev = .iface te pe) :
 Calls Tryz.prog 51 #[.string s] w fun e w' => ∃ N, e = .returned (.tuple #[.int .i64 (0), .iface 176 (.pointer (some ⟨N, 0, none⟩))]) ∧ w.heap.size ≤ N ∧ w'.heap[N]? = some (.cells #[.string ⟨#[65, 116, 111, 105]⟩, .string s, ev] 208 (0, 0)) ∧ Below w.heap.size w w' := by
 cases r
 case ok v => exact absurd rfl (k1 v)
 case range => exact absurd rfl k2
 exact Any.strconv_Atoi_syntax sh_laysC172 s hlim h ev w hv hev
open Go.RowKit in
theorem sh_strconv_Atoi_range (s : ByteArray) (hlim : s.size ≤ 281474976710656) (h : Lib.atoiAll s.data.toList = .range) (ev : Value) (w : World) (hv : w.cell? ⟨3, 0, none⟩ = some ev) (hev : ev = .nilIface ∨ ∃ te pe, ev = .iface te pe) :
 Calls Tryz.prog 51 #[.string s] w fun e w' => ∃ N, e = .returned (.tuple #[.int .i64 (Lib.atoiSat s.data.toList), .iface 176 (.pointer (some ⟨N, 0, none⟩))]) ∧ w.heap.size ≤ N ∧ w'.heap[N]? = some (.cells #[.string ⟨#[65, 116, 111, 105]⟩, .string s, ev] 208 (0, 0)) ∧ Below w.heap.size w w' := Any.strconv_Atoi_range sh_laysC172 s hlim h ev w hv hev
def sh_lays145_ren : Go.Shelf.Ren := ⟨fun | 145 => 49 | 220 => 78 | 219 => 92 | 217 => 130 | 225 => 131 | 224 => 132 | 267 => 133 | 266 => 167 | 314 => 168 | n => n, fun | 9 => 9 | 4 => 4 | 59 => 93 | 3 => 3 | 5 => 5 | 46 => 46 | 146 => 226 | 51 => 200 | n => n, fun | 1 => 0 | n => n⟩
theorem sh_lays145 : Go.Proofs.Lays.n145 Tryz.prog sh_lays145_ren := {
 mixed := by kernel_rfl
 f145 := Tryz.func49.trans (congrArg some (by kernel_rfl))
 f217 := Tryz.func130.trans (congrArg some (by kernel_rfl))
 f219 := Tryz.func92.trans (congrArg some (by kernel_rfl))
 f220 := Tryz.func78.trans (congrArg some (by kernel_rfl))
 f224 := Tryz.func132.trans (congrArg some (by kernel_rfl))
 f225 := Tryz.func131.trans (congrArg some (by kernel_rfl))
 f266 := Tryz.func167.trans (congrArg some (by kernel_rfl))
 f267 := Tryz.func133.trans (congrArg some (by kernel_rfl))
 f314 := Tryz.func168.trans (congrArg some (by kernel_rfl))
 t3 := Tryz.underlying3
 a3 := Tryz.isAgg3
 z3 := Tryz.sizeOf3
 v3 := Tryz.zeroValue3
 t4 := Tryz.underlying4
 a4 := Tryz.isAgg4
 z4 := Tryz.sizeOf4
 v4 := Tryz.zeroValue4
 t5 := Tryz.underlying5
 a5 := Tryz.isAgg5
 z5 := Tryz.sizeOf5
 v5 := Tryz.zeroValue5
 t9 := Tryz.underlying9
 a9 := Tryz.isAgg9
 z9 := Tryz.sizeOf9
 v9 := Tryz.zeroValue9
 t46 := Tryz.underlying46
 a46 := Tryz.isAgg46
 z46 := Tryz.sizeOf46
 v46 := Tryz.zeroValue46
 t51 := Tryz.underlying200
 a51 := Tryz.isAgg200
 z51 := Tryz.sizeOf200
 v51 := Tryz.zeroValue200
 t59 := Tryz.underlying93
 a59 := Tryz.isAgg93
 z59 := Tryz.sizeOf93
 v59 := Tryz.zeroValue93
 t146 := Tryz.underlying226
 a146 := Tryz.isAgg226
 z146 := Tryz.sizeOf226
 v146 := Tryz.zeroValue226
 g1 := by kernel_rfl }
open Go.RowKit Go.Lib in
theorem sh_strings_Cut (s sep : ByteArray) (m : Int) (w : World) (hs : s.size < 4294967281) (hm : w.cell? ⟨0, 0, none⟩ = some (.int .i64 m)) :
 Calls Tryz.prog 49 #[.string s, .string sep] w fun e w' => e = .returned (.tuple #[.string ⟨(Lib.cut s.data.toList sep.data.toList).1.toArray⟩, .string ⟨(Lib.cut s.data.toList sep.data.toList).2.1.toArray⟩, .bool (Lib.cut s.data.toList sep.data.toList).2.2]) ∧ ∃ n, w' = w.drewN n := Any.strings_Cut sh_lays145 s sep m w hs hm
def sh_lays146_ren : Go.Shelf.Ren := ⟨fun | 146 => 9 | 221 => 35 | 268 => 65 | 138 => 66 | 143 => 67 | 195 => 89 | 197 => 90 | 218 => 91 | 219 => 92 | 260 => 129 | 217 => 130 | 225 => 131 | 224 => 132 | 267 => 133 | 266 => 167 | 314 => 168 | n => n, fun | 9 => 9 | 31 => 22 | 3 => 3 | 4 => 4 | 0 => 0 | 105 => 153 | 21 => 21 | 5 => 5 | 46 => 46 | 119 => 222 | 139 => 225 | 138 => 224 | 146 => 226 | 51 => 200 | n => n, fun | 1 => 0 | 3 => 4 | 4 => 5 | n => n⟩
theorem sh_lays146 : Go.Proofs.Lays.n146 Tryz.prog sh_lays146_ren := {
 mixed := by kernel_rfl
 f138 := Tryz.func66.trans (congrArg some (by kernel_rfl))
 f143 := Tryz.func67.trans (congrArg some (by kernel_rfl))
 f146 := Tryz.func9.trans (congrArg some (by kernel_rfl))
 f195 := Tryz.func89.trans (congrArg some (by kernel_rfl))
 f197 := Tryz.func90.trans (congrArg some (by kernel_rfl))
 f217 := Tryz.func130.trans (congrArg some (by kernel_rfl))
 f218 := Tryz.func91.trans (congrArg some (by kernel_rfl))
 f219 := Tryz.func92.trans (congrArg some (by kernel_rfl))
 f221 := Tryz.func35.trans (congrArg some (by kernel_rfl))
 f224 := Tryz.func132.trans (congrArg some (by kernel_rfl))
 f225 := Tryz.func131.trans (congrArg some (by kernel_rfl))
 f260 := Tryz.func129.trans (congrArg some (by kernel_rfl))
 f266 := Tryz.func167.trans (congrArg some (by kernel_rfl))
 f267 := Tryz.func133.trans (congrArg some (by kernel_rfl))
 f268 := Tryz.func65.trans (congrArg some (by kernel_rfl))
 f314 := Tryz.func168.trans (congrArg some (by kernel_rfl))
 t0 := Tryz.underlying0
 a0 := Tryz.isAgg0
 z0 := Tryz.sizeOf0
 v0 := Tryz.zeroValue0
 t3 := Tryz.underlying3
 a3 := Tryz.isAgg3
 z3 := Tryz.sizeOf3
 v3 := Tryz.zeroValue3
 t4 := Tryz.underlying4
 a4 := Tryz.isAgg4
 z4 := Tryz.sizeOf4
 v4 := Tryz.zeroValue4
 t5 := Tryz.underlying5
 a5 := Tryz.isAgg5
 z5 := Tryz.sizeOf5
 v5 := Tryz.zeroValue5
 t9 := Tryz.underlying9
 a9 := Tryz.isAgg9
 z9 := Tryz.sizeOf9
 v9 := Tryz.zeroValue9
 t21 := Tryz.underlying21
 a21 := Tryz.isAgg21
 z21 := Tryz.sizeOf21
 v21 := Tryz.zeroValue21
 t31 := Tryz.underlying22
 a31 := Tryz.isAgg22
 z31 := Tryz.sizeOf22
 v31 := Tryz.zeroValue22
 t46 := Tryz.underlying46
 a46 := Tryz.isAgg46
 z46 := Tryz.sizeOf46
 v46 := Tryz.zeroValue46
 t51 := Tryz.underlying200
 a51 := Tryz.isAgg200
 z51 := Tryz.sizeOf200
 v51 := Tryz.zeroValue200
 t105 := Tryz.underlying153
 a105 := Tryz.isAgg153
 z105 := Tryz.sizeOf153
 v105 := Tryz.zeroValue153
 t119 := Tryz.underlying222
 a119 := Tryz.isAgg222
 z119 := Tryz.sizeOf222
 t138 := Tryz.underlying224
 a138 := Tryz.isAgg224
 z138 := Tryz.sizeOf224
 v138 := Tryz.zeroValue224
 t139 := Tryz.underlying225
 a139 := Tryz.isAgg225
 z139 := Tryz.sizeOf225
 v139 := Tryz.zeroValue225
 t146 := Tryz.underlying226
 a146 := Tryz.isAgg226
 z146 := Tryz.sizeOf226
 v146 := Tryz.zeroValue226
 g1 := by kernel_rfl
 g3 := by kernel_rfl
 g4 := by kernel_rfl }
open Go.RowKit Go.Lib in
theorem sh_strings_Split (s sep : ByteArray) (m : Int) (w : World) (hs : s.size < 4294967281) (hm : w.cell? ⟨0, 0, none⟩ = some (.int .i64 m)) (h1 : 1 ≤ sep.size) :
 Calls Tryz.prog 9 #[.string s, .string sep] w fun e w' =>
  e = .returned (.slice (some ⟨w.heap.size, 0, none⟩) (Lib.countB s sep + 1) (Lib.countB s sep + 1)) ∧ w' = w.alloc (.cells ((Lib.splitB sep 0 (Lib.countB s sep) s).map Value.string).toArray 9) := Any.strings_Split sh_lays146 (by kernel_rfl) s sep m w hs hm h1
def sh_lays212_ren : Go.Shelf.Ren := ⟨fun | 212 => 259 | 263 => 264 | 264 => 265 | n => n, fun | 46 => 46 | 51 => 200 | 146 => 226 | 53 => 163 | 148 => 357 | n => n, fun | n => n⟩
theorem sh_lays212 : Go.Proofs.Lays.n212 Tryz.prog sh_lays212_ren := {
 mixed := by kernel_rfl
 f212 := Tryz.func259.trans (congrArg some (by kernel_rfl))
 f263 := Tryz.func264.trans (congrArg some (by kernel_rfl))
 f264 := Tryz.func265.trans (congrArg some (by kernel_rfl))
 t46 := Tryz.underlying46
 a46 := Tryz.isAgg46
 z46 := Tryz.sizeOf46
 v46 := Tryz.zeroValue46
 t51 := Tryz.underlying200
 a51 := Tryz.isAgg200
 z51 := Tryz.sizeOf200
 v51 := Tryz.zeroValue200
 t53 := Tryz.underlying163
 a53 := Tryz.isAgg163
 z53 := Tryz.sizeOf163
 v53 := Tryz.zeroValue163
 t146 := Tryz.underlying226
 a146 := Tryz.isAgg226
 z146 := Tryz.sizeOf226
 v146 := Tryz.zeroValue226
 t148 := Tryz.underlying357
 a148 := Tryz.isAgg357
 z148 := Tryz.sizeOf357
 v148 := Tryz.zeroValue357 }
open Go.RowKit Go.Lib in
theorem sh_bits_Mul (x y : Nat) (hx : x < 18446744073709551616) (hy : y < 18446744073709551616) (w : World) :
 Calls Tryz.prog 259 #[.int .u64 x, .int .u64 y] w fun e w' => e = .returned (.tuple #[.int .u64 ((x * y / 18446744073709551616 : Nat) : Int), .int .u64 ((x * y % 18446744073709551616 : Nat) : Int)]) ∧ w' = w := Any.bits_Mul sh_lays212 x y hx hy w
end
/- Walks of isLine and of a rule's read, at texts whose parts are known. Conditions: the library's MaxLen stands in its variable; the parts are known. -/
section
open Go.RowKit Go.Maps
/-- The library's MaxLen in its variable. -/
def MaxL (w : World) : Prop := ∃ m : Int, w.cell? ⟨0, 0, none⟩ = some (.int .i64 m)
theorem MaxL.keep {w w' : World} (h : MaxL w) (hb : Below w.heap.size w w') : MaxL w' := by
 obtain ⟨m, hm⟩ := h
 exact ⟨m, cell_keep hb hm⟩
/-- A text's parts between blanks. -/
def Parts (s : ByteArray) (l : List ByteArray) : Prop := ∀ w, MaxL w → Calls Tryz.prog 9 #[.string s, .string ⟨#[32]⟩] w fun e w' =>
 e = .returned (.slice (some ⟨w.heap.size, 0, none⟩) l.length l.length) ∧ w.alloc (.cells (strV l).toArray 9) = w'
theorem parts_of {s : ByteArray} {l : List ByteArray} (hs : s.size < 4294967281) (h : Lib.splitB ⟨#[32]⟩ 0 (Lib.countB s ⟨#[32]⟩) s = l) (hn : Lib.countB s ⟨#[32]⟩ + 1 = l.length) : Parts s l := fun w ⟨m, hm⟩ => by
 have c := sh_strings_Split s ⟨#[32]⟩ m w hs hm (by decide)
 rw [h, hn] at c
 exact c.mono fun _ _ ⟨h1, h2⟩ => ⟨h1, h2.symm⟩
theorem u8_line (w : World) (l : List UInt8) : LineS w (u8V l) fun i => match l[i]? with | some b => odd8 b | none => false := fun i v hv => by
 unfold u8V at hv
 rw [List.getElem?_map] at hv
 obtain ⟨b, hb, rfl⟩ := Option.map_eq_some_iff.1 hv
 simp only [hb]
 exact line1 b w
theorem bytes_sl (w : World) (s : ByteArray) (C : Nat) (T : TypeId) (fr : Nat × Nat) (h1 : s.size ≤ C) (h2 : C ≤ maxLen) : Sl (w.alloc (.cells (bytesRow s C) T fr)) (some ⟨w.heap.size, 0, none⟩) s.size C (u8V s.data.toList) := by
 have hl : s.data.size = s.size := rfl
 refine ⟨by simp [u8V], h1, h2, fun _ => ⟨w.heap.size, 0, rfl, by simp, fun j u hu => ?_⟩⟩
 rw [Nat.zero_add, cell_of_row _ w.heap.size j (bytesRow s C) T fr (heap_alloc_new w _)]
 unfold u8V at hu
 rw [List.getElem?_map] at hu
 obtain ⟨b, hb, rfl⟩ := Option.map_eq_some_iff.1 hu
 unfold bytesRow
 have hj : j < s.data.size := by have := (List.getElem?_eq_some_iff.1 hb).1; simpa using this
 rw [Array.getElem?_append_left (by simpa using hj), Array.getElem?_map]
 rw [Array.getElem?_toList] at hb
 rw [hb]
 rfl
end
/- The contract of math/bits.TrailingZeros64 and TrailingZeros, laid at this program. Condition: the library's table of 64 numbers stands in its variable. -/
section
open Go.Shelf Go.RowKit
def tz_ren : Go.Shelf.Ren := ⟨fun | 29 => 153 | n => n, fun | 22 => 163 | 25 => 46 | 54 => 277 | n => n, fun | 1 => 7 | n => n⟩
theorem tzLays : Go.Proofs.Lays7.n29 Tryz.prog tz_ren := {
 mixed := by kernel_rfl
 f29 := Tryz.func153.trans (congrArg some (by kernel_rfl))
 t0 := Tryz.underlying0
 a0 := Tryz.isAgg0
 z0 := Tryz.sizeOf0
 v0 := Tryz.zeroValue0
 i0 := by kernel_rfl
 t3 := Tryz.underlying3
 a3 := Tryz.isAgg3
 z3 := Tryz.sizeOf3
 v3 := Tryz.zeroValue3
 i3 := by kernel_rfl
 t4 := Tryz.underlying4
 a4 := Tryz.isAgg4
 z4 := Tryz.sizeOf4
 v4 := Tryz.zeroValue4
 i4 := by kernel_rfl
 t5 := Tryz.underlying5
 a5 := Tryz.isAgg5
 z5 := Tryz.sizeOf5
 v5 := Tryz.zeroValue5
 i5 := by kernel_rfl
 t22 := Tryz.underlying163
 a22 := Tryz.isAgg163
 z22 := Tryz.sizeOf163
 v22 := Tryz.zeroValue163
 i22 := by kernel_rfl
 t25 := Tryz.underlying46
 a25 := Tryz.isAgg46
 z25 := Tryz.sizeOf46
 v25 := Tryz.zeroValue46
 i25 := by kernel_rfl
 t54 := Tryz.underlying277
 a54 := Tryz.isAgg277
 z54 := Tryz.sizeOf277
 g1 := by kernel_rfl }
/-- The library's table in its variable. -/
def Tab (w : World) : Prop := TabAt 7 Lib.deBruijn64tab w
theorem Tab.below {w w' : World} (h : Tab w) (hb : Below w.heap.size w w') : Tab w' := fun j hj => cell_keep hb (h j hj)
theorem Tab.grown {w w' : World} {row : Option Nat} (h : Tab w) (hg : w.grownBy w' row) (hr : row ≠ some 7) : Tab w' := fun j hj =>
 (World.cell?_of_block (a := ⟨7, j, none⟩) (hg.block 7 (World.block_lt_of_cell? _ _ (h j hj)) (fun e => hr e.symm))).trans (h j hj)
theorem Tab.pos {w : World} (h : Tab w) : 7 < w.heap.size := World.block_lt_of_cell? _ _ (h 0 (by decide))
theorem tz64 (x : Nat) (hx : x < 18446744073709551616) (w : World) (hT : Tab w) :
 Calls Tryz.prog 153 #[.int .u64 x] w fun e w' => e = .returned (.int .i64 (Lib.ctz 64 x)) ∧ w = w' :=
 (Any7.bits_TrailingZeros64 tzLays x hx w (fun _ => hT)).mono fun _ _ ⟨he, hw⟩ => ⟨he, hw.symm⟩
set_option maxRecDepth 100000 in
theorem tzU (x : Nat) (hx : x < 18446744073709551616) (w : World) (hT : Tab w) :
 Calls Tryz.prog 110 #[.int .u64 x] w fun e w' => e = .returned (.int .i64 (Lib.ctz 64 x)) ∧ w = w' := by
 have HT := hid (tz64 x hx w hT)
 clear hT
 generalize Lib.ctz 64 x = k at *
 go_enter Tryz.func110, Tryz.ntmps110
 go_wp2_with fail
 refine (HT.out).mono ?_; rintro e w' ⟨rfl, rfl⟩
 go_wp2
 go_ret
 exact ⟨rfl, rfl⟩
end
/- What the rows' condition and the world's shape give the walks: the table of trailing zeros; MaxLen's cell; and a start that meets the condition. No condition. -/
section
open Go Go.ChangeShapes Go.WideShapes Go.ChangeAt Go.RowKit
theorem own : ownKnob Tryz.prog.godebug = none := by kernel_rfl
theorem laidOut : laidOutB Tryz.prog = true := by kernel_rfl
def laidRest : List (String × DataW Unit) := [("internal/strconv.uint64pow10", Rows.laid_internal_strconv_uint64pow10), ("unicode/utf8.acceptRanges", Rows.laid_unicode_utf8_acceptRanges), ("strconv.ErrRange", Rows.laid_strconv_ErrRange), ("strconv.ErrSyntax", Rows.laid_strconv_ErrSyntax), ("unicode/utf8.first", Rows.laid_unicode_utf8_first)]
def laid : List (String × DataW Unit) := ("math/bits.deBruijn32tab", Rows.laid_math_bits_deBruijn32tab) :: ("math/bits.deBruijn64tab", Rows.laid_math_bits_deBruijn64tab) :: laidRest
theorem gTab : Tryz.prog.globalNamed "math/bits.deBruijn64tab" = some 7 := by kernel_rfl
theorem tTab : (Tryz.prog.globals[7]?).map (·.type) = some 277 := by kernel_rfl
set_option maxRecDepth 100000 in
theorem tab_is : (Rows.laid_math_bits_deBruijn64tab : DataW Unit) = Lib.tabData .u8 (Lib.deBruijn64tab.map Int.ofNat) := by kernel_rfl
set_option maxRecDepth 100000 in
theorem laid_plain (w : World) : laidMetH Tryz.prog laid w = laidMet Tryz.prog laid w := MakeChecks.laidMetH_plain _ _ _ (by kernel_rfl)
set_option maxRecDepth 100000 in
theorem door_met (os : Os) (args : Array Value) : laidMetH Tryz.prog laid ((World.laidAll Tryz.prog os laid).forCall (fun _ _ => 0) ⟨#[], args, []⟩).memory := by
 rw [laid_plain]
 exact laidMet_laidAll _ (by kernel_rfl) (by kernel_rfl)
/-- What the condition gives the walk: the table's cells. -/
theorem of_laid {W : World} (h : laidMetH Tryz.prog laid W) : Tab W := by
 rw [laid_plain] at h
 have h2 : laidMet Tryz.prog (("math/bits.deBruijn64tab", Lib.tabData .u8 (Lib.deBruijn64tab.map Int.ofNat)) :: laidRest) W := by
  rw [← tab_is]
  exact laidMet.tail h
 have ht := Lib.tabIs_of_head gTab tTab Tryz.underlying277 Tryz.underlying5 (by kernel_rfl) (by kernel_rfl) h2
 intro j hj
 have := ht.cell gTab j (by simpa using hj)
 rw [this]
 congr 2
 rw [List.getD_eq_getElem?_getD, List.getElem?_map, List.getElem?_eq_getElem hj, List.getD_eq_getElem?_getD, List.getElem?_eq_getElem hj]
 rfl
/-- What the world's shape gives the walk. -/
theorem of_shape {W : World} (h : W.ShapedOpen Tryz.prog) : MaxL W :=
 cell_of_shapedOpen_int (t := 3) (zero := #[.int .i64 0]) h (of_decide_eq_true (by kernel_rfl)) (by kernel_rfl) rfl (by kernel_rfl) (by kernel_rfl) Tryz.underlying3
section
variable {H : Type} {enc : TypeId × Value → H}
end
end
/- Walk of a rule's read, at a rule that has names alone. Conditions: the text's parts are known, and are names; the library's MaxLen stands in its variable. -/
section
open Go.RowKit Go.Maps
/-- A name: one to eight small letters. -/
def IsNm (x : ByteArray) : Prop := (∀ i (h : i < x.size), notLow (x[i]'h) = false) ∧ 0 < x.size ∧ x.size ≤ 8
theorem Sl.grown {w w' : World} {b o n c : Nat} {xs : List Value} {row : Option Nat} (h : Sl w (some ⟨b, o, none⟩) n c xs) (hg : w.grownBy w' row) (hb : row ≠ some b) : Sl w' (some ⟨b, o, none⟩) n c xs :=
 ⟨h.len, h.cap, h.capm, fun hn => by
  obtain ⟨b', o', e, hl, hc⟩ := h.pos hn
  cases e
  exact ⟨b, o, rfl, Nat.lt_of_lt_of_le hl hg.size, fun j u hu => (World.cell?_of_block (a := ⟨b, o + j, none⟩) (hg.block b hl (fun e => hb e.symm))).trans (hc j u hu)⟩⟩
/-- What stands while the names are read: d of them. -/
structure RdS (w W : World) (rb lb d : Nat) (R : Array Value) (v : Value) (l : List ByteArray) : Prop where
 rule : Blk W rb 122 R
 line : Blk W lb 124 #[v, .slice none 0 0]
 own : W.ownsRow (w.heap.size + 3) 9 1 v d (strV (l.take d))
 words : Sl W (some ⟨w.heap.size + 2, 1, none⟩) l.length l.length (strV l)
 big : w.heap.size + 3 ≤ W.heap.size
 low : Below w.heap.size w W
 hr : w.heap.size ≤ rb
 hl : w.heap.size ≤ lb
 hl2 : lb < w.heap.size + 2
section
variable {w W W' : World} {rb lb d : Nat} {R : Array Value} {v : Value} {l : List ByteArray}
theorem RdS.below (h : RdS w W rb lb d R v l) (hb : Below W.heap.size W W') : RdS w W' rb lb d R v l :=
 ⟨h.rule.keep hb, h.line.keep hb, own_below h.own hb, h.words.below hb, Nat.le_trans h.big hb.size, below_call h.low hb h.low.size, h.hr, h.hl, h.hl2⟩
theorem RdS.push {v1 : Value} {x : ByteArray} (h : RdS w W rb lb d R v l) (hx : l[d]? = some x) (ho : W'.ownsRow (w.heap.size + 3) 9 1 v1 (d + 1) (strV (l.take d) ++ [.string x])) (hg : (W.alloc (.cells #[.string x] 9)).grownBy W' v.ownBlock) :
 Blk W' lb 124 #[v, .slice none 0 0] ∧ RdS w (W'.setCell ⟨lb, 0, none⟩ v1) rb lb (d + 1) R v1 l := by
 have hl := (h.line.alloc (.cells #[.string x] 9)).grown hg (own_ne_blk h.own h.line (by decide))
 have hr := (h.rule.alloc (.cells #[.string x] 9)).grown hg (own_ne_blk h.own h.rule (by decide))
 have hlow := below_push h.low h.own hg h.low.size (by omega)
 have hw := (h.words.alloc (.cells #[.string x] 9)).grown hg (fun e => by have := (h.own.lt _ e).1; omega)
 have hw2 := hw.grown (setGrown W' ⟨lb, 0, none⟩ v1) (by have := h.hl2; simp; omega)
 refine ⟨hl, hr.far (p := ⟨lb, 0, none⟩) (blk_neM hr hl (by decide)) _, hl.set 0 v1, ?_, hw2, ?_, hlow.setCell (p := ⟨lb, 0, none⟩) h.hl _, h.hr, h.hl, h.hl2⟩
 rotate_left
 · have := hg.size; have := h.big; simp at *; omega
 have e : strV (l.take (d + 1)) = strV (l.take d) ++ [.string x] := by unfold strV; rw [List.take_add_one, hx]; simp
 rw [e]
 exact own_grown ho hl (by decide) (setGrown W' ⟨lb, 0, none⟩ v1)
end
theorem Sl.drop1 {w : World} {b n : Nat} {x : Value} {xs : List Value} (h : Sl w (some ⟨b, 0, none⟩) (n + 1) (n + 1) (x :: xs)) : Sl w (some ⟨b, 1, none⟩) n n xs :=
 ⟨by have := h.len; simpa using this, Nat.le_refl _, by have := h.capm; omega, fun _ => by
  obtain ⟨b', o, e, hb, hc⟩ := h.pos (by omega)
  cases e
  exact ⟨b, 1, rfl, hb, fun j u hu => by have := hc (j + 1) u (by simpa using hu); rwa [show 0 + (j + 1) = 1 + j by omega] at this⟩⟩
set_option maxRecDepth 100000 in
set_option maxHeartbeats 4000000 in
theorem readBare (f1 f2 : Value) (s w0 : ByteArray) (hp : Parts s [w0]) (w : World) (hm : MaxL w) :
 Calls Tryz.prog 93 #[.agg #[.int .i64 0, .int .i64 0, f1, f2], .string s] w fun e w' => e = .returned (.tuple #[.agg #[.slice none 0 0, .slice none 0 0], .bool true]) ∧ Below w.heap.size w w' := by
 have b2 : Below w.heap.size w ((w.alloc (.cells #[.int .i64 0, .int .i64 0, f1, f2] 122)).alloc (.cells #[.slice none 0 0, .slice none 0 0] 124)) := ((Below.refl _ w).alloc (Nat.le_refl _) _).alloc (by simp) _
 have HP2 := hid (hp _ (hm.keep b2))
 have hsz2 : ((w.alloc (.cells #[.int .i64 0, .int .i64 0, f1, f2] 122)).alloc (.cells #[.slice none 0 0, .slice none 0 0] 124)).heap.size = w.heap.size + 2 := by simp
 have HLO := hid (b2.alloc b2.size (.cells (strV [w0]).toArray 9))
 have HRU := hid (((Blk.new w 122 #[.int .i64 0, .int .i64 0, f1, f2]).alloc (.cells #[.slice none 0 0, .slice none 0 0] 124)).alloc (.cells (strV [w0]).toArray 9))
 have HLI := hid ((Blk.new_at (w.alloc (.cells #[.int .i64 0, .int .i64 0, f1, f2] 122)) 124 #[.slice none 0 0, .slice none 0 0] (n := w.heap.size + 1) (by simp)).alloc (.cells (strV [w0]).toArray 9))
 rw [hsz2] at HP2
 clear b2 hsz2 hp hm
 go_enter Tryz.func93, Tryz.ntmps93
 go_wp2_with fail
 refine (HP2.out).mono ?_; rintro e w1 ⟨rfl, rfl⟩
 clear HP2
 generalize (((w.alloc (.cells #[.int .i64 0, .int .i64 0, f1, f2] 122)).alloc (.cells #[.slice none 0 0, .slice none 0 0] 124)).alloc (.cells (strV [w0]).toArray 9)) = W at *
 have a0 := HRU.out.cell 0
 have a1 := HRU.out.cell 1
 have l0 := HLI.out.cell 0
 have l1 := HLI.out.cell 1
 have g0 := HLI.out.free 0
 have g1 := HLI.out.free 1
 simp only [List.getElem?_toArray, List.getElem?_cons_zero, List.getElem?_cons_succ] at a0 a1 l0 l1
 have HE := hid ((HLI.out.set 0 (.slice none 0 0)).set 1 (.slice none 0 0))
 have HL := hid ((HLO.out.setCell (p := ⟨w.heap.size + 1, 0, none⟩) (by simp) (.slice none 0 0)).setCell (p := ⟨w.heap.size + 1, 1, none⟩) (by simp) (.slice none 0 0))
 go_wp2
 go_loopg [25] 1 (fun gk i wr => gk = 1 ∧ i = .int .i64 0 ∧ W = wr)
 case atStart => exact ⟨rfl, rfl, rfl⟩
 case round =>
  obtain ⟨hg, rfl, hw⟩ := hrel
  subst hw
  go_wp2
  exact bodyPost_ret (results_row_tmp rfl _ _ (w.heap.size + 1) 124 #[.slice none 0 0, .slice none 0 0] (0, 0) _ rfl HE.out Tryz.underlying124 rfl (by kernel_rfl)) rfl ⟨rfl, HL.out⟩
end
end Go.Proofs.YtnibidmlkbcfkaaGreatDoor
