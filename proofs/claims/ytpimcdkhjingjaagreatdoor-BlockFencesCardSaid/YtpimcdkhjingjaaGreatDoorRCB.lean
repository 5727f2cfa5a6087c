/- A merged text (wip/mkclaim.py). -/
import Derived.Shelf.Strings.Builder1
import Derived.Shelf.Strings.Builder2
import Derived.Shelf.Strings.OnBuilder
import Derived.Shelf.Strings.Trim
import Derived.Shelf.Small.Utf8
import Derived.Shelf.Small.Strs
import Derived.Shelf.Small.Wraps
import Derived.Shelf.Strings.BuilderF
import Derived.Shelf.Strings.BuilderK
import Derived.Shelf.Strconv.ParseIntEmpty
import Derived.Shelf.LaysM
import Derived.Shelf.Strconv.Clone
import Derived.Shelf.Strconv.SyntaxError
import Derived.Shelf.LaysC
import Derived.Shelf.Strconv.ToError
import Derived.Shelf.Strconv.Lower
import Derived.Shelf.Strconv.ParseUint10
import Derived.Shelf.Strconv.ParseUint10Empty
import Derived.Shelf.Strconv.ParseUint10Any
import Derived.Shelf.Strconv.ParseInt10
import Derived.Shelf.Strconv.RangeError
import Derived.Shelf.Strconv.ToErrorRange
import Derived.Shelf.Strconv.ParseUintEmpty
import Derived.Shelf.Strconv.ParseUint10b64
import Derived.Shelf.Strconv.ParseUint10b32
import Derived.Shelf.Strconv.ParseUint10b16
import Derived.Shelf.Strconv.ParseUint10b8
import Derived.Shelf.Strconv.ParseUint10At
import Derived.Shelf.Strconv.ParseInt10At64
import Derived.Shelf.Strconv.ParseInt10At32
import Derived.Shelf.Strconv.ParseInt10At16
import Derived.Shelf.Strconv.ParseInt10At8
import Derived.Shelf.Strconv.ParseInt10All
import Derived.Shelf.Strconv.ParseIntPublic10
import Derived.Shelf.Strconv.ErrVarParseInt
import Derived.Shelf.Strings.Search1
import Derived.Shelf.Strings.Search2
import Derived.Shelf.Strings.Search3
import Derived.Shelf.Strings.Count
import Derived.Shelf.Strings.Shaped
import Derived.Shelf.Strings.Prefix
import Derived.Shelf.Strings.Runes
import Derived.Shelf.Strings.AsciiSet
import Derived.Shelf.Bits.Mul64
import Derived.Shelf.Strings.Repeat
import Derived.Shelf.Unicode.DecodeSlow
import Derived.Shelf.Unicode.DecodeAny
import Derived.Shelf.Unicode.DecodeLast
import Derived.Test.YtpimcdkhjingjaaGreatDoorProg
import Derived.WalkKit
import Derived.WalkSmall
import Derived.WalkSpells
import Derived.Lib.OthersKept
import Derived.Lib.SlTrimSet
import Derived.Lib.Hide
import Derived.Outline
import Derived.Test.YtpimcdkhjingjaaGreatDoorRCA
import Derived.Lib.Bytealg
import Derived.Lib.IndexBytes
import Derived.Shelf.Strings.SlTrimAscii
set_option linter.unusedVariables false
set_option linter.unusedSimpArgs false
set_option linter.unusedSectionVars false
namespace Go.Proofs
open Go.Shelf
def Tryz.lays169_ren : Go.Shelf.Ren := ⟨fun | 169 => 60 | n => n, fun | 70 => 90 | 9 => 9 | 0 => 0 | 72 => 93 | 37 => 91 | 127 => 117 | 3 => 3 | 5 => 5 | n => n, fun | n => n⟩
theorem Tryz.lays169 : Go.Proofs.Lays.n169 Tryz.prog Tryz.lays169_ren := {
  mixed := by kernel_rfl
  f169 := Tryz.func60.trans (congrArg some (by kernel_rfl))
  t0 := Tryz.underlying0
  a0 := Tryz.isAgg0
  z0 := Tryz.sizeOf0
  v0 := Tryz.zeroValue0
  t3 := Tryz.underlying3
  a3 := Tryz.isAgg3
  z3 := Tryz.sizeOf3
  v3 := Tryz.zeroValue3
  t9 := Tryz.underlying9
  a9 := Tryz.isAgg9
  z9 := Tryz.sizeOf9
  v9 := Tryz.zeroValue9
  t37 := Tryz.underlying91
  a37 := Tryz.isAgg91
  z37 := Tryz.sizeOf91
  v37 := Tryz.zeroValue91
  t70 := Tryz.underlying90
  a70 := Tryz.isAgg90
  z70 := Tryz.sizeOf90
  v70 := Tryz.zeroValue90
  t72 := Tryz.underlying93
  a72 := Tryz.isAgg93
  z72 := Tryz.sizeOf93
  v72 := Tryz.zeroValue93
  t127 := Tryz.underlying117
  a127 := Tryz.isAgg117
  z127 := Tryz.sizeOf117
  v127 := Tryz.zeroValue117 }
theorem Tryz.Builder_Extra_169 : Builder.Extra Tryz.prog Tryz.lays169_ren := {
  sizeBuilder := by kernel_rfl
  liesBuilder := by kernel_rfl
  t5 := Tryz.underlying5
  a5 := Tryz.isAgg5
  z5 := Tryz.sizeOf5
  v5 := Tryz.zeroValue5
  infoByte := by kernel_rfl
  cellsByte := by kernel_rfl
  sizeByte := by kernel_rfl
  neB5 := by decide }
open Go.RowKit in
theorem Tryz.Builder_String_any (B b : Nat) (l : List UInt8) (w : World) (h : Lib.IsBuilder 93 5 B b (Lib.byteCells l) w) (hBw : B ≤ w.heap.size) :
    Calls Tryz.prog 60 #[.pointer (some ⟨b, 0, none⟩)] w fun e w' => e = .returned (.string ⟨l.toArray⟩) ∧ Below B w w' := Any.Builder_String_any Tryz.lays169 Tryz.Builder_Extra_169 B b l w h hBw
def Tryz.lays156_ren : Go.Shelf.Ren := ⟨fun | 156 => 34 | 165 => 58 | 166 => 59 | 169 => 60 | 240 => 98 | 241 => 99 | 276 => 126 | 277 => 127 | n => n, fun | 31 => 22 | 9 => 9 | 3 => 3 | 4 => 4 | 0 => 0 | 20 => 20 | 72 => 93 | 76 => 96 | 70 => 90 | 37 => 91 | 75 => 95 | 127 => 117 | 164 => 127 | 5 => 5 | 80 => 63 | n => n, fun | n => n⟩
theorem Tryz.lays156 : Go.Proofs.Lays.n156 Tryz.prog Tryz.lays156_ren := {
  mixed := by kernel_rfl
  f156 := Tryz.func34.trans (congrArg some (by kernel_rfl))
  f165 := Tryz.func58.trans (congrArg some (by kernel_rfl))
  f166 := Tryz.func59.trans (congrArg some (by kernel_rfl))
  f169 := Tryz.func60.trans (congrArg some (by kernel_rfl))
  f240 := Tryz.func98.trans (congrArg some (by kernel_rfl))
  f241 := Tryz.func99.trans (congrArg some (by kernel_rfl))
  f276 := Tryz.func126.trans (congrArg some (by kernel_rfl))
  f277 := Tryz.func127.trans (congrArg some (by kernel_rfl))
  t0 := Tryz.underlying0
  a0 := Tryz.isAgg0
  z0 := Tryz.sizeOf0
  v0 := Tryz.zeroValue0
  t3 := Tryz.underlying3
  a3 := Tryz.isAgg3
  z3 := Tryz.sizeOf3
  v3 := Tryz.zeroValue3
  t4 := Tryz.underlying4
  a4 := Tryz.isAgg4
  z4 := Tryz.sizeOf4
  v4 := Tryz.zeroValue4
  t9 := Tryz.underlying9
  a9 := Tryz.isAgg9
  z9 := Tryz.sizeOf9
  v9 := Tryz.zeroValue9
  t20 := Tryz.underlying20
  a20 := Tryz.isAgg20
  z20 := Tryz.sizeOf20
  v20 := Tryz.zeroValue20
  t31 := Tryz.underlying22
  a31 := Tryz.isAgg22
  z31 := Tryz.sizeOf22
  v31 := Tryz.zeroValue22
  t37 := Tryz.underlying91
  a37 := Tryz.isAgg91
  z37 := Tryz.sizeOf91
  v37 := Tryz.zeroValue91
  t70 := Tryz.underlying90
  a70 := Tryz.isAgg90
  z70 := Tryz.sizeOf90
  v70 := Tryz.zeroValue90
  t72 := Tryz.underlying93
  a72 := Tryz.isAgg93
  z72 := Tryz.sizeOf93
  v72 := Tryz.zeroValue93
  t75 := Tryz.underlying95
  a75 := Tryz.isAgg95
  z75 := Tryz.sizeOf95
  v75 := Tryz.zeroValue95
  t76 := Tryz.underlying96
  a76 := Tryz.isAgg96
  z76 := Tryz.sizeOf96
  v76 := Tryz.zeroValue96
  t127 := Tryz.underlying117
  a127 := Tryz.isAgg117
  z127 := Tryz.sizeOf117
  v127 := Tryz.zeroValue117
  t164 := Tryz.underlying127
  a164 := Tryz.isAgg127
  z164 := Tryz.sizeOf127
  v164 := Tryz.zeroValue127 }
theorem Tryz.Builder_Extra_156 : Builder.Extra Tryz.prog Tryz.lays156_ren := {
  sizeBuilder := by kernel_rfl
  liesBuilder := by kernel_rfl
  t5 := Tryz.underlying5
  a5 := Tryz.isAgg5
  z5 := Tryz.sizeOf5
  v5 := Tryz.zeroValue5
  infoByte := by kernel_rfl
  cellsByte := by kernel_rfl
  sizeByte := by kernel_rfl
  neB5 := by decide }
open Go.RowKit in
theorem Tryz.strings_Join_none (a : Option Addr) (c : Nat) (sep : ByteArray) (w : World) :
    Calls Tryz.prog 34 #[.slice a 0 c, .string sep] w fun e w' => e = .returned (.string ⟨#[]⟩) ∧ w' = w := Any.strings_Join_none Tryz.lays156 Tryz.Builder_Extra_156 a c sep w
open Go.RowKit in
theorem Tryz.strings_Join (bk o c : Nat) (xs : List ByteArray) (sep : ByteArray) (w : World) (hcells : ∀ (j : Nat) x, xs[j]? = some x → w.cell? ⟨bk, o + j, none⟩ = some (.string x)) (hbk : bk < w.heap.size) (hN : xs.length ≤ 140737488355328) (hcap : xs.length ≤ c) (hlen : (Lib.join (xs.map (·.data.toList)) sep.data.toList).length ≤ 140737488355328) :
    Calls Tryz.prog 34 #[.slice (some ⟨bk, o, none⟩) xs.length c, .string sep] w fun e w' => e = .returned (.string ⟨(Lib.join (xs.map (·.data.toList)) sep.data.toList).toArray⟩) ∧ Below w.heap.size w w' := Any.strings_Join Tryz.lays156 Tryz.Builder_Extra_156 bk o c xs sep w hcells hbk hN hcap hlen
def Tryz.lays161_ren : Go.Shelf.Ren := ⟨fun | 161 => 52 | 231 => 61 | 227 => 55 | 233 => 62 | 235 => 63 | 228 => 95 | 197 => 100 | 151 => 97 | 260 => 128 | 152 => 125 | 137 => 116 | 119 => 141 | 224 => 142 | 225 => 143 | 217 => 132 | 266 => 146 | n => n, fun | 9 => 9 | 4 => 4 | 3 => 3 | 5 => 5 | 117 => 86 | 116 => 85 | 0 => 0 | 124 => 89 | 105 => 114 | 21 => 21 | 119 => 140 | 46 => 123 | 139 => 143 | 138 => 142 | n => n, fun | 3 => 1 | 4 => 2 | n => n⟩
theorem Tryz.lays161 : Go.Proofs.Lays.n161 Tryz.prog Tryz.lays161_ren := {
  mixed := by kernel_rfl
  f119 := Tryz.func141.trans (congrArg some (by kernel_rfl))
  f137 := Tryz.func116.trans (congrArg some (by kernel_rfl))
  f151 := Tryz.func97.trans (congrArg some (by kernel_rfl))
  f152 := Tryz.func125.trans (congrArg some (by kernel_rfl))
  f161 := Tryz.func52.trans (congrArg some (by kernel_rfl))
  f197 := Tryz.func100.trans (congrArg some (by kernel_rfl))
  f217 := Tryz.func132.trans (congrArg some (by kernel_rfl))
  f224 := Tryz.func142.trans (congrArg some (by kernel_rfl))
  f225 := Tryz.func143.trans (congrArg some (by kernel_rfl))
  f227 := Tryz.func55.trans (congrArg some (by kernel_rfl))
  f228 := Tryz.func95.trans (congrArg some (by kernel_rfl))
  f231 := Tryz.func61.trans (congrArg some (by kernel_rfl))
  f233 := Tryz.func62.trans (congrArg some (by kernel_rfl))
  f235 := Tryz.func63.trans (congrArg some (by kernel_rfl))
  f260 := Tryz.func128.trans (congrArg some (by kernel_rfl))
  f266 := Tryz.func146.trans (congrArg some (by kernel_rfl))
  t0 := Tryz.underlying0
  a0 := Tryz.isAgg0
  z0 := Tryz.sizeOf0
  v0 := Tryz.zeroValue0
  t3 := Tryz.underlying3
  a3 := Tryz.isAgg3
  z3 := Tryz.sizeOf3
  v3 := Tryz.zeroValue3
  t4 := Tryz.underlying4
  a4 := Tryz.isAgg4
  z4 := Tryz.sizeOf4
  v4 := Tryz.zeroValue4
  t5 := Tryz.underlying5
  a5 := Tryz.isAgg5
  z5 := Tryz.sizeOf5
  v5 := Tryz.zeroValue5
  t9 := Tryz.underlying9
  a9 := Tryz.isAgg9
  z9 := Tryz.sizeOf9
  v9 := Tryz.zeroValue9
  t21 := Tryz.underlying21
  a21 := Tryz.isAgg21
  z21 := Tryz.sizeOf21
  v21 := Tryz.zeroValue21
  t46 := Tryz.underlying123
  a46 := Tryz.isAgg123
  z46 := Tryz.sizeOf123
  v46 := Tryz.zeroValue123
  t105 := Tryz.underlying114
  a105 := Tryz.isAgg114
  z105 := Tryz.sizeOf114
  v105 := Tryz.zeroValue114
  t116 := Tryz.underlying85
  a116 := Tryz.isAgg85
  z116 := Tryz.sizeOf85
  t117 := Tryz.underlying86
  a117 := Tryz.isAgg86
  z117 := Tryz.sizeOf86
  v117 := Tryz.zeroValue86
  t119 := Tryz.underlying140
  a119 := Tryz.isAgg140
  z119 := Tryz.sizeOf140
  t124 := Tryz.underlying89
  a124 := Tryz.isAgg89
  z124 := Tryz.sizeOf89
  v124 := Tryz.zeroValue89
  t138 := Tryz.underlying142
  a138 := Tryz.isAgg142
  z138 := Tryz.sizeOf142
  v138 := Tryz.zeroValue142
  t139 := Tryz.underlying143
  a139 := Tryz.isAgg143
  z139 := Tryz.sizeOf143
  v139 := Tryz.zeroValue143
  g3 := by kernel_rfl
  g4 := by kernel_rfl }
def Tryz.lays162_ren : Go.Shelf.Ren := ⟨fun | 162 => 33 | 232 => 54 | 227 => 55 | 234 => 56 | 236 => 57 | 228 => 95 | 271 => 96 | 151 => 97 | 120 => 124 | 197 => 100 | 152 => 125 | 260 => 128 | 137 => 116 | 119 => 141 | 224 => 142 | 225 => 143 | 217 => 132 | 266 => 146 | n => n, fun | 9 => 9 | 4 => 4 | 3 => 3 | 5 => 5 | 117 => 86 | 116 => 85 | 0 => 0 | 124 => 89 | 21 => 21 | 105 => 114 | 46 => 123 | 119 => 140 | 139 => 143 | 138 => 142 | n => n, fun | 3 => 1 | 4 => 2 | n => n⟩
theorem Tryz.lays162 : Go.Proofs.Lays.n162 Tryz.prog Tryz.lays162_ren := {
  mixed := by kernel_rfl
  f119 := Tryz.func141.trans (congrArg some (by kernel_rfl))
  f120 := Tryz.func124.trans (congrArg some (by kernel_rfl))
  f137 := Tryz.func116.trans (congrArg some (by kernel_rfl))
  f151 := Tryz.func97.trans (congrArg some (by kernel_rfl))
  f152 := Tryz.func125.trans (congrArg some (by kernel_rfl))
  f162 := Tryz.func33.trans (congrArg some (by kernel_rfl))
  f197 := Tryz.func100.trans (congrArg some (by kernel_rfl))
  f217 := Tryz.func132.trans (congrArg some (by kernel_rfl))
  f224 := Tryz.func142.trans (congrArg some (by kernel_rfl))
  f225 := Tryz.func143.trans (congrArg some (by kernel_rfl))
  f227 := Tryz.func55.trans (congrArg some (by kernel_rfl))
  f228 := Tryz.func95.trans (congrArg some (by kernel_rfl))
  f232 := Tryz.func54.trans (congrArg some (by kernel_rfl))
  f234 := Tryz.func56.trans (congrArg some (by kernel_rfl))
  f236 := Tryz.func57.trans (congrArg some (by kernel_rfl))
  f260 := Tryz.func128.trans (congrArg some (by kernel_rfl))
  f266 := Tryz.func146.trans (congrArg some (by kernel_rfl))
  f271 := Tryz.func96.trans (congrArg some (by kernel_rfl))
  t0 := Tryz.underlying0
  a0 := Tryz.isAgg0
  z0 := Tryz.sizeOf0
  v0 := Tryz.zeroValue0
  t3 := Tryz.underlying3
  a3 := Tryz.isAgg3
  z3 := Tryz.sizeOf3
  v3 := Tryz.zeroValue3
  t4 := Tryz.underlying4
  a4 := Tryz.isAgg4
  z4 := Tryz.sizeOf4
  v4 := Tryz.zeroValue4
  t5 := Tryz.underlying5
  a5 := Tryz.isAgg5
  z5 := Tryz.sizeOf5
  v5 := Tryz.zeroValue5
  t9 := Tryz.underlying9
  a9 := Tryz.isAgg9
  z9 := Tryz.sizeOf9
  v9 := Tryz.zeroValue9
  t21 := Tryz.underlying21
  a21 := Tryz.isAgg21
  z21 := Tryz.sizeOf21
  v21 := Tryz.zeroValue21
  t46 := Tryz.underlying123
  a46 := Tryz.isAgg123
  z46 := Tryz.sizeOf123
  v46 := Tryz.zeroValue123
  t105 := Tryz.underlying114
  a105 := Tryz.isAgg114
  z105 := Tryz.sizeOf114
  v105 := Tryz.zeroValue114
  t116 := Tryz.underlying85
  a116 := Tryz.isAgg85
  z116 := Tryz.sizeOf85
  t117 := Tryz.underlying86
  a117 := Tryz.isAgg86
  z117 := Tryz.sizeOf86
  v117 := Tryz.zeroValue86
  t119 := Tryz.underlying140
  a119 := Tryz.isAgg140
  z119 := Tryz.sizeOf140
  t124 := Tryz.underlying89
  a124 := Tryz.isAgg89
  z124 := Tryz.sizeOf89
  v124 := Tryz.zeroValue89
  t138 := Tryz.underlying142
  a138 := Tryz.isAgg142
  z138 := Tryz.sizeOf142
  v138 := Tryz.zeroValue142
  t139 := Tryz.underlying143
  a139 := Tryz.isAgg143
  z139 := Tryz.sizeOf143
  v139 := Tryz.zeroValue143
  g3 := by kernel_rfl
  g4 := by kernel_rfl }
def Tryz.lays160_ren : Go.Shelf.Ren := ⟨fun | 160 => 35 | 232 => 54 | 231 => 61 | 227 => 55 | 234 => 56 | 233 => 62 | 236 => 57 | 235 => 63 | 228 => 95 | 271 => 96 | 151 => 97 | 197 => 100 | 120 => 124 | 152 => 125 | 260 => 128 | 137 => 116 | 119 => 141 | 224 => 142 | 225 => 143 | 217 => 132 | 266 => 146 | n => n, fun | 9 => 9 | 4 => 4 | 3 => 3 | 5 => 5 | 117 => 86 | 116 => 85 | 0 => 0 | 124 => 89 | 21 => 21 | 105 => 114 | 46 => 123 | 119 => 140 | 139 => 143 | 138 => 142 | n => n, fun | 3 => 1 | 4 => 2 | n => n⟩
theorem Tryz.lays160 : Go.Proofs.Lays.n160 Tryz.prog Tryz.lays160_ren := {
  mixed := by kernel_rfl
  f119 := Tryz.func141.trans (congrArg some (by kernel_rfl))
  f120 := Tryz.func124.trans (congrArg some (by kernel_rfl))
  f137 := Tryz.func116.trans (congrArg some (by kernel_rfl))
  f151 := Tryz.func97.trans (congrArg some (by kernel_rfl))
  f152 := Tryz.func125.trans (congrArg some (by kernel_rfl))
  f160 := Tryz.func35.trans (congrArg some (by kernel_rfl))
  f197 := Tryz.func100.trans (congrArg some (by kernel_rfl))
  f217 := Tryz.func132.trans (congrArg some (by kernel_rfl))
  f224 := Tryz.func142.trans (congrArg some (by kernel_rfl))
  f225 := Tryz.func143.trans (congrArg some (by kernel_rfl))
  f227 := Tryz.func55.trans (congrArg some (by kernel_rfl))
  f228 := Tryz.func95.trans (congrArg some (by kernel_rfl))
  f231 := Tryz.func61.trans (congrArg some (by kernel_rfl))
  f232 := Tryz.func54.trans (congrArg some (by kernel_rfl))
  f233 := Tryz.func62.trans (congrArg some (by kernel_rfl))
  f234 := Tryz.func56.trans (congrArg some (by kernel_rfl))
  f235 := Tryz.func63.trans (congrArg some (by kernel_rfl))
  f236 := Tryz.func57.trans (congrArg some (by kernel_rfl))
  f260 := Tryz.func128.trans (congrArg some (by kernel_rfl))
  f266 := Tryz.func146.trans (congrArg some (by kernel_rfl))
  f271 := Tryz.func96.trans (congrArg some (by kernel_rfl))
  t0 := Tryz.underlying0
  a0 := Tryz.isAgg0
  z0 := Tryz.sizeOf0
  v0 := Tryz.zeroValue0
  t3 := Tryz.underlying3
  a3 := Tryz.isAgg3
  z3 := Tryz.sizeOf3
  v3 := Tryz.zeroValue3
  t4 := Tryz.underlying4
  a4 := Tryz.isAgg4
  z4 := Tryz.sizeOf4
  v4 := Tryz.zeroValue4
  t5 := Tryz.underlying5
  a5 := Tryz.isAgg5
  z5 := Tryz.sizeOf5
  v5 := Tryz.zeroValue5
  t9 := Tryz.underlying9
  a9 := Tryz.isAgg9
  z9 := Tryz.sizeOf9
  v9 := Tryz.zeroValue9
  t21 := Tryz.underlying21
  a21 := Tryz.isAgg21
  z21 := Tryz.sizeOf21
  v21 := Tryz.zeroValue21
  t46 := Tryz.underlying123
  a46 := Tryz.isAgg123
  z46 := Tryz.sizeOf123
  v46 := Tryz.zeroValue123
  t105 := Tryz.underlying114
  a105 := Tryz.isAgg114
  z105 := Tryz.sizeOf114
  v105 := Tryz.zeroValue114
  t116 := Tryz.underlying85
  a116 := Tryz.isAgg85
  z116 := Tryz.sizeOf85
  t117 := Tryz.underlying86
  a117 := Tryz.isAgg86
  z117 := Tryz.sizeOf86
  v117 := Tryz.zeroValue86
  t119 := Tryz.underlying140
  a119 := Tryz.isAgg140
  z119 := Tryz.sizeOf140
  t124 := Tryz.underlying89
  a124 := Tryz.isAgg89
  z124 := Tryz.sizeOf89
  v124 := Tryz.zeroValue89
  t138 := Tryz.underlying142
  a138 := Tryz.isAgg142
  z138 := Tryz.sizeOf142
  v138 := Tryz.zeroValue142
  t139 := Tryz.underlying143
  a139 := Tryz.isAgg143
  z139 := Tryz.sizeOf143
  v139 := Tryz.zeroValue143
  g3 := by kernel_rfl
  g4 := by kernel_rfl }
def Tryz.lays119_ren : Go.Shelf.Ren := ⟨fun | 119 => 141 | n => n, fun | 21 => 21 | 4 => 4 | n => n, fun | n => n⟩
theorem Tryz.lays119 : Go.Proofs.Lays.n119 Tryz.prog Tryz.lays119_ren := {
  mixed := by kernel_rfl
  f119 := Tryz.func141.trans (congrArg some (by kernel_rfl))
  t4 := Tryz.underlying4
  a4 := Tryz.isAgg4
  z4 := Tryz.sizeOf4
  v4 := Tryz.zeroValue4
  t21 := Tryz.underlying21
  a21 := Tryz.isAgg21
  z21 := Tryz.sizeOf21
  v21 := Tryz.zeroValue21 }
theorem Tryz.utf8_ValidRune (r : Int) (w : World) :
    Calls Tryz.prog 141 #[.int .i32 r] w fun e w' => e = .returned (.bool (Lib.validRune r)) ∧ w' = w := Any.utf8_ValidRune Tryz.lays119 r w
def Tryz.lays137_ren : Go.Shelf.Ren := ⟨fun | 137 => 116 | 217 => 132 | 266 => 146 | n => n, fun | 9 => 9 | 5 => 5 | 3 => 3 | n => n, fun | n => n⟩
theorem Tryz.lays137 : Go.Proofs.Lays.n137 Tryz.prog Tryz.lays137_ren := {
  mixed := by kernel_rfl
  f137 := Tryz.func116.trans (congrArg some (by kernel_rfl))
  f217 := Tryz.func132.trans (congrArg some (by kernel_rfl))
  f266 := Tryz.func146.trans (congrArg some (by kernel_rfl))
  t3 := Tryz.underlying3
  a3 := Tryz.isAgg3
  z3 := Tryz.sizeOf3
  v3 := Tryz.zeroValue3
  t5 := Tryz.underlying5
  a5 := Tryz.isAgg5
  z5 := Tryz.sizeOf5
  v5 := Tryz.zeroValue5
  t9 := Tryz.underlying9
  a9 := Tryz.isAgg9
  z9 := Tryz.sizeOf9
  v9 := Tryz.zeroValue9 }
open Go.RowKit in
theorem Tryz.strings_IndexByte (s : ByteArray) (c : Int) (w : World) :
    Calls Tryz.prog 116 #[.string s, .int .u8 c] w fun e w' => e = .returned (.int .i64 (Lib.indexByte s.data.toList c.toNat.toUInt8)) ∧ w' = w := Any.strings_IndexByte Tryz.lays137 s c w
def Tryz.lays103_ren : Go.Shelf.Ren := ⟨fun | 103 => 149 | 210 => 156 | 206 => 110 | n => n, fun | 9 => 9 | 4 => 4 | 24 => 145 | 3 => 3 | n => n, fun | n => n⟩
theorem Tryz.lays103 : Go.Proofs.Lays.n103 Tryz.prog Tryz.lays103_ren := {
  mixed := by kernel_rfl
  f103 := Tryz.func149.trans (congrArg some (by kernel_rfl))
  f206 := Tryz.func110.trans (congrArg some (by kernel_rfl))
  f210 := Tryz.func156.trans (congrArg some (by kernel_rfl))
  t3 := Tryz.underlying3
  a3 := Tryz.isAgg3
  z3 := Tryz.sizeOf3
  v3 := Tryz.zeroValue3
  t4 := Tryz.underlying4
  a4 := Tryz.isAgg4
  z4 := Tryz.sizeOf4
  v4 := Tryz.zeroValue4
  t9 := Tryz.underlying9
  a9 := Tryz.isAgg9
  z9 := Tryz.sizeOf9
  v9 := Tryz.zeroValue9
  t24 := Tryz.underlying145
  a24 := Tryz.isAgg145
  z24 := Tryz.sizeOf145
  v24 := Tryz.zeroValue145 }
open Go.RowKit in
theorem Tryz.strings_CutPrefix (s p : ByteArray) (w : World) :
    Calls Tryz.prog 149 #[.string s, .string p] w fun e w' => e = .returned (.tuple #[.string ⟨(Lib.trimPrefix s.data.toList p.data.toList).toArray⟩, .bool (Lib.hasPrefix s.data.toList p.data.toList)]) ∧ w' = w := Any.strings_CutPrefix Tryz.lays103 s p w
open Go.RowKit in
theorem Tryz.Builder_String_empty_k (B b : Nat) (w : World) (h : Lib.IsBuilderF 93 5 B b [] w) (hBw : B ≤ w.heap.size) :
    Calls Tryz.prog 60 #[.pointer (some ⟨b, 0, none⟩)] w fun e w' => e = .returned (.string ⟨#[]⟩) ∧ (Lib.IsBuilderF 93 5 B b [] w' ∧ Below B w w' ∧ Lib.OthersKept 5 (some b) w w') := Any.Builder_String_empty_k Tryz.lays169 Tryz.Builder_Extra_169 B b w h hBw
open Go.RowKit in
theorem Tryz.Builder_String_any_k (B b : Nat) (l : List UInt8) (w : World) (h : Lib.IsBuilderF 93 5 B b (Lib.byteCells l) w) (hBw : B ≤ w.heap.size) :
    Calls Tryz.prog 60 #[.pointer (some ⟨b, 0, none⟩)] w fun e w' => e = .returned (.string ⟨l.toArray⟩) ∧ (Lib.IsBuilderF 93 5 B b (Lib.byteCells l) w' ∧ Below B w w' ∧ Lib.OthersKept 5 (some b) w w') := Any.Builder_String_any_k Tryz.lays169 Tryz.Builder_Extra_169 B b l w h hBw
def Tryz.lays321_ren : Go.Shelf.Ren := ⟨fun | 321 => 169 | n => n, fun | 5 => 5 | n => n, fun | n => n⟩
theorem Tryz.lays321 : Go.Proofs.Lays.n321 Tryz.prog Tryz.lays321_ren := {
  mixed := by kernel_rfl
  f321 := Tryz.func169.trans (congrArg some (by kernel_rfl))
  t5 := Tryz.underlying5
  a5 := Tryz.isAgg5
  z5 := Tryz.sizeOf5
  v5 := Tryz.zeroValue5 }
open Go.RowKit in
theorem Tryz.internal_strconv_lower (c : Int) (w : World) :
    Calls Tryz.prog 169 #[.int .u8 c] w fun e w' => e = .returned (.int .u8 (bits .or .u8 c 32)) ∧ w' = w := Any.internal_strconv_lower Tryz.lays321 c w
def Tryz.lays138_ren : Go.Shelf.Ren := ⟨fun | 138 => 118 | 195 => 136 | 218 => 137 | 143 => 138 | 219 => 151 | 217 => 132 | 225 => 143 | 224 => 142 | 267 => 160 | 266 => 146 | 314 => 163 | n => n, fun | 9 => 9 | 3 => 3 | 4 => 4 | 5 => 5 | 0 => 0 | 46 => 123 | 146 => 134 | 51 => 133 | n => n, fun | 1 => 0 | n => n⟩
theorem Tryz.lays138 : Go.Proofs.Lays.n138 Tryz.prog Tryz.lays138_ren := {
  mixed := by kernel_rfl
  f138 := Tryz.func118.trans (congrArg some (by kernel_rfl))
  f143 := Tryz.func138.trans (congrArg some (by kernel_rfl))
  f195 := Tryz.func136.trans (congrArg some (by kernel_rfl))
  f217 := Tryz.func132.trans (congrArg some (by kernel_rfl))
  f218 := Tryz.func137.trans (congrArg some (by kernel_rfl))
  f219 := Tryz.func151.trans (congrArg some (by kernel_rfl))
  f224 := Tryz.func142.trans (congrArg some (by kernel_rfl))
  f225 := Tryz.func143.trans (congrArg some (by kernel_rfl))
  f266 := Tryz.func146.trans (congrArg some (by kernel_rfl))
  f267 := Tryz.func160.trans (congrArg some (by kernel_rfl))
  f314 := Tryz.func163.trans (congrArg some (by kernel_rfl))
  t0 := Tryz.underlying0
  a0 := Tryz.isAgg0
  z0 := Tryz.sizeOf0
  v0 := Tryz.zeroValue0
  t3 := Tryz.underlying3
  a3 := Tryz.isAgg3
  z3 := Tryz.sizeOf3
  v3 := Tryz.zeroValue3
  t4 := Tryz.underlying4
  a4 := Tryz.isAgg4
  z4 := Tryz.sizeOf4
  v4 := Tryz.zeroValue4
  t5 := Tryz.underlying5
  a5 := Tryz.isAgg5
  z5 := Tryz.sizeOf5
  v5 := Tryz.zeroValue5
  t9 := Tryz.underlying9
  a9 := Tryz.isAgg9
  z9 := Tryz.sizeOf9
  v9 := Tryz.zeroValue9
  t46 := Tryz.underlying123
  a46 := Tryz.isAgg123
  z46 := Tryz.sizeOf123
  v46 := Tryz.zeroValue123
  t51 := Tryz.underlying133
  a51 := Tryz.isAgg133
  z51 := Tryz.sizeOf133
  v51 := Tryz.zeroValue133
  t146 := Tryz.underlying134
  a146 := Tryz.isAgg134
  z146 := Tryz.sizeOf134
  v146 := Tryz.zeroValue134
  g1 := by kernel_rfl }
open Go.RowKit Go.Lib in
theorem Tryz.strings_Count_one (s : ByteArray) (c : UInt8) (w : World) :
    Calls Tryz.prog 118 #[.string s, .string ⟨#[c]⟩] w fun e w' => e = .returned (.int .i64 (Lib.countByte s.data.toList c)) ∧ w' = w := Any.strings_Count_one Tryz.lays138 s c w
def Tryz.lays99_ren : Go.Shelf.Ren := ⟨fun | 99 => 82 | 206 => 110 | n => n, fun | 9 => 9 | 4 => 4 | 3 => 3 | n => n, fun | n => n⟩
theorem Tryz.lays99 : Go.Proofs.Lays.n99 Tryz.prog Tryz.lays99_ren := {
  mixed := by kernel_rfl
  f99 := Tryz.func82.trans (congrArg some (by kernel_rfl))
  f206 := Tryz.func110.trans (congrArg some (by kernel_rfl))
  t3 := Tryz.underlying3
  a3 := Tryz.isAgg3
  z3 := Tryz.sizeOf3
  v3 := Tryz.zeroValue3
  t4 := Tryz.underlying4
  a4 := Tryz.isAgg4
  z4 := Tryz.sizeOf4
  v4 := Tryz.zeroValue4
  t9 := Tryz.underlying9
  a9 := Tryz.isAgg9
  z9 := Tryz.sizeOf9
  v9 := Tryz.zeroValue9 }
open Go.RowKit Go.Lib in
theorem Tryz.strings_HasPrefix (s p : ByteArray) (w : World) :
    Calls Tryz.prog 82 #[.string s, .string p] w fun e w' => e = .returned (.bool (Lib.hasPrefix s.data.toList p.data.toList)) ∧ w' = w := Any.strings_HasPrefix Tryz.lays99 s p w
def Tryz.lays105_ren : Go.Shelf.Ren := ⟨fun | 105 => 94 | 212 => 122 | 99 => 82 | 165 => 58 | 166 => 59 | 170 => 123 | 169 => 60 | 263 => 139 | 264 => 140 | 206 => 110 | 240 => 98 | 241 => 99 | 276 => 126 | 277 => 127 | n => n, fun | 9 => 9 | 3 => 3 | 4 => 4 | 20 => 20 | 0 => 0 | 46 => 123 | 109 => 124 | 5 => 5 | 72 => 93 | 76 => 96 | 51 => 133 | 146 => 134 | 53 => 136 | 148 => 137 | 70 => 90 | 37 => 91 | 75 => 95 | 127 => 117 | 164 => 127 | 80 => 63 | n => n, fun | n => n⟩
theorem Tryz.lays105 : Go.Proofs.Lays.n105 Tryz.prog Tryz.lays105_ren := {
  mixed := by kernel_rfl
  f99 := Tryz.func82.trans (congrArg some (by kernel_rfl))
  f105 := Tryz.func94.trans (congrArg some (by kernel_rfl))
  f165 := Tryz.func58.trans (congrArg some (by kernel_rfl))
  f166 := Tryz.func59.trans (congrArg some (by kernel_rfl))
  f169 := Tryz.func60.trans (congrArg some (by kernel_rfl))
  f170 := Tryz.func123.trans (congrArg some (by kernel_rfl))
  f206 := Tryz.func110.trans (congrArg some (by kernel_rfl))
  f212 := Tryz.func122.trans (congrArg some (by kernel_rfl))
  f240 := Tryz.func98.trans (congrArg some (by kernel_rfl))
  f241 := Tryz.func99.trans (congrArg some (by kernel_rfl))
  f263 := Tryz.func139.trans (congrArg some (by kernel_rfl))
  f264 := Tryz.func140.trans (congrArg some (by kernel_rfl))
  f276 := Tryz.func126.trans (congrArg some (by kernel_rfl))
  f277 := Tryz.func127.trans (congrArg some (by kernel_rfl))
  t0 := Tryz.underlying0
  a0 := Tryz.isAgg0
  z0 := Tryz.sizeOf0
  v0 := Tryz.zeroValue0
  t3 := Tryz.underlying3
  a3 := Tryz.isAgg3
  z3 := Tryz.sizeOf3
  v3 := Tryz.zeroValue3
  t4 := Tryz.underlying4
  a4 := Tryz.isAgg4
  z4 := Tryz.sizeOf4
  v4 := Tryz.zeroValue4
  t5 := Tryz.underlying5
  a5 := Tryz.isAgg5
  z5 := Tryz.sizeOf5
  v5 := Tryz.zeroValue5
  t9 := Tryz.underlying9
  a9 := Tryz.isAgg9
  z9 := Tryz.sizeOf9
  v9 := Tryz.zeroValue9
  t20 := Tryz.underlying20
  a20 := Tryz.isAgg20
  z20 := Tryz.sizeOf20
  v20 := Tryz.zeroValue20
  t37 := Tryz.underlying91
  a37 := Tryz.isAgg91
  z37 := Tryz.sizeOf91
  v37 := Tryz.zeroValue91
  t46 := Tryz.underlying123
  a46 := Tryz.isAgg123
  z46 := Tryz.sizeOf123
  v46 := Tryz.zeroValue123
  t51 := Tryz.underlying133
  a51 := Tryz.isAgg133
  z51 := Tryz.sizeOf133
  v51 := Tryz.zeroValue133
  t53 := Tryz.underlying136
  a53 := Tryz.isAgg136
  z53 := Tryz.sizeOf136
  v53 := Tryz.zeroValue136
  t70 := Tryz.underlying90
  a70 := Tryz.isAgg90
  z70 := Tryz.sizeOf90
  v70 := Tryz.zeroValue90
  t72 := Tryz.underlying93
  a72 := Tryz.isAgg93
  z72 := Tryz.sizeOf93
  v72 := Tryz.zeroValue93
  t75 := Tryz.underlying95
  a75 := Tryz.isAgg95
  z75 := Tryz.sizeOf95
  v75 := Tryz.zeroValue95
  t76 := Tryz.underlying96
  a76 := Tryz.isAgg96
  z76 := Tryz.sizeOf96
  v76 := Tryz.zeroValue96
  t109 := Tryz.underlying124
  a109 := Tryz.isAgg124
  z109 := Tryz.sizeOf124
  v109 := Tryz.zeroValue124
  t127 := Tryz.underlying117
  a127 := Tryz.isAgg117
  z127 := Tryz.sizeOf117
  v127 := Tryz.zeroValue117
  t146 := Tryz.underlying134
  a146 := Tryz.isAgg134
  z146 := Tryz.sizeOf134
  v146 := Tryz.zeroValue134
  t148 := Tryz.underlying137
  a148 := Tryz.isAgg137
  z148 := Tryz.sizeOf137
  v148 := Tryz.zeroValue137
  t164 := Tryz.underlying127
  a164 := Tryz.isAgg127
  z164 := Tryz.sizeOf127
  v164 := Tryz.zeroValue127 }
theorem Tryz.Builder_Extra_105 : Builder.Extra Tryz.prog Tryz.lays105_ren := {
  sizeBuilder := by kernel_rfl
  liesBuilder := by kernel_rfl
  t5 := Tryz.underlying5
  a5 := Tryz.isAgg5
  z5 := Tryz.sizeOf5
  v5 := Tryz.zeroValue5
  infoByte := by kernel_rfl
  cellsByte := by kernel_rfl
  sizeByte := by kernel_rfl
  neB5 := by decide }
open Go.RowKit Go.Lib in
theorem Tryz.strings_Repeat (s : ByteArray) (c : Nat) (w : World) (hc : c ≤ 9223372036854775807) (hlen : s.size * c ≤ 140737488355328) :
    Calls Tryz.prog 94 #[.string s, .int .i64 c] w fun e w' => e = .returned (.string ⟨(Lib.repeatL s.data.toList c).toArray⟩) ∧ Below w.heap.size w w' := Any.strings_Repeat Tryz.lays105 Tryz.Builder_Extra_105 s c w hc hlen
def Tryz.lays260_ren : Go.Shelf.Ren := ⟨fun | 260 => 128 | n => n, fun | 9 => 9 | 21 => 21 | 3 => 3 | 4 => 4 | 5 => 5 | 119 => 140 | 0 => 0 | 46 => 123 | 139 => 143 | 138 => 142 | n => n, fun | 3 => 1 | 4 => 2 | n => n⟩
theorem Tryz.lays260 : Go.Proofs.Lays.n260 Tryz.prog Tryz.lays260_ren := {
  mixed := by kernel_rfl
  f260 := Tryz.func128.trans (congrArg some (by kernel_rfl))
  t0 := Tryz.underlying0
  a0 := Tryz.isAgg0
  z0 := Tryz.sizeOf0
  v0 := Tryz.zeroValue0
  t3 := Tryz.underlying3
  a3 := Tryz.isAgg3
  z3 := Tryz.sizeOf3
  v3 := Tryz.zeroValue3
  t4 := Tryz.underlying4
  a4 := Tryz.isAgg4
  z4 := Tryz.sizeOf4
  v4 := Tryz.zeroValue4
  t5 := Tryz.underlying5
  a5 := Tryz.isAgg5
  z5 := Tryz.sizeOf5
  v5 := Tryz.zeroValue5
  t9 := Tryz.underlying9
  a9 := Tryz.isAgg9
  z9 := Tryz.sizeOf9
  v9 := Tryz.zeroValue9
  t21 := Tryz.underlying21
  a21 := Tryz.isAgg21
  z21 := Tryz.sizeOf21
  v21 := Tryz.zeroValue21
  t46 := Tryz.underlying123
  a46 := Tryz.isAgg123
  z46 := Tryz.sizeOf123
  v46 := Tryz.zeroValue123
  t119 := Tryz.underlying140
  a119 := Tryz.isAgg140
  z119 := Tryz.sizeOf140
  t138 := Tryz.underlying142
  a138 := Tryz.isAgg142
  z138 := Tryz.sizeOf142
  v138 := Tryz.zeroValue142
  t139 := Tryz.underlying143
  a139 := Tryz.isAgg143
  z139 := Tryz.sizeOf143
  v139 := Tryz.zeroValue143
  g3 := by kernel_rfl
  g4 := by kernel_rfl }
def Tryz.lays271_ren : Go.Shelf.Ren := ⟨fun | 271 => 96 | 120 => 124 | 197 => 100 | 260 => 128 | n => n, fun | 9 => 9 | 21 => 21 | 3 => 3 | 4 => 4 | 5 => 5 | 105 => 114 | 119 => 140 | 0 => 0 | 46 => 123 | 139 => 143 | 138 => 142 | n => n, fun | 3 => 1 | 4 => 2 | n => n⟩
theorem Tryz.lays271 : Go.Proofs.Lays.n271 Tryz.prog Tryz.lays271_ren := {
  mixed := by kernel_rfl
  f120 := Tryz.func124.trans (congrArg some (by kernel_rfl))
  f197 := Tryz.func100.trans (congrArg some (by kernel_rfl))
  f260 := Tryz.func128.trans (congrArg some (by kernel_rfl))
  f271 := Tryz.func96.trans (congrArg some (by kernel_rfl))
  t0 := Tryz.underlying0
  a0 := Tryz.isAgg0
  z0 := Tryz.sizeOf0
  v0 := Tryz.zeroValue0
  t3 := Tryz.underlying3
  a3 := Tryz.isAgg3
  z3 := Tryz.sizeOf3
  v3 := Tryz.zeroValue3
  t4 := Tryz.underlying4
  a4 := Tryz.isAgg4
  z4 := Tryz.sizeOf4
  v4 := Tryz.zeroValue4
  t5 := Tryz.underlying5
  a5 := Tryz.isAgg5
  z5 := Tryz.sizeOf5
  v5 := Tryz.zeroValue5
  t9 := Tryz.underlying9
  a9 := Tryz.isAgg9
  z9 := Tryz.sizeOf9
  v9 := Tryz.zeroValue9
  t21 := Tryz.underlying21
  a21 := Tryz.isAgg21
  z21 := Tryz.sizeOf21
  v21 := Tryz.zeroValue21
  t46 := Tryz.underlying123
  a46 := Tryz.isAgg123
  z46 := Tryz.sizeOf123
  v46 := Tryz.zeroValue123
  t105 := Tryz.underlying114
  a105 := Tryz.isAgg114
  z105 := Tryz.sizeOf114
  v105 := Tryz.zeroValue114
  t119 := Tryz.underlying140
  a119 := Tryz.isAgg140
  z119 := Tryz.sizeOf140
  t138 := Tryz.underlying142
  a138 := Tryz.isAgg142
  z138 := Tryz.sizeOf142
  v138 := Tryz.zeroValue142
  t139 := Tryz.underlying143
  a139 := Tryz.isAgg143
  z139 := Tryz.sizeOf143
  v139 := Tryz.zeroValue143
  g3 := by kernel_rfl
  g4 := by kernel_rfl }
open Go.RowKit Go.Lib in
theorem Tryz.utf8_DecodeLastRuneInString (s : ByteArray) (w : World) (hs : s.size ≤ 9223372036854775807) (hT : Lib.Utf8Tabs 1 2 w) :
    Calls Tryz.prog 96 #[.string s] w fun e w' => e = .returned (.tuple #[.int .i32 (Lib.decodeLastL s.data.toList).1, .int .i64 (Lib.decodeLastL s.data.toList).2]) ∧ Below w.heap.size w w' := Any.utf8_DecodeLastRuneInString Tryz.lays271 s w hs hT
end Go.Proofs
namespace Go.Proofs.YtpimcdkhjingjaaGreatDoor.X
open Go.RowKit
def GL (w : World) : Prop := Lib.Utf8Tabs 1 2 w ∧ 1 < w.heap.size ∧ 2 < w.heap.size
theorem GL.below {w w' : World} (h : GL w) (hb : Below w.heap.size w w') : GL w' := by
  obtain ⟨⟨h1, h2⟩, h3, h4⟩ := h
  refine ⟨⟨fun c hc => ?_, fun i hi => ?_⟩, Nat.lt_of_lt_of_le h3 hb.size, Nat.lt_of_lt_of_le h4 hb.size⟩
  · rw [hb.cell (p := ⟨1, c, none⟩) h3]; exact h1 c hc
  · rw [hb.cell (p := ⟨2, 2 * i, none⟩) h4, hb.cell (p := ⟨2, 2 * i + 1, none⟩) h4]; exact h2 i hi
def isAscii (s : ByteArray) : Bool := s.data.toList.all fun b => decide (b.toNat < 128)
theorem ascii_at {s : ByteArray} (h : isAscii s = true) (j : Nat) (hj : j < s.size) : (s[j]'hj).toNat < 128 := by
  have := List.all_eq_true.1 h (s[j]'hj) (by show s.data[j] ∈ _; simp)
  simpa using this
theorem width_pos (s : ByteArray) (pos : Nat) (h : pos < s.size) : 1 ≤ (Utf8.decode s pos).2 := by
  by_cases ha : (s[pos]'h).toNat < 128
  · rw [decode_ascii s pos h ha]
    exact Nat.le_refl _
  · exact (decode_high s pos h (by omega)).2
def among (set : ByteArray) (r : Int) (k : Nat) : Bool := (set.data.toList.take k).any fun b => decide (r = (b.toNat : Int))
theorem among_zero (set : ByteArray) (r : Int) : among set r 0 = false := by simp [among]
theorem among_succ (set : ByteArray) (r : Int) (k : Nat) (h : k < set.size) : among set r (k + 1) = (among set r k || decide (r = ((set[k]'h).toNat : Int))) := by
  unfold among
  rw [List.take_succ_eq_append_getElem (by simpa using h), List.any_append]
  simp
  rfl
theorem among_high {set : ByteArray} (ha : isAscii set = true) {r : Int} (hr : 128 ≤ r) (k : Nat) : among set r k = false := by
  unfold among
  rw [List.any_eq_false]
  intro b hb
  have h1 := List.all_eq_true.1 ha b (List.mem_of_mem_take hb)
  have h2 : b.toNat < 128 := by simpa using h1
  simp
  omega
theorem among_decode {set : ByteArray} (ha : isAscii set = true) (s : ByteArray) (pos : Nat) (h : pos < s.size) (k : Nat) :
    among set ((Utf8.decode s pos).1 : Int) k = among set ((s[pos]'h).toNat : Int) k ∧ (among set ((Utf8.decode s pos).1 : Int) k = true → (Utf8.decode s pos).2 = 1) := by
  by_cases hb : (s[pos]'h).toNat < 128
  · rw [decode_ascii s pos h hb]
    exact ⟨rfl, fun _ => rfl⟩
  · have h1 := among_high ha (r := ((Utf8.decode s pos).1 : Int)) (by have := (decode_high s pos h (by omega)).1; omega) k
    have h2 := among_high ha (r := ((s[pos]'h).toNat : Int)) (by omega) k
    rw [h1, h2]
    exact ⟨rfl, fun h => by cases h⟩
theorem extract_none (s : ByteArray) (n : Nat) (h : s.size ≤ n) : s.extract n s.size = ⟨#[]⟩ := by
  apply ByteArray.ext
  simp only [ByteArray.data_extract]
  apply Array.ext'
  simp
  exact .inr h
set_option maxRecDepth 1000000 in
set_option maxHeartbeats 2000000 in
theorem leaf_cutLeft_any (s set : ByteArray) (w : World) (ha : isAscii set = true) :
    Calls Tryz.prog 120 #[.string s, .string set] w fun e w' => (∃ i : Nat, i ≤ s.size ∧ (∀ j, (h : j < s.size) → j < i → among set ((s[j]'h).toNat : Int) set.size = true) ∧ (∀ h : i < s.size, among set ((s[i]'h).toNat : Int) set.size = false) ∧ e = .returned (.string (s.extract i s.size))) ∧ Below w.heap.size w w' := by
  go_enter Tryz.func120, Tryz.ntmps120
  go_wp2
  go_loopw [5, 6, 7, 9] (fun i c b d wr => ∃ pos : Nat, wr.heap[w.heap.size]? = some (.stringIter s pos) ∧ Below w.heap.size w wr ∧ pos ≤ s.size ∧ (∀ j, (h : j < s.size) → j < pos → among set ((s[j]'h).toNat : Int) set.size = true)) (fun _ _ _ _ w' => s.size - w'.iterPos w.heap.size)
  case atStart => exact ⟨0, World.iter_heap w s 0, (Below.refl _ _).alloc (Nat.le_refl _) _, Nat.zero_le _, fun j h hj => by omega⟩
  case round =>
    obtain ⟨pos, hit, hbw, hp, hall⟩ := hrel
    have hpos0 := iterPos_of hit
    by_cases hlt : pos < s.size
    · have hnx : ∀ ty, (Instr.next (.pointer (some ⟨w.heap.size, 0, none⟩)) true ty).run Tryz.prog wr = _ := fun ty => Lib.run_next_any_at wr w.heap.size s pos ty hit hlt
      have hwd := width_pos s pos hlt
      have hit2 := Lib.iterAt_heap wr w.heap.size s pos (pos + (Utf8.decode s pos).2) hit
      have hbw2 := Lib.below_iterAt hbw (k := w.heap.size) (Nat.le_refl _) s (pos + (Utf8.decode s pos).2)
      obtain ⟨W1, hW1⟩ : ∃ W1, W1 = wr.iterAt w.heap.size s (pos + (Utf8.decode s pos).2) := ⟨_, rfl⟩
      rw [← hW1] at hnx hit2 hbw2
      have hBlt := lt_of_block hit2
      obtain ⟨c, hc⟩ : ∃ c : Int, c = ((Utf8.decode s pos).1 : Int) := ⟨_, rfl⟩
      rw [← hc] at hnx
      have HC := Lib.hid hc
      clear hW1 hit hbw hc
      go_wp2
      go_loopw [7, 9] (fun b d wr2 => ∃ k : Nat, wr2.heap[W1.heap.size]? = some (.stringIter set k) ∧ Below W1.heap.size W1 wr2 ∧ k ≤ set.size ∧ b = .bool (among set c k)) (fun _ _ w' => set.size - w'.iterPos W1.heap.size)
      case atStart => exact ⟨0, World.iter_heap W1 set 0, (Below.refl _ _).alloc (Nat.le_refl _) _, Nat.zero_le _, by rw [among_zero]⟩
      case round =>
        obtain ⟨k, hit3, hbw3, hk, rfl⟩ := hrel
        have hpos3 := iterPos_of hit3
        by_cases hlt3 : k < set.size
        · have hnx3 : ∀ ty, (Instr.next (.pointer (some ⟨W1.heap.size, 0, none⟩)) true ty).run Tryz.prog wr = _ := fun ty => Lib.run_next_ascii_at wr W1.heap.size set k ty hit3 hlt3 (ascii_at ha k hlt3)
          have hs2 := among_succ set c k hlt3
          have hit4 := Lib.iterAt_heap wr W1.heap.size set k (k + 1) hit3
          have hbw4 := Lib.below_iterAt hbw3 (k := W1.heap.size) (Nat.le_refl _) set (k + 1)
          have hpos4 := iterPos_of hit4
          have HS := Lib.hid hs2
          clear hs2
          cases hb : among set c k
          · go_wp2
            go_roundw
            case rel => exact ⟨k + 1, hit4, hbw4, by omega, by rw [HS.out, hb, Bool.false_or]; congr 1⟩
            case measure => rw [hpos4, hpos3]; omega
          · go_wp2
            go_roundw
            case rel => exact ⟨k + 1, hit4, hbw4, by omega, by rw [HS.out, hb, Bool.true_or]⟩
            case measure => rw [hpos4, hpos3]; omega
        · have hnx3 : ∀ ty, (Instr.next (.pointer (some ⟨W1.heap.size, 0, none⟩)) true ty).run Tryz.prog wr = _ := fun ty => Lib.run_next_end_at wr W1.heap.size set k ty hit3 hlt3
          obtain rfl : k = set.size := by omega
          have hit5 : wr.heap[w.heap.size]? = some (.stringIter s (pos + (Utf8.decode s pos).2)) := by rw [hbw3.block _ hBlt]; exact hit2
          have hbw5 : Below w.heap.size w wr := hbw2.trans (hbw3.mono (by omega))
          have hpos5 := iterPos_of hit5
          cases hb : among set c set.size
          · go_wp2
            go_ret
            refine ⟨⟨pos, hp, hall, fun h => ?_, rfl⟩, hbw5⟩
            rw [← (among_decode ha s pos h set.size).1, ← HC.out]
            exact hb
          · have HB := Lib.hid hb
            clear hb
            go_wp2
            go_roundw
            case rel =>
              have hd := among_decode ha s pos hlt set.size
              have hb1 : among set ((Utf8.decode s pos).1 : Int) set.size = true := by rw [← HC.out]; exact HB.out
              refine ⟨pos + (Utf8.decode s pos).2, hit5, hbw5, ?_, ?_⟩
              · rw [hd.2 hb1]; exact hlt
              · intro j h hj
                rw [hd.2 hb1] at hj
                by_cases e : j < pos
                · exact hall j h e
                · obtain rfl : j = pos := by omega
                  rw [← hd.1]
                  exact hb1
            case measure => rw [hpos5, hpos0]; omega
    · have hnx : ∀ ty, (Instr.next (.pointer (some ⟨w.heap.size, 0, none⟩)) true ty).run Tryz.prog wr = _ := fun ty => Lib.run_next_end_at wr w.heap.size s pos ty hit hlt
      go_wp2
      go_ret
      exact ⟨⟨pos, hp, hall, fun h => absurd h hlt, by rw [extract_none s pos (by omega)]; rfl⟩, hbw⟩
theorem decodeLast_high (l : List UInt8) (hne : l ≠ []) (h : 128 ≤ (l.getD (l.length - 1) 0).toNat) : 128 ≤ (Lib.decodeLastL l).1 := by
  have hst := Lib.lastStart_lt l hne
  unfold Lib.decodeLastL
  rw [if_neg hne, if_neg (by omega)]
  simp only
  split
  · rename_i hd
    unfold Lib.decodeL at hd ⊢
    have hlt : 0 < (⟨(l.drop (Lib.lastStart l)).toArray⟩ : ByteArray).size := by rw [Lib.size_eq]; simp; omega
    have e0 : ((⟨(l.drop (Lib.lastStart l)).toArray⟩ : ByteArray)[0]'hlt) = l.getD (Lib.lastStart l) 0 := by
      show (l.drop (Lib.lastStart l)).toArray[0] = _
      simp [List.getD, List.getElem?_eq_getElem hst]
    by_cases hb : ((⟨(l.drop (Lib.lastStart l)).toArray⟩ : ByteArray)[0]'hlt).toNat < 128
    · rw [decode_ascii _ 0 hlt hb] at hd
      simp only at hd
      rw [e0, show Lib.lastStart l = l.length - 1 by omega] at hb
      omega
    · exact (decode_high _ 0 hlt (by omega)).1
  · decide
theorem decodeLast_among {set : ByteArray} (ha : isAscii set = true) (s : ByteArray) (m : Nat) (h0 : 0 < m) (hm : m ≤ s.size) (k : Nat) :
    among set ((Lib.decodeLastL (s.extract 0 m).data.toList).1 : Int) k = among set ((s[m - 1]'(by omega)).toNat : Int) k ∧ (among set ((Lib.decodeLastL (s.extract 0 m).data.toList).1 : Int) k = true → (Lib.decodeLastL (s.extract 0 m).data.toList).2 = 1) := by
  have hl : (s.extract 0 m).data.toList = s.data.toList.take m := by simp
  have hlen : (s.data.toList.take m).length = m := by rw [List.length_take]; have := Lib.size_eq s; omega
  have hne : s.data.toList.take m ≠ [] := fun h => by rw [h] at hlen; simp at hlen; omega
  have hlast : (s.data.toList.take m).getD (m - 1) 0 = s[m - 1]'(by omega) := by
    have h1 : m - 1 < s.data.toList.length := by have := Lib.size_eq s; omega
    simp only [List.getD, List.getElem?_take, if_pos (show m - 1 < m by omega), List.getElem?_eq_getElem h1, Option.getD_some]
    rfl
  rw [hl]
  by_cases hb : (s[m - 1]'(by omega)).toNat < 128
  · have : Lib.decodeLastL (s.data.toList.take m) = ((s[m - 1]'(by omega)).toNat, 1) := by
      unfold Lib.decodeLastL
      rw [if_neg hne, hlen, hlast, if_pos hb]
    rw [this]
    exact ⟨rfl, fun _ => rfl⟩
  · have h1 := decodeLast_high _ hne (by rw [hlen, hlast]; omega)
    rw [among_high ha (by omega) k, among_high ha (r := ((s[m - 1]'(by omega)).toNat : Int)) (by omega) k]
    exact ⟨rfl, fun h => by cases h⟩
set_option maxRecDepth 1000000 in
set_option maxHeartbeats 2000000 in
theorem leaf_cutRight_any (s set : ByteArray) (w : World) (hG : GL w) (hs : s.size ≤ 9223372036854775807) (ha : isAscii set = true) :
    Calls Tryz.prog 119 #[.string s, .string set] w fun e w' => (∃ m : Nat, m ≤ s.size ∧ (∀ j, (h : j < s.size) → m ≤ j → among set ((s[j]'h).toNat : Int) set.size = true) ∧ (∀ h : m - 1 < s.size, 0 < m → among set ((s[m - 1]'h).toNat : Int) set.size = false) ∧ e = .returned (.string (s.extract 0 m))) ∧ Below w.heap.size w w' := by
  go_enter Tryz.func119, Tryz.ntmps119
  go_wp2
  go_loopw [0, 5, 6, 7, 9] (fun v r n b d wr => ∃ m : Nat, v = .string (s.extract 0 m) ∧ Below w.heap.size w wr ∧ m ≤ s.size ∧ (∀ j, (h : j < s.size) → m ≤ j → among set ((s[j]'h).toNat : Int) set.size = true)) (fun v _ _ _ _ _ => match v with | .string t => t.size | _ => 0)
  case atStart => exact ⟨s.size, by rw [ByteArray.extract_zero_size], Below.refl _ _, Nat.le_refl _, fun j h hj => by omega⟩
  case round =>
    obtain ⟨m, rfl, hbw, hm, hall⟩ := hrel
    have hsz : (s.extract 0 m).size = m := by rw [ByteArray.size_extract]; omega
    by_cases h0 : 0 < m
    · have hG1 := hG.below hbw
      have HD := Lib.hid (decodeLast_among ha s m h0 hm set.size)
      obtain ⟨r, hr⟩ : ∃ r : Int, r = ((Lib.decodeLastL (s.extract 0 m).data.toList).1 : Int) := ⟨_, rfl⟩
      obtain ⟨n, hn⟩ : ∃ n : Nat, n = (Lib.decodeLastL (s.extract 0 m).data.toList).2 := ⟨_, rfl⟩
      have hD := Tryz.utf8_DecodeLastRuneInString (s.extract 0 m) wr (by omega) hG1.1
      rw [← hr, ← hn] at hD
      have HR := Lib.hid hr
      have HN := Lib.hid hn
      clear hr hn hG1
      have hs0 : (0 : Int) < (m : Int) := by omega
      go_wp2_with (go_at_call 96; refine hD.mono ?_; rintro e W1 ⟨rfl, hb1⟩)
      have hbw1 := hbw.trans (hb1.mono hbw.size)
      have hBlt := hbw1.size
      clear hD hb1 hbw
      go_loopw [7, 9] (fun b d wr2 => ∃ k : Nat, wr2.heap[W1.heap.size]? = some (.stringIter set k) ∧ Below W1.heap.size W1 wr2 ∧ k ≤ set.size ∧ b = .bool (among set r k)) (fun _ _ w' => set.size - w'.iterPos W1.heap.size)
      case atStart => exact ⟨0, World.iter_heap W1 set 0, (Below.refl _ _).alloc (Nat.le_refl _) _, Nat.zero_le _, by rw [among_zero]⟩
      case round =>
        obtain ⟨k, hit3, hbw3, hk, rfl⟩ := hrel
        have hpos3 := iterPos_of hit3
        by_cases hlt3 : k < set.size
        · have hnx3 : ∀ ty, (Instr.next (.pointer (some ⟨W1.heap.size, 0, none⟩)) true ty).run Tryz.prog wr = _ := fun ty => Lib.run_next_ascii_at wr W1.heap.size set k ty hit3 hlt3 (ascii_at ha k hlt3)
          have hs2 := among_succ set r k hlt3
          have hit4 := Lib.iterAt_heap wr W1.heap.size set k (k + 1) hit3
          have hbw4 := Lib.below_iterAt hbw3 (k := W1.heap.size) (Nat.le_refl _) set (k + 1)
          have hpos4 := iterPos_of hit4
          have HS := Lib.hid hs2
          clear hs2
          cases hb : among set r k
          · go_wp2
            go_roundw
            case rel => exact ⟨k + 1, hit4, hbw4, by omega, by rw [HS.out, hb, Bool.false_or]; congr 1⟩
            case measure => rw [hpos4, hpos3]; omega
          · go_wp2
            go_roundw
            case rel => exact ⟨k + 1, hit4, hbw4, by omega, by rw [HS.out, hb, Bool.true_or]⟩
            case measure => rw [hpos4, hpos3]; omega
        · have hnx3 : ∀ ty, (Instr.next (.pointer (some ⟨W1.heap.size, 0, none⟩)) true ty).run Tryz.prog wr = _ := fun ty => Lib.run_next_end_at wr W1.heap.size set k ty hit3 hlt3
          obtain rfl : k = set.size := by omega
          have hbw5 : Below w.heap.size w wr := hbw1.trans (hbw3.mono (by omega))
          cases hb : among set r set.size
          · go_wp2
            go_ret
            refine ⟨⟨m, hm, hall, fun h _ => ?_, rfl⟩, hbw5⟩
            rw [← HD.out.1, ← HR.out]
            exact hb
          · have HB := Lib.hid hb
            have e1 : n = 1 := by rw [HN.out]; exact HD.out.2 (by rw [← HR.out]; exact hb)
            subst e1
            clear hb
            go_wp2
            go_roundw
            case rel =>
              refine ⟨m - 1, ?_, hbw5, by omega, ?_⟩
              · congr 1; rw [ByteArray.extract_extract]; congr 1; omega
              · intro j h hj
                by_cases e : m ≤ j
                · exact hall j h e
                · obtain rfl : j = m - 1 := by omega
                  rw [← HD.out.1, ← HR.out]
                  exact HB.out
            case measure => simp only [ByteArray.size_extract]; omega
    · go_wp2
      go_ret
      exact ⟨⟨m, hm, hall, fun h hh => absurd hh h0, rfl⟩, hbw⟩
end Go.Proofs.YtpimcdkhjingjaaGreatDoor.X
namespace Go.Proofs.YtpimcdkhjingjaaGreatDoor.X
open Go.RowKit Go.Proofs.YtpimcdkhjingjaaGreatDoorW.PrintWords
def S (l : List UInt8) : ByteArray := ⟨l.toArray⟩
theorem S_eta (s : ByteArray) : s = S s.data.toList := rfl
theorem S_data (l : List UInt8) : (S l).data.toList = l := rfl
theorem S_size (l : List UInt8) : (S l).size = l.length := by rw [Lib.size_eq]; rfl
theorem S_extract (l : List UInt8) (a b : Nat) : (S l).extract a b = S ((l.drop a).take (b - a)) := by
  apply ByteArray.ext
  apply Array.ext'
  rw [ByteArray.data_extract, Array.toList_extract]
  rfl
theorem S_drop (l : List UInt8) (a : Nat) : (S l).extract a (S l).size = S (l.drop a) := by
  rw [S_extract, S_size, List.take_of_length_le (by simp)]
theorem S_take (l : List UInt8) (b : Nat) : (S l).extract 0 b = S (l.take b) := by
  rw [S_extract, List.drop_zero, Nat.sub_zero]
theorem S_append (a b : List UInt8) : S a ++ S b = S (a ++ b) := by
  apply ByteArray.ext
  apply Array.ext'
  simp [S]
theorem S_toList (l : List UInt8) : (S l).toList = l := by
  have h := Lib.extract_toList (S l) 0 (S l).size
  rw [ByteArray.extract_zero_size] at h
  rw [h, S_data, List.drop_zero, Nat.sub_zero, S_size, List.take_length]
theorem S_bt (l : List UInt8) (i : Int) (h0 : 0 ≤ i) (h : i < (l.length : Int)) : bt (S l) i = ((l[i.toNat]'(by omega)).toNat : Int) := by
  unfold bt
  rw [dif_pos (by rw [S_size]; omega)]
  rfl
theorem S_bt0 (c : UInt8) (t : List UInt8) : bt (S (c :: t)) 0 = (c.toNat : Int) := by
  rw [S_bt _ _ (Int.le_refl _) (by simp)]
  rfl
theorem byte_back (c : UInt8) : ((c.toNat : Int).toNat).toUInt8 = c := by
  simp
theorem byte_eq {a b : UInt8} : ((a.toNat : Int) = (b.toNat : Int)) ↔ a = b := by
  constructor
  · intro h; exact UInt8.toNat_inj.1 (by omega)
  · intro h; rw [h]
theorem wrap_id {i : Int} (h0 : -9223372036854775808 ≤ i) (h : i ≤ 9223372036854775807) : wrap64 i = i := by
  unfold wrap64
  omega
theorem indexByte_dec (l : List UInt8) (c : UInt8) : decide (Lib.indexByte l c < 0) = !(l.contains c) := by
  induction l with
  | nil => rfl
  | cons b l ih =>
    unfold Lib.indexByte
    rw [List.contains_cons]
    by_cases e : b = c
    · subst e; simp
    · have e' : (b == c) = false := beq_eq_false_iff_ne.2 e
      have e'' : (c == b) = false := beq_eq_false_iff_ne.2 (Ne.symm e)
      rw [e', e'']
      by_cases h : Lib.indexByte l c = -1
      · rw [Bool.false_or, ← ih, h]; rfl
      · have h2 : (Lib.indexByte l c == -1) = false := beq_eq_false_iff_ne.2 h
        have h3 := Lib.indexByte_ge l c
        rw [Bool.false_or, ← ih, h2]
        simp only [Bool.false_eq_true, if_false]
        congr 1
        apply propext
        omega
theorem indexByte_lt (l : List UInt8) (c : UInt8) : Lib.indexByte l c < 0 ↔ l.contains c = false := by
  have := indexByte_dec l c
  constructor
  · intro h
    rw [decide_eq_true h] at this
    simpa using this.symm
  · intro h
    rw [h] at this
    simpa using this
theorem indexByte_nn (l : List UInt8) (c : UInt8) : 0 ≤ Lib.indexByte l c ↔ l.contains c = true := by
  have := indexByte_lt l c
  cases hc : l.contains c
  · rw [hc] at this
    simp at this
    simp; omega
  · rw [hc] at this
    simp at this
    simp; omega
def runB (c : UInt8) (l : List UInt8) : Nat := (l.takeWhile (· == c)).length
theorem runB_cons_eq (c : UInt8) (l : List UInt8) : runB c (c :: l) = runB c l + 1 := by simp [runB]
theorem runB_cons_ne {c b : UInt8} (l : List UInt8) (h : b ≠ c) : runB c (b :: l) = 0 := by simp [runB, h]
theorem runB_le (c : UInt8) (l : List UInt8) : runB c l ≤ l.length := List.Sublist.length_le (List.takeWhile_sublist _)
theorem drop_cons {α : Type} {l : List α} {i : Nat} (h : i < l.length) : l.drop i = l[i] :: l.drop (i + 1) := (List.getElem_cons_drop h).symm
def blankB (c : UInt8) : Bool := c == 32 || c == 9
end Go.Proofs.YtpimcdkhjingjaaGreatDoor.X
namespace Go.Proofs.YtpimcdkhjingjaaGreatDoor.X
open Go.RowKit Go.Proofs.YtpimcdkhjingjaaGreatDoorW.PrintWords
@[go_sem] theorem lim_min_one (n : Nat) : (9223372036854775807 < 2 + min 1 n) = False := by
  rw [eq_iff_iff, iff_false]
  omega
theorem lim_false {a b : Nat} (h : a ≤ b) : (b < a) = False := eq_false (Nat.not_lt.2 h)
theorem min_lit5 {n : Int} (h : n ≤ 5) : min n.toNat (⟨#[32, 32, 32, 32, 32]⟩ : ByteArray).size = n.toNat := Nat.min_eq_left (show n.toNat ≤ 5 by omega)
theorem GL.drawn {w w' : World} (h : GL w) (hd : Drawn0 w w') : GL w' := h.below hd.below
theorem ascii_list {s : ByteArray} (h : isAscii s = true) : ∀ (j : Nat) b, s.data.toList[j]? = some b → b.toNat < 128 := by
  intro j b hj
  have := List.all_eq_true.1 h b (List.mem_of_getElem? hj)
  simpa using this
theorem among_contains (set : ByteArray) (b : UInt8) : among set (b.toNat : Int) set.size = set.data.toList.contains b := by
  unfold among
  rw [List.take_of_length_le (by rw [Lib.size_eq]; exact Nat.le_refl _), List.contains_eq_any_beq]
  congr 1
  funext x
  by_cases e : b = x
  · subst e; simp
  · have : b.toNat ≠ x.toNat := fun h => e (UInt8.toNat_inj.1 h)
    rw [beq_eq_false_iff_ne.2 e, decide_eq_false (by omega)]
def strings_IndexByte.f (a0 : ByteArray) (a1 : Int) : Option Int := some (Lib.indexByte a0.data.toList a1.toNat.toUInt8)
theorem strings_IndexByte.calls (a0 : ByteArray) (a1 : Int) (r : Int) (w : World) (h : strings_IndexByte.f a0 a1 = some r) : Calls Tryz.prog 116 #[.string a0, .int .u8 a1] w fun e w' => e = .returned (.int .i64 r) ∧ Drawn0 w w' :=
  (Tryz.strings_IndexByte a0 a1 w).mono fun e w' ⟨h1, h2⟩ => ⟨by rw [h1]; congr 2; exact Option.some.inj h, h2 ▸ Drawn0.refl _⟩
def strings_Count.f (a0 a1 : ByteArray) : Option Int := if a1.size = 1 then some (Lib.countByte a0.data.toList (a1.data.toList.getD 0 0) : Nat) else none
theorem strings_Count.calls (a0 a1 : ByteArray) (r : Int) (w : World) (h : strings_Count.f a0 a1 = some r) : Calls Tryz.prog 118 #[.string a0, .string a1] w fun e w' => e = .returned (.int .i64 r) ∧ Drawn0 w w' := by
  unfold strings_Count.f at h
  split at h
  · rename_i h1
    obtain ⟨c, hc⟩ : ∃ c, a1 = ⟨#[c]⟩ := by
      have hlen : a1.data.toList.length = 1 := by rw [← Lib.size_eq]; exact h1
      match hh : a1.data.toList, hlen with
      | [c], _ => exact ⟨c, by rw [← Lib.mk_data a1, hh]⟩
    subst hc
    exact (Tryz.strings_Count_one a0 c w).mono fun e w' ⟨h1, h2⟩ => ⟨by rw [h1]; congr 2; exact Option.some.inj h, h2 ▸ Drawn0.refl _⟩
  · cases h
def trimOk (s set : ByteArray) : Bool := decide (s.size ≤ 9223372036854775807) && decide (set.size < 4294967281) && isAscii set
theorem trimOk_1 {s set : ByteArray} (h : trimOk s set = true) : s.size ≤ 9223372036854775807 := by simp [trimOk] at h; exact h.1.1
theorem trimOk_2 {s set : ByteArray} (h : trimOk s set = true) : set.size < 4294967281 := by simp [trimOk] at h; exact h.1.2
theorem trimOk_3 {s set : ByteArray} (h : trimOk s set = true) : isAscii set = true := by simp [trimOk] at h; exact h.2
def strings_Trim.f (a0 a1 : ByteArray) : Option ByteArray := if trimOk a0 a1 = true then some ⟨(Lib.trimS a0.data.toList a1.data.toList).toArray⟩ else none
theorem strings_Trim.calls (a0 a1 r : ByteArray) (w : World) (h : strings_Trim.f a0 a1 = some r) : Calls Tryz.prog 35 #[.string a0, .string a1] w fun e w' => e = .returned (.string r) ∧ Below w.heap.size w w' := by
  unfold strings_Trim.f at h
  split at h
  · rename_i hk
    rw [← Option.some.inj h]
    exact Any.strings_Trim_laid Tryz.lays160 (by kernel_rfl) a0 a1 w (trimOk_1 hk) (trimOk_2 hk) (ascii_list (trimOk_3 hk))
  · cases h
def strings_TrimRight.f (a0 a1 : ByteArray) : Option ByteArray := if trimOk a0 a1 = true then some ⟨(Lib.trimRightS a0.data.toList a1.data.toList).toArray⟩ else none
theorem strings_TrimRight.calls (a0 a1 r : ByteArray) (w : World) (h : strings_TrimRight.f a0 a1 = some r) : Calls Tryz.prog 33 #[.string a0, .string a1] w fun e w' => e = .returned (.string r) ∧ Below w.heap.size w w' := by
  unfold strings_TrimRight.f at h
  split at h
  · rename_i hk
    rw [← Option.some.inj h]
    exact Any.strings_TrimRight_laid Tryz.lays162 (by kernel_rfl) a0 a1 w (trimOk_1 hk) (trimOk_2 hk) (ascii_list (trimOk_3 hk))
  · cases h
def strings_TrimLeft.f (a0 a1 : ByteArray) : Option ByteArray := if trimOk a0 a1 = true then some ⟨(Lib.trimLeftS a0.data.toList a1.data.toList).toArray⟩ else none
theorem strings_TrimLeft.calls (a0 a1 r : ByteArray) (w : World) (h : strings_TrimLeft.f a0 a1 = some r) : Calls Tryz.prog 52 #[.string a0, .string a1] w fun e w' => e = .returned (.string r) ∧ Below w.heap.size w w' := by
  unfold strings_TrimLeft.f at h
  split at h
  · rename_i hk
    rw [← Option.some.inj h]
    exact Any.strings_TrimLeft_laid Tryz.lays161 (by kernel_rfl) a0 a1 w (trimOk_2 hk) (ascii_list (trimOk_3 hk))
  · cases h
def leaf_cutLeft.f (a0 a1 : ByteArray) : Option ByteArray := if isAscii a1 = true then some ⟨(Lib.trimLeftS a0.data.toList a1.data.toList).toArray⟩ else none
theorem leaf_cutLeft.calls (a0 a1 r : ByteArray) (w : World) (h : leaf_cutLeft.f a0 a1 = some r) : Calls Tryz.prog 120 #[.string a0, .string a1] w fun e w' => e = .returned (.string r) ∧ Below w.heap.size w w' := by
  unfold leaf_cutLeft.f at h
  split at h
  · rename_i hk
    rw [← Option.some.inj h]
    refine (leaf_cutLeft_any a0 a1 w hk).mono ?_
    rintro e w' ⟨⟨i, hi, h1, h2, rfl⟩, hb⟩
    refine ⟨?_, hb⟩
    rw [Lib.trimLeftS_drop a0.data.toList a1.data.toList i (by have := Lib.size_eq a0; omega) ?_ ?_]
    · rw [← Lib.extract_to_end, Lib.mk_data]
    · intro j b hj hb
      obtain ⟨hlt, rfl⟩ := List.getElem?_eq_some_iff.1 hb
      have hlt' : j < a0.size := by have := Lib.size_eq a0; omega
      rw [← among_contains]
      exact h1 j hlt' hj
    · intro b hb
      obtain ⟨hlt, rfl⟩ := List.getElem?_eq_some_iff.1 hb
      have hlt' : i < a0.size := by have := Lib.size_eq a0; omega
      rw [← among_contains]
      exact h2 hlt'
  · cases h
def leaf_cutRight.f (a0 a1 : ByteArray) : Option ByteArray := if trimOk a0 a1 = true then some ⟨(Lib.trimRightS a0.data.toList a1.data.toList).toArray⟩ else none
theorem leaf_cutRight.calls (a0 a1 r : ByteArray) (w : World) (hG : GL w) (h : leaf_cutRight.f a0 a1 = some r) : Calls Tryz.prog 119 #[.string a0, .string a1] w fun e w' => e = .returned (.string r) ∧ Below w.heap.size w w' := by
  unfold leaf_cutRight.f at h
  split at h
  · rename_i hk
    rw [← Option.some.inj h]
    refine (leaf_cutRight_any a0 a1 w hG (trimOk_1 hk) (trimOk_3 hk)).mono ?_
    rintro e w' ⟨⟨i, hi, h1, h2, rfl⟩, hb⟩
    refine ⟨?_, hb⟩
    rw [Lib.trimRightS_take a0.data.toList a1.data.toList i (by have := Lib.size_eq a0; omega) ?_ ?_]
    · congr 2
      apply ByteArray.ext
      apply Array.ext'
      simp
    · intro j b hj hb
      obtain ⟨hlt, rfl⟩ := List.getElem?_eq_some_iff.1 hb
      have hlt' : j < a0.size := by have := Lib.size_eq a0; omega
      rw [← among_contains]
      exact h1 j hlt' hj
    · intro b h0 hb
      obtain ⟨hlt, rfl⟩ := List.getElem?_eq_some_iff.1 hb
      have hlt' : i - 1 < a0.size := by have := Lib.size_eq a0; omega
      rw [← among_contains]
      exact h2 hlt' h0
  · cases h
end Go.Proofs.YtpimcdkhjingjaaGreatDoor.X
