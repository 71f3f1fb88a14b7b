import Derived.Test.YtekfgkeimlidhaaGreatDoorBkN
import Derived.Test.YtekfgkeimlidhaaGreatDoorBox
import Derived.Shelf.Small.Strs
import Derived.Shelf.Small.Wraps
import Derived.Shelf.Strings.LastIndex
import Derived.Shelf.Strings.Prefix
import Derived.Shelf.Strings.Split
import Derived.Shelf.Strconv.AtoiAll
import Derived.Shelf.Strconv.ErrVarAll
import Derived.WalkSmall
import Derived.Test.YtekfgkeimlidhaaGreatDoorStr
import Derived.Lib.IndexLaws
import Derived.Test.YtekfgkeimlidhaaGreatDoorPhI
/- what Go's library gives: strings.IndexByte, LastIndexByte, CutSuffix, TrimSuffix, Split; strconv.Atoi -/
set_option linter.all false
set_option maxRecDepth 100000
namespace Go.Proofs.YtekfgkeimlidhaaGreatDoor
open Go.RowKit Go.Shelf
def ixBRen : Ren := ⟨fun x => if x = 137 then 15 else if x = 217 then 34 else if x = 266 then 54 else 0,
  fun x => if x = 3 then 3 else if x = 5 then 5 else if x = 9 then 9 else 0, fun x => x⟩
theorem ixBLays : Lays.n137 Tryz.prog ixBRen :=
  { mixed := by kernel_rfl
    f137 := Tryz.func15.trans (congrArg some (by kernel_rfl))
    f217 := Tryz.func34.trans (congrArg some (by kernel_rfl))
    f266 := Tryz.func54.trans (congrArg some (by kernel_rfl))
    t3 := Tryz.underlying3
    a3 := Tryz.isAgg3
    z3 := Tryz.sizeOf3
    v3 := Tryz.zeroValue3
    t5 := Tryz.underlying5
    a5 := Tryz.isAgg5
    z5 := Tryz.sizeOf5
    v5 := Tryz.zeroValue5
    t9 := Tryz.underlying9
    a9 := Tryz.isAgg9
    z9 := Tryz.sizeOf9
    v9 := Tryz.zeroValue9 }
def lixBRen : Ren := ⟨fun x => if x = 149 then 83 else if x = 222 then 101 else 0,
  fun x => if x = 3 then 3 else if x = 4 then 4 else if x = 5 then 5 else if x = 9 then 9 else 0, fun x => x⟩
theorem lixBLays : Lays.n149 Tryz.prog lixBRen :=
  { mixed := by kernel_rfl
    f149 := Tryz.func83.trans (congrArg some (by kernel_rfl))
    f222 := Tryz.func101.trans (congrArg some (by kernel_rfl))
    t3 := Tryz.underlying3
    a3 := Tryz.isAgg3
    z3 := Tryz.sizeOf3
    v3 := Tryz.zeroValue3
    t4 := Tryz.underlying4
    a4 := Tryz.isAgg4
    z4 := Tryz.sizeOf4
    v4 := Tryz.zeroValue4
    t5 := Tryz.underlying5
    a5 := Tryz.isAgg5
    z5 := Tryz.sizeOf5
    v5 := Tryz.zeroValue5
    t9 := Tryz.underlying9
    a9 := Tryz.isAgg9
    z9 := Tryz.sizeOf9
    v9 := Tryz.zeroValue9 }
def cutSRen : Ren := ⟨fun x => if x = 104 then 65 else if x = 207 then 46 else if x = 211 then 82 else 0,
  fun x => if x = 3 then 3 else if x = 4 then 4 else if x = 9 then 9 else if x = 24 then 105 else 0, fun x => x⟩
theorem cutSLays : Lays.n104 Tryz.prog cutSRen :=
  { mixed := by kernel_rfl
    f104 := Tryz.func65.trans (congrArg some (by kernel_rfl))
    f207 := Tryz.func46.trans (congrArg some (by kernel_rfl))
    f211 := Tryz.func82.trans (congrArg some (by kernel_rfl))
    t3 := Tryz.underlying3
    a3 := Tryz.isAgg3
    z3 := Tryz.sizeOf3
    v3 := Tryz.zeroValue3
    t4 := Tryz.underlying4
    a4 := Tryz.isAgg4
    z4 := Tryz.sizeOf4
    v4 := Tryz.zeroValue4
    t9 := Tryz.underlying9
    a9 := Tryz.isAgg9
    z9 := Tryz.sizeOf9
    v9 := Tryz.zeroValue9
    t24 := Tryz.underlying105
    a24 := Tryz.isAgg105
    z24 := Tryz.sizeOf105
    v24 := Tryz.zeroValue105 }
def spltRen : Ren := ⟨fun x => if x = 138 then 68 else if x = 143 then 69 else if x = 146 then 22 else if x = 195 then 85 else if x = 197 then 86 else if x = 217 then 34 else if x = 218 then 87 else if x = 219 then 88 else if x = 221 then 44 else if x = 224 then 104 else if x = 225 then 103 else if x = 260 then 102 else if x = 266 then 54 else if x = 267 then 105 else if x = 268 then 67 else if x = 314 then 114 else 0,
  fun x => if x = 0 then 0 else if x = 3 then 3 else if x = 4 then 4 else if x = 5 then 5 else if x = 9 then 9 else if x = 21 then 21 else if x = 31 then 59 else if x = 46 then 47 else if x = 51 then 160 else if x = 105 then 125 else if x = 119 then 163 else if x = 138 then 165 else if x = 139 then 166 else if x = 146 then 167 else 0, fun x => if x = 1 then 0 else if x = 3 then 5 else if x = 4 then 6 else x⟩
theorem spltLays : Lays.n146 Tryz.prog spltRen :=
  { mixed := by kernel_rfl
    f138 := Tryz.func68.trans (congrArg some (by kernel_rfl))
    f143 := Tryz.func69.trans (congrArg some (by kernel_rfl))
    f146 := Tryz.func22.trans (congrArg some (by kernel_rfl))
    f195 := Tryz.func85.trans (congrArg some (by kernel_rfl))
    f197 := Tryz.func86.trans (congrArg some (by kernel_rfl))
    f217 := Tryz.func34.trans (congrArg some (by kernel_rfl))
    f218 := Tryz.func87.trans (congrArg some (by kernel_rfl))
    f219 := Tryz.func88.trans (congrArg some (by kernel_rfl))
    f221 := Tryz.func44.trans (congrArg some (by kernel_rfl))
    f224 := Tryz.func104.trans (congrArg some (by kernel_rfl))
    f225 := Tryz.func103.trans (congrArg some (by kernel_rfl))
    f260 := Tryz.func102.trans (congrArg some (by kernel_rfl))
    f266 := Tryz.func54.trans (congrArg some (by kernel_rfl))
    f267 := Tryz.func105.trans (congrArg some (by kernel_rfl))
    f268 := Tryz.func67.trans (congrArg some (by kernel_rfl))
    f314 := Tryz.func114.trans (congrArg some (by kernel_rfl))
    t0 := Tryz.underlying0
    a0 := Tryz.isAgg0
    z0 := Tryz.sizeOf0
    v0 := Tryz.zeroValue0
    t3 := Tryz.underlying3
    a3 := Tryz.isAgg3
    z3 := Tryz.sizeOf3
    v3 := Tryz.zeroValue3
    t4 := Tryz.underlying4
    a4 := Tryz.isAgg4
    z4 := Tryz.sizeOf4
    v4 := Tryz.zeroValue4
    t5 := Tryz.underlying5
    a5 := Tryz.isAgg5
    z5 := Tryz.sizeOf5
    v5 := Tryz.zeroValue5
    t9 := Tryz.underlying9
    a9 := Tryz.isAgg9
    z9 := Tryz.sizeOf9
    v9 := Tryz.zeroValue9
    t21 := Tryz.underlying21
    a21 := Tryz.isAgg21
    z21 := Tryz.sizeOf21
    v21 := Tryz.zeroValue21
    t31 := Tryz.underlying59
    a31 := Tryz.isAgg59
    z31 := Tryz.sizeOf59
    v31 := Tryz.zeroValue59
    t46 := Tryz.underlying47
    a46 := Tryz.isAgg47
    z46 := Tryz.sizeOf47
    v46 := Tryz.zeroValue47
    t51 := Tryz.underlying160
    a51 := Tryz.isAgg160
    z51 := Tryz.sizeOf160
    v51 := Tryz.zeroValue160
    t105 := Tryz.underlying125
    a105 := Tryz.isAgg125
    z105 := Tryz.sizeOf125
    v105 := Tryz.zeroValue125
    t119 := Tryz.underlying163
    a119 := Tryz.isAgg163
    z119 := Tryz.sizeOf163
    t138 := Tryz.underlying165
    a138 := Tryz.isAgg165
    z138 := Tryz.sizeOf165
    v138 := Tryz.zeroValue165
    t139 := Tryz.underlying166
    a139 := Tryz.isAgg166
    z139 := Tryz.sizeOf166
    v139 := Tryz.zeroValue166
    t146 := Tryz.underlying167
    a146 := Tryz.isAgg167
    z146 := Tryz.sizeOf167
    v146 := Tryz.zeroValue167
    g1 := by kernel_rfl
    g3 := by kernel_rfl
    g4 := by kernel_rfl }
def atoiRen : Ren := ⟨fun x => if x = 129 then 110 else if x = 171 then 40 else if x = 172 then 45 else if x = 205 then 108 else if x = 243 then 63 else if x = 244 then 70 else if x = 245 then 71 else if x = 246 then 81 else if x = 247 then 89 else if x = 279 then 90 else if x = 280 then 91 else if x = 281 then 92 else if x = 282 then 93 else if x = 283 then 97 else if x = 284 then 98 else if x = 285 then 99 else if x = 286 then 100 else if x = 287 then 106 else if x = 316 then 107 else if x = 317 then 109 else if x = 318 then 111 else if x = 319 then 112 else if x = 320 then 113 else if x = 321 then 115 else if x = 322 then 116 else if x = 337 then 117 else if x = 338 then 118 else 0,
  fun x => if x = 0 then 0 else if x = 2 then 2 else if x = 3 then 3 else if x = 4 then 4 else if x = 5 then 5 else if x = 9 then 9 else if x = 20 then 20 else if x = 21 then 21 else if x = 37 then 29 else if x = 46 then 47 else if x = 51 then 160 else if x = 53 then 148 else if x = 75 then 36 else if x = 76 then 37 else if x = 80 then 41 else if x = 85 then 128 else if x = 127 then 65 else if x = 143 then 170 else if x = 145 then 172 else if x = 167 then 127 else if x = 168 then 130 else if x = 171 then 147 else if x = 173 then 151 else if x = 175 then 154 else if x = 210 then 157 else if x = 212 then 159 else if x = 213 then 161 else if x = 232 then 174 else if x = 233 then 175 else 0, fun x => if x = 15 then 2 else if x = 16 then 3 else if x = 17 then 4 else if x = 18 then 7 else if x = 19 then 8 else x⟩
theorem atoiLays : LaysC.n172 Tryz.prog atoiRen :=
  { mixed := by kernel_rfl
    f129 := Tryz.func110.trans (congrArg some (by kernel_rfl))
    f171 := Tryz.func40.trans (congrArg some (by kernel_rfl))
    f172 := Tryz.func45.trans (congrArg some (by kernel_rfl))
    f205 := Tryz.func108.trans (congrArg some (by kernel_rfl))
    f243 := Tryz.func63.trans (congrArg some (by kernel_rfl))
    f244 := Tryz.func70.trans (congrArg some (by kernel_rfl))
    f245 := Tryz.func71.trans (congrArg some (by kernel_rfl))
    f246 := Tryz.func81.trans (congrArg some (by kernel_rfl))
    f247 := Tryz.func89.trans (congrArg some (by kernel_rfl))
    f279 := Tryz.func90.trans (congrArg some (by kernel_rfl))
    f280 := Tryz.func91.trans (congrArg some (by kernel_rfl))
    f281 := Tryz.func92.trans (congrArg some (by kernel_rfl))
    f282 := Tryz.func93.trans (congrArg some (by kernel_rfl))
    f283 := Tryz.func97.trans (congrArg some (by kernel_rfl))
    f284 := Tryz.func98.trans (congrArg some (by kernel_rfl))
    f285 := Tryz.func99.trans (congrArg some (by kernel_rfl))
    f286 := Tryz.func100.trans (congrArg some (by kernel_rfl))
    f287 := Tryz.func106.trans (congrArg some (by kernel_rfl))
    f316 := Tryz.func107.trans (congrArg some (by kernel_rfl))
    f317 := Tryz.func109.trans (congrArg some (by kernel_rfl))
    f318 := Tryz.func111.trans (congrArg some (by kernel_rfl))
    f319 := Tryz.func112.trans (congrArg some (by kernel_rfl))
    f320 := Tryz.func113.trans (congrArg some (by kernel_rfl))
    f321 := Tryz.func115.trans (congrArg some (by kernel_rfl))
    f322 := Tryz.func116.trans (congrArg some (by kernel_rfl))
    f337 := Tryz.func117.trans (congrArg some (by kernel_rfl))
    f338 := Tryz.func118.trans (congrArg some (by kernel_rfl))
    t0 := Tryz.underlying0
    a0 := Tryz.isAgg0
    z0 := Tryz.sizeOf0
    v0 := Tryz.zeroValue0
    t2 := Tryz.underlying2
    a2 := Tryz.isAgg2
    z2 := Tryz.sizeOf2
    v2 := Tryz.zeroValue2
    t3 := Tryz.underlying3
    a3 := Tryz.isAgg3
    z3 := Tryz.sizeOf3
    v3 := Tryz.zeroValue3
    t4 := Tryz.underlying4
    a4 := Tryz.isAgg4
    z4 := Tryz.sizeOf4
    v4 := Tryz.zeroValue4
    t5 := Tryz.underlying5
    a5 := Tryz.isAgg5
    z5 := Tryz.sizeOf5
    v5 := Tryz.zeroValue5
    t9 := Tryz.underlying9
    a9 := Tryz.isAgg9
    z9 := Tryz.sizeOf9
    v9 := Tryz.zeroValue9
    t20 := Tryz.underlying20
    a20 := Tryz.isAgg20
    z20 := Tryz.sizeOf20
    v20 := Tryz.zeroValue20
    t21 := Tryz.underlying21
    a21 := Tryz.isAgg21
    z21 := Tryz.sizeOf21
    v21 := Tryz.zeroValue21
    t37 := Tryz.underlying29
    a37 := Tryz.isAgg29
    z37 := Tryz.sizeOf29
    v37 := Tryz.zeroValue29
    t46 := Tryz.underlying47
    a46 := Tryz.isAgg47
    z46 := Tryz.sizeOf47
    v46 := Tryz.zeroValue47
    t51 := Tryz.underlying160
    a51 := Tryz.isAgg160
    z51 := Tryz.sizeOf160
    v51 := Tryz.zeroValue160
    t53 := Tryz.underlying148
    a53 := Tryz.isAgg148
    z53 := Tryz.sizeOf148
    v53 := Tryz.zeroValue148
    t75 := Tryz.underlying36
    a75 := Tryz.isAgg36
    z75 := Tryz.sizeOf36
    v75 := Tryz.zeroValue36
    t76 := Tryz.underlying37
    a76 := Tryz.isAgg37
    z76 := Tryz.sizeOf37
    v76 := Tryz.zeroValue37
    t85 := Tryz.underlying128
    a85 := Tryz.isAgg128
    z85 := Tryz.sizeOf128
    v85 := Tryz.zeroValue128
    t127 := Tryz.underlying65
    a127 := Tryz.isAgg65
    z127 := Tryz.sizeOf65
    v127 := Tryz.zeroValue65
    t143 := Tryz.underlying170
    a143 := Tryz.isAgg170
    z143 := Tryz.sizeOf170
    v143 := Tryz.zeroValue170
    t145 := Tryz.underlying172
    a145 := Tryz.isAgg172
    z145 := Tryz.sizeOf172
    v145 := Tryz.zeroValue172
    t167 := Tryz.underlying127
    a167 := Tryz.isAgg127
    z167 := Tryz.sizeOf127
    v167 := Tryz.zeroValue127
    t168 := Tryz.underlying130
    a168 := Tryz.isAgg130
    z168 := Tryz.sizeOf130
    v168 := Tryz.zeroValue130
    t171 := Tryz.underlying147
    a171 := Tryz.isAgg147
    z171 := Tryz.sizeOf147
    v171 := Tryz.zeroValue147
    t173 := Tryz.underlying151
    a173 := Tryz.isAgg151
    z173 := Tryz.sizeOf151
    v173 := Tryz.zeroValue151
    t175 := Tryz.underlying154
    a175 := Tryz.isAgg154
    z175 := Tryz.sizeOf154
    v175 := Tryz.zeroValue154
    t210 := Tryz.underlying157
    a210 := Tryz.isAgg157
    z210 := Tryz.sizeOf157
    v210 := Tryz.zeroValue157
    t212 := Tryz.underlying159
    a212 := Tryz.isAgg159
    z212 := Tryz.sizeOf159
    v212 := Tryz.zeroValue159
    t213 := Tryz.underlying161
    a213 := Tryz.isAgg161
    z213 := Tryz.sizeOf161
    t232 := Tryz.underlying174
    a232 := Tryz.isAgg174
    z232 := Tryz.sizeOf174
    v232 := Tryz.zeroValue174
    t233 := Tryz.underlying175
    a233 := Tryz.isAgg175
    z233 := Tryz.sizeOf175
    v233 := Tryz.zeroValue175
    g15 := by kernel_rfl
    g16 := by kernel_rfl
    g17 := by kernel_rfl
    g18 := by kernel_rfl
    g19 := by kernel_rfl
    t80 := Tryz.underlying41
    a80 := Tryz.isAgg41
    z80 := Tryz.sizeOf41
    v80 := Tryz.zeroValue41
    i0 := by kernel_rfl
    i2 := by kernel_rfl
    i3 := by kernel_rfl
    i4 := by kernel_rfl
    i5 := by kernel_rfl
    i9 := by kernel_rfl
    i20 := by kernel_rfl
    i21 := by kernel_rfl
    i37 := by kernel_rfl
    i46 := by kernel_rfl
    i51 := by kernel_rfl
    i53 := by kernel_rfl
    i75 := by kernel_rfl
    i76 := by kernel_rfl
    i80 := by kernel_rfl
    i85 := by kernel_rfl
    i127 := by kernel_rfl
    i143 := by kernel_rfl
    i145 := by kernel_rfl
    i167 := by kernel_rfl
    i168 := by kernel_rfl
    i171 := by kernel_rfl
    i173 := by kernel_rfl
    i175 := by kernel_rfl
    i210 := by kernel_rfl
    i212 := by kernel_rfl
    i232 := by kernel_rfl
    i233 := by kernel_rfl
    m15 := by kernel_rfl
    m16 := by kernel_rfl
    m17 := by kernel_rfl
    m18 := by kernel_rfl
    m19 := by kernel_rfl
    c0 := by kernel_rfl
    c2 := by kernel_rfl
    c3 := by kernel_rfl
    c4 := by kernel_rfl
    c5 := by kernel_rfl
    c9 := by kernel_rfl
    c20 := by kernel_rfl
    c21 := by kernel_rfl
    c37 := by kernel_rfl
    c46 := by kernel_rfl
    c51 := by kernel_rfl
    c53 := by kernel_rfl
    c75 := by kernel_rfl
    c76 := by kernel_rfl
    c80 := by kernel_rfl
    c85 := by kernel_rfl
    c127 := by kernel_rfl
    c143 := by kernel_rfl
    c145 := by kernel_rfl
    c167 := by kernel_rfl
    c168 := by kernel_rfl
    c171 := by kernel_rfl
    c173 := by kernel_rfl
    c175 := by kernel_rfl
    c210 := by kernel_rfl
    c212 := by kernel_rfl
    c213 := by kernel_rfl
    c232 := by kernel_rfl
    c233 := by kernel_rfl }
def trimSRen : Ren := ⟨fun x => if x = 102 then 10 else if x = 207 then 46 else if x = 209 then 24 else 0,
  fun x => if x = 3 then 3 else if x = 4 then 4 else if x = 9 then 9 else 0, fun x => x⟩
theorem trimSLays : Lays.n102 Tryz.prog trimSRen :=
  { mixed := by kernel_rfl
    f102 := Tryz.func10.trans (congrArg some (by kernel_rfl))
    f207 := Tryz.func46.trans (congrArg some (by kernel_rfl))
    f209 := Tryz.func24.trans (congrArg some (by kernel_rfl))
    t3 := Tryz.underlying3
    a3 := Tryz.isAgg3
    z3 := Tryz.sizeOf3
    v3 := Tryz.zeroValue3
    t4 := Tryz.underlying4
    a4 := Tryz.isAgg4
    z4 := Tryz.sizeOf4
    v4 := Tryz.zeroValue4
    t9 := Tryz.underlying9
    a9 := Tryz.isAgg9
    z9 := Tryz.sizeOf9
    v9 := Tryz.zeroValue9 }
theorem trimS_ok (s p : ByteArray) (w : World) (hs : s.size ≤ 9223372036854775807) :
    Calls Tryz.prog 10 #[.string s, .string p] w fun e w' => e = .returned (.string ⟨(Lib.trimSuffix s.data.toList p.data.toList).toArray⟩) ∧ w' = w := Any.strings_TrimSuffix trimSLays s p w hs
theorem ixB_ok (s : ByteArray) (c : Int) (w : World) :
    Calls Tryz.prog 15 #[.string s, .int .u8 c] w fun e w' => e = .returned (.int .i64 (Lib.indexByte s.data.toList c.toNat.toUInt8)) ∧ w' = w := Any.strings_IndexByte ixBLays s c w
theorem lixB_ok (s : ByteArray) (c : Int) (hs : s.size < 4611686018427387904) (w : World) :
    Calls Tryz.prog 83 #[.string s, .int .u8 c] w fun e w' => e = .returned (.int .i64 (Lib.lastIndexByte s c)) ∧ w' = w := Any.strings_LastIndexByte lixBLays s c hs w
theorem cutS_ok (s p : ByteArray) (w : World) (hs : s.size ≤ 9223372036854775807) :
    Calls Tryz.prog 65 #[.string s, .string p] w fun e w' => e = .returned (.tuple #[.string ⟨(Lib.trimSuffix s.data.toList p.data.toList).toArray⟩, .bool (Lib.hasSuffix s.data.toList p.data.toList)]) ∧ w' = w := Any.strings_CutSuffix cutSLays s p w hs
/-- what the library's variables hold, below B -/
structure OpB (B : Nat) (w : World) : Prop where
  tab : TabB B w
  syn : ∃ tp p, w.var? Tryz.prog "strconv.ErrSyntax" = some #[.iface tp p]
  rng : ∃ tp p, w.var? Tryz.prog "strconv.ErrRange" = some #[.iface tp p]
  max : ∃ m, w.cell? ⟨0, 0, none⟩ = some (.int .i64 m)
  hs : 2 < B
  hr : 3 < B
  hm : 0 < B
theorem OpB.go {B : Nat} {w W : World} (h : OpB B w) (hb : Below B w W) : OpB B W :=
  ⟨h.tab.go hb, let ⟨tp, p, q⟩ := h.syn; ⟨tp, p, var?_below hb (by kernel_rfl) h.hs q⟩, let ⟨tp, p, q⟩ := h.rng; ⟨tp, p, var?_below hb (by kernel_rfl) h.hr q⟩,
    let ⟨m, q⟩ := h.max; ⟨m, (hb.cell (p := ⟨0, 0, none⟩) h.hm).trans q⟩, h.hs, h.hr, h.hm⟩
theorem OpB.mono {B C : Nat} {w : World} (h : OpB B w) (hBC : B ≤ C) : OpB C w :=
  ⟨⟨h.tab.1, Nat.lt_of_lt_of_le h.tab.2 hBC⟩, h.syn, h.rng, h.max, Nat.lt_of_lt_of_le h.hs hBC, Nat.lt_of_lt_of_le h.hr hBC, Nat.lt_of_lt_of_le h.hm hBC⟩
theorem splt_ok {B : Nat} (s sep : ByteArray) (w : World) (h : OpB B w) (hs : s.size < 4294967281) (h1 : 1 ≤ sep.size) :
    Calls Tryz.prog 22 #[.string s, .string sep] w fun e w' =>
      e = .returned (.slice (some ⟨w.heap.size, 0, none⟩) (Lib.countB s sep + 1) (Lib.countB s sep + 1)) ∧ w' = w.alloc (.cells ((Lib.splitB sep 0 (Lib.countB s sep) s).map Value.string).toArray 9) :=
  let ⟨m, hm⟩ := h.max
  Any.strings_Split spltLays (by kernel_rfl) s sep m w hs hm h1
/-- what Atoi tells: the number (if there is one), and whether there is one -/
def atoiM (s : ByteArray) : Int × Bool := match Lib.atoiAll s.data.toList with
  | .ok v => (v, true)
  | .range => (Lib.atoiSat s.data.toList, false)
  | _ => (0, false)
theorem atoi_ok {B : Nat} (s : ByteArray) (w : World) (h : OpB B w) (hs : s.size ≤ 281474976710656) :
    Calls Tryz.prog 45 #[.string s] w fun e w' => Below w.heap.size w w' ∧
      (((atoiM s).2 = true ∧ e = .returned (.tuple #[.int .i64 (atoiM s).1, .nilIface])) ∨ ((atoiM s).2 = false ∧ ∃ tp N, e = .returned (.tuple #[.int .i64 (atoiM s).1, .iface tp (.pointer (some ⟨N, 0, none⟩))]))) := by
  unfold atoiM
  cases hq : Lib.atoiAll s.data.toList with
  | ok v =>
    refine (Any.strconv_Atoi_ok atoiLays s (by omega) v hq w).mono ?_
    rintro e w' ⟨rfl, hw⟩
    refine ⟨?_, .inl ⟨rfl, rfl⟩⟩
    rcases hw with rfl | ⟨t, rfl⟩
    · exact Below.refl _ _
    · exact Lib.bytesWorld_below _ _ _
  | range =>
    obtain ⟨tp, p, hv⟩ := h.rng
    refine (Any.strconv_Atoi_range_var atoiLays s hs hq tp p w hv).mono ?_
    rintro e w' ⟨N, rfl, _, _, hb⟩
    exact ⟨hb, .inr ⟨rfl, _, N, rfl⟩⟩
  | _ =>
    obtain ⟨tp, p, hv⟩ := h.syn
    refine (Any.strconv_Atoi_syntax_var atoiLays s hs hq tp p w hv).mono ?_
    rintro e w' ⟨N, rfl, _, _, hb⟩
    exact ⟨hb, .inr ⟨rfl, _, N, rfl⟩⟩
/-- a number as it is written down -/
def numM (s : ByteArray) : Int × Bool := ((atoiM s).1, (atoiM s).2 && (decide (0 ≤ (atoiM s).1) && (dec (atoiM s).1).toList == s.toList))
theorem num_ok {B : Nat} (s : ByteArray) (w : World) (h : OpB B w) (hB : B ≤ w.heap.size) (hs : s.size ≤ 281474976710656) :
    Calls Tryz.prog 84 #[.string s] w fun e w' => e = .returned (.tuple #[.int .i64 (numM s).1, .bool (numM s).2]) ∧ Below w.heap.size w w' := by
  have HC := Lib.hid (atoi_ok s w h hs)
  have HH := Lib.hid h; clear h
  unfold numM
  go_enter Tryz.func84, Tryz.ntmps84
  go_wp2_with fail
  refine HC.out.mono ?_; rintro e W ⟨hb, (⟨h2, rfl⟩ | ⟨h2, tp, N, rfl⟩)⟩
  · generalize hv : (atoiM s).1 = v at *
    by_cases h0 : 0 ≤ v
    · have hd := decide_eq_true h0
      have hmx : v ≤ 9223372036854775807 := by
        rw [← hv]
        unfold atoiM
        cases hq : Lib.atoiAll s.data.toList with
        | ok u => have := Lib.atoiAll_bounds hq; dsimp only; omega
        | range => have := Lib.atoiSat_bounds s.data.toList; dsimp only; omega
        | _ => dsimp only; omega
      have HI := Lib.hid (mItoa_ok (n := v) W (HH.out.go (hb.mono hB)).tab.1 (by unfold mItoa; rw [if_pos ⟨h0, hmx⟩]))
      go_wp2_with fail
      refine HI.out.mono ?_; rintro e W2 ⟨rfl, hb2⟩
      go_wp2_with fail
      go_ret2
      refine ⟨?_, hb.trans (hb2.mono hb.size)⟩
      rw [h2, hv, hd]; rfl
    · have hd := decide_eq_false h0
      go_wp2_with fail
      go_ret2
      refine ⟨?_, hb⟩
      rw [h2, hv, hd]; rfl
  · go_wp2_with fail
    go_ret2
    exact ⟨by rw [h2]; rfl, hb⟩
end Go.Proofs.YtekfgkeimlidhaaGreatDoor
/- a line of a log read: (*Book).line -/
set_option linter.all false
set_option maxRecDepth 100000
namespace Go.Proofs.YtekfgkeimlidhaaGreatDoor
open Go.RowKit Go.Shelf
def lnNums : List ByteArray → List Int → Option (List Int)
  | [], l => some l
  | x :: xs, l => if (numM x).2 = true then lnNums xs (l ++ [(numM x).1]) else none
def lnRes (b : BkT) (w0 : ByteArray) : Option (List Int) → Option (Int × BkT)
  | none => some (2, b)
  | some l => if l.length = 2 then (if (w0.toList == ([106] : List UInt8)) = true then mJoin b (l.getD 0 0) (l.getD 1 0) else if (w0.toList == ([99] : List UInt8)) = true then mCut b (l.getD 0 0) (l.getD 1 0) else some (2, b)) else some (2, b)
/-- the words between spaces -/
def wdsB (s : ByteArray) : List ByteArray := Lib.splitB ⟨#[32]⟩ 0 (Lib.countB s ⟨#[32]⟩) s
def bodyB (l : ByteArray) : ByteArray := l.extract 0 (Lib.lastIndexByte l 32).toNat
def tailB (l : ByteArray) : ByteArray := l.extract ((Lib.lastIndexByte l 32).toNat + 1) l.size
def mLine (b : BkT) (l : ByteArray) : Option (Int × BkT) :=
  if okB b ∧ l.size < 1000000 then
    (if Lib.lastIndexByte l 32 < 0 then some (2, b)
     else if (numM (tailB l)).2 = true then
      (if (numM (tailB l)).1 = ((bsm (bodyB l).data.toList 0 % 9973 : Nat) : Int) then lnRes b ((wdsB (bodyB l)).getD 0 ByteArray.empty) (lnNums (wdsB (bodyB l)).tail []) else some (6, b))
     else some (2, b))
  else none
theorem HP.strCell {W : World} {B h n cap i : Nat} {its : List It} {l : List ByteArray} {x : ByteArray} (hp : HP W B its) (ho : It.fl (owS (.slice (some ⟨h, 0, none⟩) n cap) l) ∈ its) (hx : l[i]? = some x) : W.cell? ⟨h, i, none⟩ = some (.string x) := by
  have hr := HP.rd_S hp ho
  have hlt := (List.getElem?_eq_some_iff.1 hx).1
  obtain ⟨g, o, e, hb, hc⟩ := hr.2 (by omega)
  cases e
  have := hc i (.string x) (by simp [strV, hx])
  rw [Nat.zero_add] at this
  exact this
theorem splitB_sz {sep : ByteArray} : ∀ (k : Nat) (s : ByteArray) (x : ByteArray), x ∈ Lib.splitB sep 0 k s → x.size ≤ s.size
  | 0, s, x, h => by unfold Lib.splitB at h; rw [List.mem_singleton.1 h]; exact Nat.le_refl _
  | k + 1, s, x, h => by
    unfold Lib.splitB at h
    split at h
    · rw [List.mem_singleton.1 h]; exact Nat.le_refl _
    · rcases List.mem_cons.1 h with rfl | h
      · rw [ByteArray.size_extract]; omega
      · have := splitB_sz k _ x h
        rw [ByteArray.size_extract] at this; omega
set_option maxRecDepth 100000 in
set_option maxHeartbeats 4000000 in
theorem mLine_okN {B g : Nat} {its1 its2 : List It} {b : BkT} {l : ByteArray} {r : Int × BkT} (w : World) (hop : OpB B w) (h : HP w B (its1 ++ bkI g b :: its2)) (hB : B ≤ w.heap.size) (hm : mLine b l = some r) :
    Calls Tryz.prog 66 #[.pointer (some ⟨g, 0, none⟩), .string l] w fun e w' =>
      e = .returned (errV 91 r.1) ∧ HP w' B (its1 ++ bkI g r.2 :: its2) ∧ Below B w w' ∧ NC w w' := by
  unfold mLine at hm
  split at hm
  case isFalse => cases hm
  rename_i hok
  obtain ⟨hok, hls⟩ := hok
  have HOP := Lib.hid hop; clear hop
  have HOA := Lib.hid h; clear h
  have HD := Lib.hid (Below.refl B w)
  have HN := Lib.hid (NC.refl w)
  have HB := Lib.hid hB; clear hB
  have HOK := Lib.hid hok; clear hok
  have HM := Lib.hid hm; clear hm
  have HC1 := Lib.hid (lixB_ok l 32 (by omega) w)
  go_enter Tryz.func66, Tryz.ntmps66
  go_wp2_with fail
  refine HC1.out.mono ?_; rintro e w' ⟨rfl, rfl⟩; clear HC1
  generalize hat : Lib.lastIndexByte l 32 = at_ at *
  by_cases hneg : at_ < 0
  · replace HM := Lib.hid (ifT hneg HM.out)
    obtain rfl := Option.some.inj HM.out
    go_wp2_with fail
    go_ret
    exact ⟨rfl, HOA.out, HD.out, HN.out⟩
  · replace HM := Lib.hid (ifF hneg HM.out)
    obtain ⟨k, rfl, hk⟩ : ∃ k : Nat, at_ = (k : Int) ∧ k < l.size := by
      rcases Lib.lastIndexByte_spec l 32 with ⟨h, _⟩ | ⟨i, h1, h2, _⟩
      · rw [hat] at h; omega
      · exact ⟨i, by rw [← hat]; first | exact h1 | exact h2, by first | exact h1 | exact h2⟩
    have hbody : bodyB l = l.extract 0 k := by unfold bodyB; rw [hat]; rfl
    have htail : tailB l = l.extract (k + 1) l.size := by unfold tailB; rw [hat]; rfl
    have hkw : wrap64 ((k : Int) + 1) = ((k + 1 : Nat) : Int) := by unfold wrap64; omega
    rw [hbody, htail] at HM
    have HKW := Lib.hid hkw
    have hsl : 0 ≤ wrap64 ((k : Int) + 1) ∧ wrap64 ((k : Int) + 1) ≤ (l.size : Int) := by rw [hkw]; omega
    have hxt : l.extract (wrap64 ((k : Int) + 1)).toNat l.size = l.extract (k + 1) l.size := by rw [hkw, Int.toNat_natCast]
    have hnegd := decide_eq_false hneg
    clear hbody htail hat hkw
    go_wp2_with fail
    refine (num_ok (l.extract (k + 1) l.size) _ HOP.out HB.out (by rw [ByteArray.size_extract]; omega)).mono ?_; rintro e W1 ⟨rfl, hd⟩
    replace HOA := Lib.hid (HOA.out.below hd)
    replace HOP := Lib.hid (HOP.out.go (hd.mono HB.out))
    replace HN := Lib.hid (HN.out.trans (NC.of_below hd))
    replace HD := Lib.hid (HD.out.trans (hd.mono HB.out))
    replace HB := Lib.hid (Nat.le_trans HB.out hd.size); clear hd hsl hxt HKW
    generalize hq : numM (l.extract (k + 1) l.size) = q at *
    obtain ⟨n1, f1⟩ := q
    dsimp only at HM
    have HQ := Lib.hid hq; clear hq
    cases f1
    · replace HM := Lib.hid (ifF (by decide) HM.out)
      obtain rfl := Option.some.inj HM.out
      go_wp2_with fail
      go_ret
      exact ⟨rfl, HOA.out, HD.out, HN.out⟩
    replace HM := Lib.hid (ifT rfl HM.out)
    have HC2 := Lib.hid (fun W => mSum_ok (s := l.extract 0 k) W (by unfold mSum; rw [if_pos (by rw [ByteArray.size_extract]; omega)]))
    have hsl : (k : Int) ≤ (l.size : Int) := by omega
    go_wp2_with fail
    refine (HC2.out _).mono ?_; rintro e W2 ⟨rfl, hd⟩
    replace HOA := Lib.hid (HOA.out.below hd)
    replace HOP := Lib.hid (HOP.out.go (hd.mono HB.out))
    replace HN := Lib.hid (HN.out.trans (NC.of_below hd))
    replace HD := Lib.hid (HD.out.trans (hd.mono HB.out))
    replace HB := Lib.hid (Nat.le_trans HB.out hd.size); clear hd HC2
    generalize hsm : ((bsm (l.extract 0 k).data.toList 0 % 9973 : Nat) : Int) = sm at *
    by_cases hns : n1 = sm
    case neg =>
      replace HM := Lib.hid (ifF hns HM.out)
      obtain rfl := Option.some.inj HM.out
      have hnb : (n1 != sm) = true := by rw [bne_iff_ne]; exact hns
      go_wp2_with fail
      go_ret
      exact ⟨rfl, HOA.out, HD.out, HN.out⟩
    replace HM := Lib.hid (ifT hns HM.out)
    have hnb : (n1 != sm) = false := by rw [bne_eq_false_iff_eq]; exact hns
    go_wp2_with fail
    refine (splt_ok (l.extract 0 k) ⟨#[32]⟩ W2 HOP.out (by rw [ByteArray.size_extract]; omega) (by decide)).mono ?_; rintro e W3 ⟨rfl, hW3⟩
    have hlen : (wdsB (l.extract 0 k)).length = Lib.countB (l.extract 0 k) ⟨#[32]⟩ + 1 := Lib.splitB_all _ (by decide) 0 _ _ rfl
    have hcnt := Lib.countB_le ⟨#[32]⟩ (by decide) _ (l.extract 0 k) (Nat.le_refl _)
    rw [ByteArray.size_extract] at hcnt
    change W3 = W2.alloc (.cells ((wdsB (l.extract 0 k)).map Value.string).toArray 9) at hW3
    generalize hws : wdsB (l.extract 0 k) = ws at *
    have ho : (owS (.slice (some ⟨W2.heap.size, 0, none⟩) ws.length ws.length) ws).ok W3 W2.heap.size := by
      rw [hW3]
      have := own_lit (w := W2) (base := W2.heap.size) (n := ws.length) (e := 9) (ws.map Value.string).toArray 1 (by simp) (Nat.le_refl _) (by unfold maxLen; omega)
      simp only [List.toList_toArray] at this
      exact this
    have hd : Below W2.heap.size W2 W3 := by rw [hW3]; exact (Below.refl _ _).alloc (Nat.le_refl _) _
    replace HOA := Lib.hid (HOA.out.call hd HB.out ho); clear ho
    replace HOP := Lib.hid (HOP.out.go (hd.mono HB.out))
    replace HN := Lib.hid (HN.out.trans (NC.of_below hd))
    replace HD := Lib.hid (HD.out.trans (hd.mono HB.out))
    replace HB := Lib.hid (Nat.le_trans HB.out hd.size); clear hd hW3
    generalize hh : W2.heap.size = h at *
    rw [← hlen]
    obtain ⟨w0, tl, rfl⟩ : ∃ w0 tl, ws = w0 :: tl := by
      cases ws with
      | nil => simp at hlen
      | cons a t => exact ⟨a, t, rfl⟩
    rw [List.length_cons] at hlen ⊢
    have htl : tl.length < 1000000 := by omega
    have hxs : ∀ x ∈ tl, x.size ≤ l.size := fun x hx => by
      have q : x ∈ wdsB (l.extract 0 k) := by rw [hws]; exact List.mem_cons_of_mem _ hx
      have := splitB_sz _ _ _ q
      rw [ByteArray.size_extract] at this
      omega
    clear hlen hcnt hws
    have hc0 := HP.strCell (i := 0) HOA.out (List.Mem.head _) rfl
    change Hid (lnRes b w0 (lnNums tl []) = some r) at HM
    replace HOA := Lib.hid (show HP W3 B (.fl (owI (.slice none 0 0) ([])) :: .fl (owS (.slice (some ⟨h, 0, none⟩) (tl.length + 1) (tl.length + 1)) (w0 :: tl)) :: (its1 ++ bkI g b :: its2)) from HOA.out.pushNil _ _)
    have hone : (1 : Int) ≤ ((tl.length + 1 : Nat) : Int) := by omega
    by_cases hne : tl = []
    · subst hne
      obtain rfl : (2, b) = r := by have := HM.out; simp only [lnNums, lnRes, List.length_nil] at this; rw [if_neg (by decide)] at this; exact Option.some.inj this
      go_wp2_with fail
      go_loopg [9, 44] 1 (fun gg u9 u44 wr => u9 = .slice none 0 0 ∧ u44 = .int .i64 0 ∧ wr = W3)
      case atStart => exact ⟨rfl, rfl, rfl⟩
      case round =>
        obtain ⟨rfl, rfl, rfl⟩ := hrel
        go_wp2_with fail
        go_ret
        exact ⟨rfl, HOA.out.sub (.cons _ (.cons _ (List.Sublist.refl _))), HD.out, HN.out⟩
    go_wp2_with fail
    go_loopg [9, 44] (tl.length + 1) (fun gg u9 u44 wr => ∃ (j : Nat) (nums : List Int) (V : Value), V = u9 ∧ u44 = .int .i64 (j : Int) ∧ Hid (j + gg = tl.length + 1 ∧ nums.length = j ∧ j ≤ tl.length) ∧ Hid (Below B w' wr) ∧ Hid (NC w' wr) ∧ Hid (HP wr B (.fl (owI V nums) :: .fl (owS (.slice (some ⟨h, 0, none⟩) (tl.length + 1) (tl.length + 1)) (w0 :: tl)) :: (its1 ++ bkI g b :: its2))) ∧
      Hid (OpB B wr) ∧ Hid (B ≤ wr.heap.size) ∧ Hid (lnRes b w0 (lnNums (tl.drop j) nums) = some r))
    case atStart => exact ⟨0, [], .slice none 0 0, rfl, rfl, ⟨by omega, rfl, Nat.zero_le _⟩, HD, HN, HOA, HOP, HB, HM⟩
    case round =>
      obtain ⟨j, nums, V, rfl, rfl, hj, HD, HN, HOA, HOP, HB, HM⟩ := hrel
      rename World => W4
      obtain ⟨hjg, hnl, hjle⟩ := hj.out; clear hj
      by_cases hjl : (j : Int) < (tl.length : Int)
      · have hjn : j < tl.length := by omega
        have hd := List.drop_eq_getElem_cons hjn
        have hcj : W4.cell? ⟨h, 1 + j, none⟩ = some (.string tl[j]) := HP.strCell HOA.out (List.Mem.tail _ (List.Mem.head _)) (by rw [Nat.add_comm, List.getElem?_cons_succ, List.getElem?_eq_getElem hjn])
        have hxm := List.getElem_mem hjn
        generalize hx : tl[j] = x at *
        have HDR := Lib.hid hd; clear hd hx
        go_wp2_with fail
        refine (num_ok x _ HOP.out HB.out (by have := hxs _ hxm; omega)).mono ?_; rintro e W5 ⟨rfl, hd⟩
        replace HOA := Lib.hid (HOA.out.below hd)
        replace HOP := Lib.hid (HOP.out.go (hd.mono HB.out))
        replace HN := Lib.hid (HN.out.trans (NC.of_below hd))
        replace HD := Lib.hid (HD.out.trans (hd.mono HB.out))
        replace HB := Lib.hid (Nat.le_trans HB.out hd.size); clear hd hcj
        have HMM := HM.out
        rw [HDR.out] at HMM
        unfold lnNums at HMM
        generalize hq : numM x = q at *
        obtain ⟨n2, f2⟩ := q
        dsimp only at HMM
        cases f2
        · rw [if_neg (by decide)] at HMM
          obtain rfl : (2, b) = r := Option.some.inj HMM
          go_wp2_with fail
          go_ret
          exact ⟨rfl, HOA.out.sub (.cons _ (.cons _ (List.Sublist.refl _))), HD.out, HN.out⟩
        · rw [if_pos rfl] at HMM
          replace HM := Lib.hid HMM; clear HMM
          have HLN := Lib.hid (show nums.length < 1000000000 by omega)
          obtain ⟨V2, W6, hrun, hoa, hd, hn⟩ := run_appI (e' := 3) (y := n2) (L1 := []) W5 62 62 Tryz.underlying62 HOA.out HLN.out HB.out
          go_wp2_with (at_builtin; refine wp_appRun hrun rfl rfl rfl rfl ?_)
          replace HN := Lib.hid (HN.out.trans hn)
          replace HD := Lib.hid (HD.out.trans hd)
          replace HOP := Lib.hid (HOP.out.go hd)
          replace HB := Lib.hid (Nat.le_trans HB.out hd.size); clear hd
          cases gk with
          | zero => omega
          | succ g1 =>
            go_roundg g1
            case measure => omega
            case rel => exact ⟨j + 1, nums ++ [n2], V2, rfl, rfl, ⟨by omega, by rw [List.length_append, List.length_singleton]; omega, by omega⟩, HD, HN, hoa, HOP, HB, HM⟩
      · have hje : j = tl.length := by omega
        subst hje
        have HMM := HM.out
        rw [List.drop_length] at HMM
        unfold lnNums lnRes at HMM
        dsimp only at HMM
        obtain ⟨A, cap, hV, hrd⟩ := HP.open_I HOA.out (List.Mem.head _)
        subst hV
        have hc0 : W4.cell? ⟨h, 0, none⟩ = some (.string w0) := HP.strCell HOA.out (List.Mem.tail _ (List.Mem.head _)) rfl
        have hjd := decide_eq_false hjl
        by_cases h2 : nums.length = 2
        case neg =>
          rw [if_neg h2] at HMM
          obtain rfl : (2, b) = r := Option.some.inj HMM
          have hnb2 : (((nums.length : Nat) : Int) != 2) = true := by rw [bne_iff_ne]; exact fun q => h2 (Int.ofNat.inj q)
          go_wp2_with fail
          go_ret
          exact ⟨rfl, HOA.out.sub (.cons _ (.cons _ (List.Sublist.refl _))), HD.out, HN.out⟩
        rw [if_pos h2] at HMM
        have hnb2 : (((nums.length : Nat) : Int) != 2) = false := by rw [h2]; rfl
        generalize hj1 : (w0.toList == ([106] : List UInt8)) = j1 at *
        generalize hj2 : (w0.toList == ([99] : List UInt8)) = j2 at *
        obtain ⟨m0, m1, rfl⟩ : ∃ m0 m1, nums = [m0, m1] := by
          match nums, h2 with
          | [m0, m1], _ => exact ⟨m0, m1, rfl⟩
        obtain ⟨g9, o9, eA, hb9, hc9⟩ := hrd.2 (show 0 < 2 by decide)
        subst eA
        have f0 : W4.cell? ⟨g9, o9, none⟩ = some (.int .i64 m0) := hc9 0 _ rfl
        have f1 : W4.cell? ⟨g9, o9 + 1, none⟩ = some (.int .i64 m1) := hc9 1 _ rfl
        clear hrd hc9 hnl hjg hjl HM hsm hne hone htl hxs hns hnb HQ hsl
        cases j1
        · rw [if_neg (by decide)] at HMM
          cases j2
          · rw [if_neg (by decide)] at HMM
            obtain rfl : (2, b) = r := Option.some.inj HMM
            go_wp2_with fail
            go_ret
            exact ⟨rfl, HOA.out.sub (.cons _ (.cons _ (List.Sublist.refl _))), HD.out, HN.out⟩
          rw [if_pos rfl] at HMM
          change mCut b m0 m1 = some r at HMM
          go_upto_region 23 with (fail)
          have f0r := cell_regrown (w := W4.drew) f0
          have f1r := cell_regrown (w := W4.drew) f1
          refine wp_region_ph [.H [0, 1, 2, 3, 4, 5, 6], .S [7, 8]] (by kernel_rfl) (by kernel_rfl) ?_
          refine wpPs_H ?_
          repeat (refine wpQI_step rfl rfl (fun K hK => ?_); go_simp; first | (refine hK _ ?_; clear hK K))
          refine wpQI_nil ?_
          intro _ hw_
          obtain ⟨⟨dq, osq⟩, hw_⟩ := hw_
          subst hw_
          have hd := below_regrown_drew W4 dq osq
          generalize Go.Sort.grow (redrawn W4.drew _) _ = W5 at *
          clear f0r f1r f0 f1 hc0
          replace HOA := Lib.hid (HOA.out.below hd)
          replace HOP := Lib.hid (HOP.out.go (hd.mono HB.out))
          replace HN := Lib.hid (HN.out.trans (NC.of_below hd))
          replace HD := Lib.hid (HD.out.trans (hd.mono HB.out))
          replace HB := Lib.hid (Nat.le_trans HB.out hd.size); clear hd
          obtain ⟨e1, b1⟩ := r
          have HC := Lib.hid (mCut_okN (its1 := .fl (owI _ _) :: .fl (owS _ _) :: its1) W5 HOP.out.tab HOA.out HB.out HMM)
          refine wpPs_S rfl (fun Q' hQ' hL' => ?_)
          go_wp2_with fail
          refine HC.out.mono ?_; rintro e2 W6 ⟨rfl, hp, hd, hn⟩
          have HQ := Lib.hid hp; replace HD := Lib.hid (HD.out.trans hd); replace HN := Lib.hid (HN.out.trans hn); clear hd hn hp HC
          go_wp2_with fail
          refine hQ' _ _ ?_; clear hQ' hL' Q'
          refine wpPs_nil ?_
          go_wp2_with fail
          go_ret
          exact ⟨rfl, HQ.out.sub (.cons _ (.cons _ (List.Sublist.refl _))), HD.out, HN.out⟩
        · rw [if_pos rfl] at HMM
          change mJoin b m0 m1 = some r at HMM
          go_upto_region 21 with (fail)
          have f0r := cell_regrown (w := W4.drew) f0
          have f1r := cell_regrown (w := W4.drew) f1
          refine wp_region_ph [.H [0, 1, 2, 3, 4, 5, 6], .S [7, 8]] (by kernel_rfl) (by kernel_rfl) ?_
          refine wpPs_H ?_
          repeat (refine wpQI_step rfl rfl (fun K hK => ?_); go_simp; first | (refine hK _ ?_; clear hK K))
          refine wpQI_nil ?_
          intro _ hw_
          obtain ⟨⟨dq, osq⟩, hw_⟩ := hw_
          subst hw_
          have hd := below_regrown_drew W4 dq osq
          generalize Go.Sort.grow (redrawn W4.drew _) _ = W5 at *
          clear f0r f1r f0 f1 hc0
          replace HOA := Lib.hid (HOA.out.below hd)
          replace HOP := Lib.hid (HOP.out.go (hd.mono HB.out))
          replace HN := Lib.hid (HN.out.trans (NC.of_below hd))
          replace HD := Lib.hid (HD.out.trans (hd.mono HB.out))
          replace HB := Lib.hid (Nat.le_trans HB.out hd.size); clear hd
          obtain ⟨e1, b1⟩ := r
          have HC := Lib.hid (mJoin_okN (its1 := .fl (owI _ _) :: .fl (owS _ _) :: its1) W5 HOP.out.tab HOA.out HB.out HMM)
          refine wpPs_S rfl (fun Q' hQ' hL' => ?_)
          go_wp2_with fail
          refine HC.out.mono ?_; rintro e2 W6 ⟨rfl, hp, hd, hn⟩
          have HQ := Lib.hid hp; replace HD := Lib.hid (HD.out.trans hd); replace HN := Lib.hid (HN.out.trans hn); clear hd hn hp HC
          go_wp2_with fail
          refine hQ' _ _ ?_; clear hQ' hL' Q'
          refine wpPs_nil ?_
          go_wp2_with fail
          go_ret
          exact ⟨rfl, HQ.out.sub (.cons _ (.cons _ (List.Sublist.refl _))), HD.out, HN.out⟩
theorem mLine_ok {B g : Nat} {its1 its2 : List It} {b : BkT} {l : ByteArray} {r : Int × BkT} (w : World) (hop : OpB B w) (h : HP w B (its1 ++ bkI g b :: its2)) (hB : B ≤ w.heap.size) (hm : mLine b l = some r) :
    Calls Tryz.prog 66 #[.pointer (some ⟨g, 0, none⟩), .string l] w fun e w' =>
      e = .returned (errV 91 r.1) ∧ HP w' B (its1 ++ bkI g r.2 :: its2) ∧ Below B w w' :=
  (mLine_okN w hop h hB hm).mono fun _ _ h_ => ⟨h_.1, h_.2.1, h_.2.2.1⟩
end Go.Proofs.YtekfgkeimlidhaaGreatDoor
/- 'for line := range strings.Lines(text)': the body is told what is left of the text -/
set_option linter.all false
set_option maxRecDepth 100000
namespace Go.Proofs.YtekfgkeimlidhaaGreatDoor
open Go.RowKit Go.Shelf Pl
attribute [local go_sem] Oper.semAt_some
/-! ### plain: a text's first line, and what is left -/
def cutLn : List UInt8 → List UInt8 × List UInt8
  | [] => ([], [])
  | b :: t => if b = 10 then ([10], t) else (b :: (cutLn t).1, (cutLn t).2)
theorem cutLn_app : ∀ t, (cutLn t).1 ++ (cutLn t).2 = t
  | [] => rfl
  | b :: t => by
    unfold cutLn
    split
    · rename_i h; rw [h]; rfl
    · show b :: ((cutLn t).1 ++ (cutLn t).2) = _; rw [cutLn_app t]
theorem cutLn_lt : ∀ t, t ≠ [] → (cutLn t).2.length < t.length
  | [], h => absurd rfl h
  | b :: t, _ => by
    unfold cutLn
    split
    · simp
    · have := congrArg List.length (cutLn_app t)
      rw [List.length_append] at this
      show (cutLn t).2.length < _
      rw [List.length_cons]; omega
theorem cutLn_some : ∀ (t : List UInt8) (o : Nat), Lib.indexByte t 10 = (o : Int) → cutLn t = (t.take (o + 1), t.drop (o + 1))
  | [], o, h => by simp [Lib.indexByte] at h
  | b :: t, o, h => by
    unfold Lib.indexByte at h
    by_cases hb : b = 10
    · subst hb
      rw [if_pos (by rfl)] at h
      have : o = 0 := by omega
      subst this
      unfold cutLn; rw [if_pos rfl]; rfl
    · rw [if_neg (by rw [beq_iff_eq]; exact hb)] at h
      split at h
      · omega
      · have hge := Lib.indexByte_ge t 10
        obtain ⟨o', rfl⟩ : ∃ o', o = o' + 1 := ⟨o - 1, by rename_i q; have : Lib.indexByte t 10 ≠ -1 := fun e => q (beq_iff_eq.2 e); omega⟩
        have ih := cutLn_some t o' (by omega)
        unfold cutLn; rw [if_neg hb, ih]; rfl
theorem cutLn_none : ∀ (t : List UInt8), Lib.indexByte t 10 = -1 → cutLn t = (t, [])
  | [], _ => rfl
  | b :: t, h => by
    unfold Lib.indexByte at h
    by_cases hb : b = 10
    · rw [if_pos (by rw [beq_iff_eq]; exact hb)] at h; omega
    · rw [if_neg (by rw [beq_iff_eq]; exact hb)] at h
      split at h
      · rename_i q
        unfold cutLn; rw [if_neg hb, cutLn_none t (beq_iff_eq.1 q)]
      · have hge := Lib.indexByte_ge t 10; omega
def lnB (u : ByteArray) : ByteArray × ByteArray := (⟨(cutLn u.data.toList).1.toArray⟩, ⟨(cutLn u.data.toList).2.toArray⟩)
theorem bytes_len (u : ByteArray) : u.data.toList.length = u.size := by rw [Array.length_toList]; rfl
theorem lnB_some {u : ByteArray} {o : Nat} (h : Lib.indexByte u.data.toList 10 = (o : Int)) : o + 1 ≤ u.size ∧ lnB u = (u.extract 0 (o + 1), u.extract (o + 1) u.size) := by
  have h1 := (Lib.indexByte_some h).1
  have hlt := (List.getElem?_eq_some_iff.1 h1).1
  rw [bytes_len] at hlt
  refine ⟨hlt, ?_⟩
  unfold lnB
  rw [cutLn_some _ _ h]
  refine Prod.ext ?_ ?_
  · apply ByteArray.ext
    apply Array.toList_inj.1
    simp [ByteArray.data_extract]
  · apply ByteArray.ext
    apply Array.toList_inj.1
    simp [ByteArray.data_extract]
    exact (List.take_of_length_le (by simp)).symm
theorem lnB_none {u : ByteArray} (h : Lib.indexByte u.data.toList 10 = -1) : lnB u = (u, ⟨#[]⟩) := by
  unfold lnB; rw [cutLn_none _ h]
theorem lnB_lt {u : ByteArray} (h : u.size ≠ 0) : (lnB u).2.size < u.size := by
  have hne : u.data.toList ≠ [] := fun e => by have := bytes_len u; rw [e] at this; exact h this.symm
  have := cutLn_lt _ hne
  rw [bytes_len] at this
  show (cutLn u.data.toList).2.toArray.size < _
  rw [List.size_toArray]; exact this
/-- how long the text in a box is -/
def boxLen (W : World) (b : Nat) : Nat := match W.cell? ⟨b, 0, none⟩ with
  | some (.string s) => s.size
  | _ => 0
structure LnI (Bs : Nat) (J : ByteArray → ByteArray → World → Prop) : Prop where
  cell : ∀ u t W, J u t W → W.cell? ⟨Bs, 0, none⟩ = some (.string u) ∧ W.frozen? ⟨Bs, 0, none⟩ = false ∧ u.size ≤ 1000000
  set : ∀ u t W u', J u t W → u'.size ≤ u.size → J u' t (W.setCell ⟨Bs, 0, none⟩ (.string u'))
  dr : ∀ u t W W', J u t W → Dr W W' → J u t W'
theorem lines_in (n : Nat) (hn : 1 ≤ n) (l Bs : Nat) (J : ByteArray → ByteArray → World → Prop) (hJ : LnI Bs J) (Jx : World → Prop)
    (hY : ∀ t W, t.size ≠ 0 → J (lnB t).2 t W → YieldAt Fence.wide (n - 1) Tryz.prog l #[.string (lnB t).1] W fun e W' =>
      (e = .returned (.bool true) ∧ J (lnB t).2 (lnB t).2 W') ∨ (e = .returned (.bool false) ∧ Jx W'))
    (W : World) (t0 : ByteArray) (h0 : J t0 t0 W) :
    CallsIn Fence.wide n Tryz.prog 14 #[.func (.yield l) #[] #[], .pointer (some ⟨Bs, 0, none⟩)] W fun e W' => (∃ v, e = .returned v) ∧ ((∃ t, t.size = 0 ∧ J t t W') ∨ Jx W') := by
  refine callsIn_of_wp Tryz.func14 rfl trivial ?_ rfl
  simp only [Tryz.ntmps14, List.size_toArray, List.length_cons, List.length_nil, Nat.reduceAdd, Nat.reduceSub, Array.replicate_succ, Array.replicate_zero, List.push_toArray, List.append_toArray, List.nil_append, List.cons_append]
  gi_wp2
  gi_loopw [3] (fun _ wr => ∃ t, J t t wr) (fun _ wr => boxLen wr Bs)
  case atStart => exact ⟨t0, h0⟩
  case round =>
    obtain ⟨t, hJt⟩ := hrel
    obtain ⟨hc, hf, ht6⟩ := hJ.cell _ _ _ hJt
    have HJT := Lib.hid hJt; clear hJt
    by_cases hz : t.size = 0
    · have hd := decide_eq_false (show ¬ (0 : Int) < (t.size : Int) by omega)
      gi_wp2
      go_end0
      exact ⟨⟨_, rfl⟩, .inl ⟨t, hz, HJT.out⟩⟩
    · have hd := decide_eq_true (show (0 : Int) < (t.size : Int) by omega)
      have HZ := Lib.hid hz
      have HX := Lib.hid (ixB_ok t 10 wr)
      have hge := Lib.indexByte_ge t.data.toList 10
      have hcase : (Lib.indexByte t.data.toList 10 = -1) ∨ ∃ o : Nat, Lib.indexByte t.data.toList 10 = (o : Int) := by
        by_cases q : Lib.indexByte t.data.toList 10 = -1
        · exact .inl q
        · exact .inr ⟨(Lib.indexByte t.data.toList 10).toNat, by omega⟩
      have hX : Calls Tryz.prog 15 #[.string t, .int .u8 10] wr fun e w' => e = .returned (.int .i64 (Lib.indexByte t.data.toList 10)) ∧ w' = wr := ixB_ok t 10 wr
      rcases hcase with hq | ⟨o, hq⟩
      · have hln := lnB_none hq
        rw [hq] at hX
        have HX := Lib.hid hX; clear hX hge hq
        have HY := fun W h => hY t W hz h
        rw [hln] at HY
        have HYH := Lib.hid HY; clear HY
        gi_upto_region 6 with (first | (refine ⟨trivial, ?_⟩; gi_at_call 15; refine (callsIn_wide.2 HX.out).mono ?_; rintro e w' ⟨rfl, rfl⟩))
        have hJ2 := hJ.set _ _ _ ⟨#[]⟩ HJT.out (Nat.zero_le _)
        obtain ⟨fn, tmps, assign, body, hy, hR⟩ := HYH.out _ hJ2
        gi_wp2
        refine hR.mono ?_
        rintro e W3 (⟨rfl, hJ3⟩ | ⟨rfl, hJx3⟩)
        · have hc3 := (hJ.cell _ _ _ hJ3).1
          gi_wp2
          go_roundw
          case rel => exact ⟨_, hJ3⟩
          case measure => unfold boxLen; rw [hc3, hc]; show (0 : Nat) < t.size; omega
        · gi_wp2
          refine bodyPost_ret (results_none rfl _ _ _) rfl ?_
          exact ⟨⟨_, rfl⟩, .inr hJx3⟩
      · obtain ⟨ho, hln⟩ := lnB_some hq
        have hkw : wrap64 ((o : Int) + 1) = ((o + 1 : Nat) : Int) := by unfold wrap64; omega
        have hsl : 0 ≤ IntKind.i64.wrap ((o : Int) + 1) ∧ IntKind.i64.wrap ((o : Int) + 1) ≤ (t.size : Int) := by rw [IntKind.wrap_i64]; omega
        have hx1 : t.extract 0 (IntKind.i64.wrap ((o : Int) + 1)).toNat = t.extract 0 (o + 1) := by rw [show IntKind.i64.wrap ((o : Int) + 1) = ((o + 1 : Nat) : Int) by rw [IntKind.wrap_i64]; omega]; rfl
        have hx2 : t.extract (IntKind.i64.wrap ((o : Int) + 1)).toNat t.size = t.extract (o + 1) t.size := by rw [show IntKind.i64.wrap ((o : Int) + 1) = ((o + 1 : Nat) : Int) by rw [IntKind.wrap_i64]; omega]; rfl
        rw [hq] at hX
        have HX := Lib.hid hX; clear hX hge hq hkw
        have HY := fun W h => hY t W hz h
        rw [hln] at HY
        have HYH := Lib.hid HY; clear HY
        gi_wp2_with (first | (refine ⟨trivial, ?_⟩; gi_at_call 15; refine (callsIn_wide.2 HX.out).mono ?_; rintro e w' ⟨rfl, rfl⟩))
        refine wpIn_region_still_tail open_wide 9 (by kernel_rfl) (by kernel_rfl) (by kernel_rfl) ?_; simp only [List.take_succ_cons, List.take_zero, List.drop_succ_cons, List.drop_zero]; repeat still_step; try refine wpStill_nil ?_
        change wpListIn _ _ _ _ _ _ _ (World.drew w')
        have hcd : (World.drew w').cell? ⟨Bs, 0, none⟩ = some (.string t) := hc
        have hfd : (World.drew w').frozen? ⟨Bs, 0, none⟩ = false := hf
        gi_upto_region 6 with (fail)
        have hJ2 := hJ.dr _ _ _ _ (hJ.set _ _ _ (t.extract (o + 1) t.size) HJT.out (by rw [ByteArray.size_extract]; omega)) (Dr.one _)
        obtain ⟨fn, tmps, assign, body, hy, hR⟩ := HYH.out _ hJ2
        gi_wp2
        refine hR.mono ?_
        rintro e W3 (⟨rfl, hJ3⟩ | ⟨rfl, hJx3⟩)
        · have hc3 := (hJ.cell _ _ _ hJ3).1
          gi_wp2
          go_roundw
          case rel => exact ⟨_, hJ3⟩
          case measure => unfold boxLen; rw [hc3, hc]; show (t.extract (o + 1) t.size).size < t.size; rw [ByteArray.size_extract]; omega
        · gi_wp2
          refine bodyPost_ret (results_none rfl _ _ _) rfl ?_
          exact ⟨⟨_, rfl⟩, .inr hJx3⟩
/-- how a round may be left -/
def RPostL (J : ByteArray → ByteArray → World → Prop) (Ix : Code → World → Prop) (t : ByteArray) (W : World) : Exit → Act → World → Prop
  | .normal, _, W' => NC W W' ∧ J t t W'
  | .ret, _, W' => NC W W' ∧ Ix .ret W'
  | .exit id, _, W' => NC W W' ∧ Ix (.exit id) W'
  | .goto t, _, W' => NC W W' ∧ Ix (.goto t) W'
  | .panic _, _, _ => False
  | .outgrown, _, _ => False
/-- 'for line := range strings.Lines(text)' -/
theorem wp_lines {n Bs : Nat} {g : Operand} {ps : Array Tmp} {assign body : Code} {Q : Exit → Act → World → Prop} {a : Act} {w : World}
    (hn : 2 ≤ n) (t0 : ByteArray) (hg : a.eval g = .func (.func 14) #[] #[.pointer (some ⟨Bs, 0, none⟩)]) (hps : 1 = ps.size)
    (J : ByteArray → ByteArray → World → Prop) (Ix : Code → World → Prop) (hJ : LnI Bs J) (hI : ∀ u t W W', J u t W → KeepC w.heap.size W W' → J u t W') (hIx : ∀ c W W', Ix c W → KeepC w.heap.size W W' → Ix c W') (h0 : J t0 t0 w) (a₁ : ByteArray → Act)
    (hassign : ∀ (l : Nat) (x : ByteArray) (W : World) (K : Act → World → Prop), K (a₁ x) W →
      assign.wpIn (Fence.wide.inRound l) (n - 1 - 1) Tryz.prog (Exit.then K (fun _ _ _ => False)) { tmps := (ps.zip #[.string x]).foldl (fun t (p, v) => t.setIfInBounds p v) a.tmps, defers := [] } W)
    (hbody : ∀ (l : Nat) (t : ByteArray) (W : World), t.size ≠ 0 → J (lnB t).2 t W → ∀ (J' : ByteArray → ByteArray → World → Prop) (Jx : Code → World → Prop), (∀ u t W', J u t W' → J' u t W') → (∀ c W', Ix c W' → Jx c W') → ∀ Q1 : Exit → Act → World → Prop, (∀ e a' W', RPostL J' Jx (lnB t).2 W e a' W' → Q1 e a' W') → body.wpIn (Fence.wide.inRound l) (n - 1 - 1) Tryz.prog Q1 (a₁ (lnB t).1) W)
    (hdone : ∀ (D : Nat) (t : ByteArray) (W : World), w.heap.size ≤ D → t.size = 0 → J t t W → W.heap[D]? = some (.deferred (some [])) → Q .normal { a with defers := { target := .collected D, args := #[] } :: a.defers } W)
    (hstop : ∀ (D : Nat) (c : Code) (W : World), w.heap.size ≤ D → Ix c W → W.heap[D]? = some (.deferred (some [])) → c.wpIn Fence.wide n Tryz.prog Q { a with defers := { target := .collected D, args := #[] } :: a.defers } W) :
    (Code.rangeFunc g ps assign body).wpIn Fence.wide n Tryz.prog Q a w := by
  refine wpIn_rangeFunc fun fn _ => ?_
  let r : LoopState → Option Code → Loop := fun st pe => { state := st, pending := pe, fn, tmps := a.tmps, params := ps, assign, body, defers := w.heap.size }
  have hrun := run_enterLoop_outer (P := Tryz.prog) (w := w) fn a.tmps ps assign body
  change _ = Result.ok _ ((w.alloc (.deferred (some []))).alloc (.loop (r .ready none))) at hrun
  have kc1 : KeepC w.heap.size w ((w.alloc (.deferred (some []))).alloc (.loop (r .ready none))) := (KeepC.alloc _ _ _).trans (KeepC.alloc _ _ _)
  have hL : ((w.alloc (.deferred (some []))).alloc (.loop (r .ready none))).heap[w.heap.size + 1]? = some (.loop (r .ready none)) := by
    have := World.alloc_heap_new (w.alloc (.deferred (some []))) (.loop (r .ready none)); rwa [World.size_alloc] at this
  have hK : ((w.alloc (.deferred (some []))).alloc (.loop (r .ready none))).heap[w.heap.size]? = some (.deferred (some [])) :=
    (Below.heap_alloc _ _ _ (by simp)).trans (World.alloc_heap_new w _)
  generalize ((w.alloc (.deferred (some []))).alloc (.loop (r .ready none))) = W1 at hrun kc1 hL hK
  refine ⟨w.heap.size + 1, _, W1, { target := .fn (.func 14) #[.pointer (some ⟨Bs, 0, none⟩)], args := #[.func (.yield (w.heap.size + 1)) #[] #[]] }, W1, 14, #[.func (.yield (w.heap.size + 1)) #[] #[]] ++ #[.pointer (some ⟨Bs, 0, none⟩)], W1, hrun, ?_, ?_, ?_, fun _ => by omega, ?_⟩
  · simp only [resolve, hg]; simp [go_sem]
  · intro f' _; trivial
  · simp [invoke, go_sem, enters_of Tryz.func14 (by kernel_rfl) rfl]
  · -- turns of the record keep the cells
    have turn : ∀ {W : World} {o : Obj} (o' : Obj), W.heap[w.heap.size + 1]? = some o → o.isCells = false → KeepC w.heap.size W (W.putObj (w.heap.size + 1) o') := fun o' h h' => keepC_put (by omega) h h'
    have kept : ∀ {W : World} (o' : Obj), W.heap[w.heap.size]? = some (.deferred (some [])) → (W.putObj (w.heap.size + 1) o').heap[w.heap.size]? = some (.deferred (some [])) := fun o' h => (World.putObj_heap_other (by omega)).trans h
    have now : ∀ {W : World} {o : Obj} (o' : Obj), W.heap[w.heap.size + 1]? = some o → (W.putObj (w.heap.size + 1) o').heap[w.heap.size + 1]? = some o' := fun o' h => World.putObj_heap_same (Array.getElem?_eq_some_iff.1 h).1
    have hBlt : Bs < w.heap.size := World.block_lt_of_cell? _ _ (hJ.cell _ _ _ h0).1
    have hJ' : LnI Bs (fun u t W => J u t W ∧ W.heap[w.heap.size + 1]? = some (.loop (r .ready none)) ∧ W.heap[w.heap.size]? = some (.deferred (some []))) :=
      ⟨fun u t W h => hJ.cell u t W h.1, fun u t W u' h hu => ⟨hJ.set u t W u' h.1 hu, (Below.heap_setCell W _ _ _ (by show _ ≠ Bs; omega)).trans h.2.1, (Below.heap_setCell W _ _ _ (by show _ ≠ Bs; omega)).trans h.2.2⟩,
        fun u t W W' h hd => ⟨hJ.dr u t W W' h.1 hd, by obtain ⟨m, rfl⟩ := hd; exact h.2.1, by obtain ⟨m, rfl⟩ := hd; exact h.2.2⟩⟩
    refine (lines_in (n - 1) (by omega) (w.heap.size + 1) Bs
      (fun u t W => J u t W ∧ W.heap[w.heap.size + 1]? = some (.loop (r .ready none)) ∧ W.heap[w.heap.size]? = some (.deferred (some []))) hJ'
      (fun W => ∃ c, Ix c W ∧ W.heap[w.heap.size + 1]? = some (.loop (r .done (some c))) ∧ W.heap[w.heap.size]? = some (.deferred (some []))) ?_ _ t0 ⟨hI _ _ _ _ h0 kc1, hL, hK⟩).mono ?_
    · rintro t W hx ⟨hi, hl, hk⟩
      have hy := run_yield (P := Tryz.prog) (args := #[.string (lnB t).1]) hl hps
      refine ⟨fn, _, assign, body, hy, roundIn_of_wpIn trivial (hassign _ (lnB t).1 W _ ⟨_, run_beginRound hl rfl, ?_⟩)⟩
      have hl2 := now (.loop { r .ready none with state := .busy }) hl
      have hk2 := kept (.loop { r .ready none with state := .busy }) hk
      have kc2 := turn (.loop { r .ready none with state := .busy }) hl rfl
      refine hbody _ t _ hx (hI _ _ _ _ hi kc2) _ _ (fun _ _ _ h => h) (fun _ _ h => h) _ ?_
      -- the round's end
      have fin : ∀ (jump : Option Code) (W3 : World), NC (W.putObj (w.heap.size + 1) (.loop { r .ready none with state := .busy })) W3 →
          (Instr.endRound (w.heap.size + 1) jump).run Tryz.prog W3 = .ok (.bool jump.isNone) (W3.putObj (w.heap.size + 1) (.loop (r (if jump.isNone then .ready else .done) jump))) ∧
          KeepC w.heap.size W3 (W3.putObj (w.heap.size + 1) (.loop (r (if jump.isNone then .ready else .done) jump))) ∧
          (W3.putObj (w.heap.size + 1) (.loop (r (if jump.isNone then .ready else .done) jump))).heap[w.heap.size + 1]? = some (.loop (r (if jump.isNone then .ready else .done) jump)) ∧
          (W3.putObj (w.heap.size + 1) (.loop (r (if jump.isNone then .ready else .done) jump))).heap[w.heap.size]? = some (.deferred (some [])) := fun jump W3 h3 => by
        have hl3 := h3.same _ _ hl2 rfl
        exact ⟨run_endRound jump hl3, turn _ hl3 rfl, now _ hl3, kept _ (h3.same _ _ hk2 rfl)⟩
      rintro e a3 W3 hp
      cases e with
      | normal =>
        obtain ⟨h3, hi3⟩ := hp
        obtain ⟨hr, kc, hl4, hk4⟩ := fin none W3 h3
        exact ⟨_, _, hr, .inl ⟨rfl, hI _ _ _ _ hi3 kc, hl4, hk4⟩⟩
      | ret =>
        obtain ⟨h3, hi3⟩ := hp
        obtain ⟨hr, kc, hl4, hk4⟩ := fin (some .ret) W3 h3
        exact ⟨_, _, hr, .inr ⟨rfl, .ret, hIx _ _ _ hi3 kc, hl4, hk4⟩⟩
      | exit id =>
        obtain ⟨h3, hi3⟩ := hp
        obtain ⟨hr, kc, hl4, hk4⟩ := fin (some (.exit id)) W3 h3
        exact ⟨_, _, hr, .inr ⟨rfl, .exit id, hIx _ _ _ hi3 kc, hl4, hk4⟩⟩
      | goto t =>
        obtain ⟨h3, hi3⟩ := hp
        obtain ⟨hr, kc, hl4, hk4⟩ := fin (some (.goto t)) W3 h3
        exact ⟨_, _, hr, .inr ⟨rfl, .goto t, hIx _ _ _ hi3 kc, hl4, hk4⟩⟩
      | panic ch => exact hp.elim
      | outgrown => exact hp.elim
    · rintro e W2 ⟨⟨v, rfl⟩, (⟨t, ht, hi, hl, hk⟩ | ⟨c, hi, hl, hk⟩)⟩
      · exact ⟨none, _, run_endLoop hl (by simp [r]), hdone _ t _ (Nat.le_refl _) ht (hI _ _ _ _ hi (turn _ hl rfl)) (kept _ hk)⟩
      · exact ⟨some c, _, run_endLoop hl (by simp [r]), hstop _ c _ (Nat.le_refl _) (hIx _ _ _ hi (turn _ hl rfl)) (kept _ hk)⟩
end Go.Proofs.YtekfgkeimlidhaaGreatDoor
/- a log read: Open -/
set_option linter.all false
set_option maxRecDepth 100000
namespace Go.Proofs.YtekfgkeimlidhaaGreatDoor
open Go.RowKit Go.Shelf Pl
attribute [local go_sem] Oper.semAt_some
theorem leave_marksK {n B : Nat} {fn : Func} {tmps : Array Value} {R : Ending → World → Prop} {v : Value} : ∀ (ds : List Deferred) (W : World), Marks B ds W → (∀ W', KeepC B W W' → (results fn tmps).run Tryz.prog W' = .ok v W') → (∀ W', KeepC B W W' → R (.returned v) W') →
    LeavesInM Fence.wide n Tryz.prog fn tmps R ds .returning W := by
  intro ds W hM hres hR
  obtain ⟨Ds, rfl, hnd, hD⟩ := hM
  induction Ds generalizing W with
  | nil => exact ⟨_, hres W (KeepC.refl _ _), hR W (KeepC.refl _ _)⟩
  | cons D Ds ih =>
    obtain ⟨hB, hK⟩ := hD D List.mem_cons_self
    have hkc : KeepC B W (W.putObj D (.deferred none)) := keepC_put hB hK rfl
    refine ⟨by simp, .inl ⟨D, _, rfl, run_takeDeferred hK, ?_⟩⟩
    refine ih _ (fun W' hW' => hres W' (hkc.trans hW')) (fun W' hW' => hR W' (hkc.trans hW')) (List.nodup_cons.1 hnd).2 (fun D' hD' => ?_)
    obtain ⟨h1, h2⟩ := hD D' (List.mem_cons_of_mem _ hD')
    refine ⟨h1, (World.putObj_heap_other (fun e => ?_)).trans h2⟩
    subst e; exact (List.nodup_cons.1 hnd).1 hD'
theorem results_cell3 {P : Program} {fn : Func} {p q r : Tmp} {t1 t2 t3 : TypeId} (h : fn.results = #[.cell p t1, .cell q t2, .cell r t3]) (tmps : Array Value) (w : World) (a b c : Addr) (v1 v2 v3 : Value)
    (hp : tmps.getD p undef = .pointer (some a)) (hq : tmps.getD q undef = .pointer (some b)) (hr : tmps.getD r undef = .pointer (some c))
    (h1 : (loadVar t1 a).run P w = .ok v1 w) (h2 : (loadVar t2 b).run P w = .ok v2 w) (h3 : (loadVar t3 c).run P w = .ok v3 w) :
    (results fn tmps).run P w = .ok (.tuple #[v1, v2, v3]) w := by
  have hp' : tmps[p]?.getD undef = .pointer (some a) := by simpa using hp
  have hq' : tmps[q]?.getD undef = .pointer (some b) := by simpa using hq
  have hr' : tmps[r]?.getD undef = .pointer (some c) := by simpa using hr
  simp [results, h, hp', hq', hr', asAddr, h1, h2, h3]
theorem run_loadVar1 {P : Program} {w : World} {t : TypeId} {a : Addr} {v : Value} (ht : (isAgg t).run P w = .ok false w) (h : w.cell? a = some v) : (loadVar t a).run P w = .ok v w := by
  simp [loadVar, ht, h, go_sem]
theorem HP.newX {W : World} {B : Nat} {its : List It} (h : HP W B its) (hB : B ≤ W.heap.size) (t : TypeId) (u : Value) : HP (W.alloc (.cells #[u] t)) B (.fl (owX t (some ⟨W.heap.size, 0, none⟩) u) :: its) :=
  h.call ((Below.refl _ _).alloc (Nat.le_refl _) _) hB (owX_ok W t u)
theorem lines_any (s : ByteArray) (w : World) :
    Calls Tryz.prog 7 #[.string s] w fun e w' => e = .returned (.func (.func 14) #[] #[.pointer (some ⟨w.heap.size, 0, none⟩)]) ∧ w.alloc (.cells #[.string s] 9) = w' := by
  go_enter Tryz.func7, Tryz.ntmps7
  go_wp2
  go_ret
  exact ⟨rfl, rfl⟩
theorem lnB_1 (t : ByteArray) : (lnB t).1.size ≤ t.size := by
  have := congrArg List.length (cutLn_app t.data.toList)
  rw [List.length_append, bytes_len] at this
  show (cutLn t.data.toList).1.toArray.size ≤ _
  rw [List.size_toArray]; omega
/-- reading line by line -/
def opL : Nat → BkT → ByteArray → Option (Int × Int × BkT)
  | 0, _, _ => none
  | F + 1, b, t => if t.size = 0 then some (0, b.2.2, b) else
    if Lib.hasSuffix (lnB t).1.data.toList [10] = true then
      (mLine b ⟨(Lib.trimSuffix (lnB t).1.data.toList [10]).toArray⟩).bind fun r => if r.1 = 0 then opL F r.2 (lnB t).2 else some (r.1, r.2.2.2 + 1, r.2)
    else some (0, b.2.2, b)
def mOpen (t : ByteArray) : Option (Int × Int × BkT) := if 2000 < t.size then some (4, 0, newB) else opL (t.size + 1) newB t
theorem open_leaves {B : Nat} {its : List It} {v1 v2 v3 : Value} {ds : List Deferred} {W : World} {tmps : Array Value} {R : Ending → World → Prop} (hM : Marks B ds W) (h : HP W B its)
    (m1 : It.fl (owX 24 (some ⟨B, 0, none⟩) v1) ∈ its) (m2 : It.fl (owX 3 (some ⟨B + 1, 0, none⟩) v2) ∈ its) (m3 : It.fl (owX 36 (some ⟨B + 1 + 1, 0, none⟩) v3) ∈ its)
    (e1 : tmps.getD 2 undef = .pointer (some ⟨B, 0, none⟩)) (e2 : tmps.getD 3 undef = .pointer (some ⟨B + 1, 0, none⟩)) (e3 : tmps.getD 4 undef = .pointer (some ⟨B + 1 + 1, 0, none⟩))
    (hR : ∀ W', KeepC B W W' → R (.returned (.tuple #[v1, v2, v3])) W') : LeavesInM Fence.wide 5 Tryz.prog Tryz.f43 tmps R ds .returning W :=
  leave_marksK ds W hM (fun W' hk => results_cell3 (p := 2) (q := 3) (r := 4) (t1 := 24) (t2 := 3) (t3 := 36) rfl _ _ _ _ _ _ _ _ e1 e2 e3
    (run_loadVar1 (Tryz.isAgg24 _) (hk.cell (h.bx m1))) (run_loadVar1 (Tryz.isAgg3 _) (hk.cell (h.bx m2))) (run_loadVar1 (Tryz.isAgg36 _) (hk.cell (h.bx m3)))) hR
/-- what is owned while the lines are read -/
abbrev opIts (B gt g5 g : Nat) (u : ByteArray) (b : BkT) (v1 v2 v3 : Value) : List It :=
  [.fl (owX 9 (some ⟨gt, 0, none⟩) (.string u)), .fl (owX 24 (some ⟨g5, 0, none⟩) (.pointer (some ⟨g, 0, none⟩))), bkI g b,
    .fl (owX 36 (some ⟨B + 1 + 1, 0, none⟩) v3), .fl (owX 3 (some ⟨B + 1, 0, none⟩) v2), .fl (owX 24 (some ⟨B, 0, none⟩) v1)]
theorem mLine_many {b : BkT} {l : ByteArray} {r : Int × BkT} (h : mLine b l = some r) : 0 ≤ r.2.2.2 ∧ r.2.2.2 ≤ 61 := by
  unfold mLine at h
  split at h
  case isFalse => cases h
  rename_i hok
  obtain ⟨⟨_, _, h0, h1⟩, _⟩ := hok
  have same : 0 ≤ b.2.2 ∧ b.2.2 ≤ 61 := by omega
  split at h
  · obtain rfl := Option.some.inj h; exact same
  · split at h
    · split at h
      · unfold lnRes at h
        split at h
        · obtain rfl := Option.some.inj h; exact same
        · split at h
          · split at h
            · unfold mJoin at h
              obtain ⟨_, rfl⟩ := s_of h
              split
              · split
                · exact same
                · split
                  · exact same
                  · show 0 ≤ b.2.2 + 1 ∧ b.2.2 + 1 ≤ 61; omega
              · exact same
            · split at h
              · unfold mCut at h
                obtain ⟨_, rfl⟩ := s_of h
                split
                · split
                  · split
                    · exact same
                    · show 0 ≤ b.2.2 + 1 ∧ b.2.2 + 1 ≤ 61; omega
                  · exact same
                · exact same
              · obtain rfl := Option.some.inj h; exact same
          · obtain rfl := Option.some.inj h; exact same
      · obtain rfl := Option.some.inj h; exact same
    · obtain rfl := Option.some.inj h; exact same
/-- what the last region reads -/
def opC (g5 g : Nat) (n : Int) (W : World) : Prop := W.cell? ⟨g5, 0, none⟩ = some (.pointer (some ⟨g, 0, none⟩)) ∧ W.cell? ⟨g, 10, none⟩ = some (.int .i64 n)
theorem opC_of {W : World} {B gt g5 g : Nat} {u : ByteArray} {b : BkT} {v1 v2 v3 : Value} (h : HP W B (opIts B gt g5 g u b v1 v2 v3)) : opC g5 g b.2.2 W :=
  ⟨h.bx (List.Mem.tail _ (List.Mem.head _)), by obtain ⟨m1, m2, m3, m4, m5, m6⟩ := HP.bkM (its1 := [_, _]) h; exact m4⟩
def opJ (w W6 : World) (gt g5 g : Nat) (r : Int × Int × BkT) (u t : ByteArray) (W : World) : Prop :=
  ∃ b F, Hid (Below w.heap.size w W) ∧ Hid (NC W6 W) ∧ Hid (HP W w.heap.size (opIts w.heap.size gt g5 g u b (.pointer none) (.int .i64 0) .nilIface)) ∧ Hid (OpB w.heap.size W) ∧ Hid (opL F b t = some r ∧ u.size ≤ 2000 ∧ t.size ≤ 2000)
def opX (w W6 : World) (gt g5 g : Nat) (r : Int × Int × BkT) (c : Code) (W : World) : Prop :=
  Hid (Below w.heap.size w W) ∧ Hid (NC W6 W) ∧ ((c = .exit 0 ∧ ∃ u b, Hid (HP W w.heap.size (opIts w.heap.size gt g5 g u b (.pointer none) (.int .i64 0) .nilIface)) ∧ Hid (r = (0, b.2.2, b))) ∨
    (c = .ret ∧ r.1 ≠ 0 ∧ ∃ u b, Hid (HP W w.heap.size (opIts w.heap.size gt g5 g u b (.pointer none) (.int .i64 r.2.1) (errV 91 r.1)))))
set_option maxHeartbeats 4000000 in
theorem mOpen_ok {text : ByteArray} {r : Int × Int × BkT} (w : World) (hop : OpB w.heap.size w) (hm : mOpen text = some r) :
    Calls Tryz.prog 43 #[.string text] w fun e w' => Below w.heap.size w w' ∧
      ((r.1 = 0 ∧ ∃ g, e = .returned (.tuple #[.pointer (some ⟨g, 0, none⟩), .int .i64 r.2.1, .nilIface]) ∧ HP w' w.heap.size [bkI g r.2.2]) ∨
       (r.1 ≠ 0 ∧ e = .returned (.tuple #[.pointer none, .int .i64 r.2.1, errV 91 r.1]))) := by
  unfold mOpen at hm
  have HOP := Lib.hid hop; clear hop
  have HD := Lib.hid (Below.refl w.heap.size w)
  have HOA := Lib.hid (HP.nil (W := w) (B := w.heap.size))
  have HM := Lib.hid hm; clear hm
  have HMK := Lib.hid (Marks.nil w.heap.size w)
  refine (callsIn_wide (n := 5)).1 ?_
  refine callsIn_of_wp_marks Tryz.func43 rfl trivial ?_ rfl
  simp only [Tryz.ntmps43, List.size_toArray, List.length_cons, List.length_nil, Nat.reduceAdd, Nat.reduceSub, Array.replicate_succ, Array.replicate_zero, List.push_toArray, List.append_toArray, List.nil_append, List.cons_append]
  refine wpIn_wide.2 ?_
  go_upto_region 1 with (fail)
  have hoa := ((HOA.out.newX HD.out.size 24 (.pointer none)).newX (by rw [World.size_alloc]; omega) 3 (.int .i64 0)).newX (by rw [World.size_alloc, World.size_alloc]; omega) 36 .nilIface
  have hd : Below w.heap.size w (((w.alloc (.cells #[.pointer none] 24)).alloc (.cells #[.int .i64 0] 3)).alloc (.cells #[.nilIface] 36)) :=
    (((Below.refl _ _).alloc (Nat.le_refl _) _).alloc (by rw [World.size_alloc]; omega) _).alloc (by rw [World.size_alloc, World.size_alloc]; omega) _
  have hnc : NC w (((w.alloc (.cells #[.pointer none] 24)).alloc (.cells #[.int .i64 0] 3)).alloc (.cells #[.nilIface] 36)) := NC.of_below hd
  simp only [World.size_alloc] at hoa
  replace HMK := Lib.hid (HMK.out.nc hnc)
  replace HOP := Lib.hid (HOP.out.go hd)
  generalize hW : World.alloc (World.alloc (World.alloc w _) _) _ = W3 at *
  clear hW hnc
  replace HOA := Lib.hid hoa
  replace HD := Lib.hid hd; clear hoa hd
  by_cases hbig : 2000 < text.size
  · replace HM := Lib.hid (ifT hbig HM.out)
    obtain rfl := Option.some.inj HM.out
    have hbd := decide_eq_true (show (2000 : Int) < (text.size : Int) by omega)
    obtain ⟨q0, q1, hp, hb⟩ := HP.setBx (its1 := [_, _]) HOA.out (.pointer none)
    obtain ⟨q2, q3, hp, hb2⟩ := HP.setBx (its1 := [_]) hp (.int .i64 0)
    obtain ⟨q4, q5, hp, hb3⟩ := HP.setBx (its1 := []) hp (.iface 91 (.int .i64 4))
    have HP_ := Lib.hid hp; have HB_ := Lib.hid (hb.trans (hb2.trans hb3)); clear hp hb hb2 hb3
    go_wp2_with fail
    exact open_leaves (Marks.nil _ _) HP_.out (List.Mem.tail _ (List.Mem.tail _ (List.Mem.head _))) (List.Mem.tail _ (List.Mem.head _)) (List.Mem.head _) rfl rfl rfl
      (fun W' hk => ⟨hk.below (HD.out.trans HB_.out) (Nat.le_refl _) (Nat.le_refl _), by first | exact .inr ⟨by decide, rfl⟩ | rfl⟩)
  · replace HM := Lib.hid (ifF hbig HM.out)
    have hbd := decide_eq_false (show ¬ (2000 : Int) < (text.size : Int) by omega)
    have HBG := Lib.hid hbig; clear hbig
    have HSZ := Lib.hid HD.out.size
    go_wp2_with fail
    refine (bkNew_ok W3).mono ?_; rintro e W4 ⟨g, rfl, hp, hd⟩
    replace HOA := Lib.hid (HOA.out.callIt hd HSZ.out hp)
    replace HOP := Lib.hid (HOP.out.go (hd.mono HSZ.out))
    replace HMK := Lib.hid (HMK.out.nc (NC.of_below hd))
    replace HD := Lib.hid (HD.out.trans (hd.mono HSZ.out)); clear hd hp
    replace HSZ := Lib.hid HD.out.size
    go_upto_region 4 with (fail)
    have hd : Below W4.heap.size W4 (W4.alloc (.cells #[.pointer (some ⟨g, 0, none⟩)] 24)) := (Below.refl _ _).alloc (Nat.le_refl _) _
    have hp := HOA.out.newX HSZ.out 24 (.pointer (some ⟨g, 0, none⟩))
    generalize hW : World.alloc W4 _ = W5 at *
    clear hW
    replace HOA := Lib.hid hp
    replace HOP := Lib.hid (HOP.out.go (hd.mono HSZ.out))
    replace HMK := Lib.hid (HMK.out.nc (NC.of_below hd))
    replace HD := Lib.hid (HD.out.trans (hd.mono HSZ.out)); clear hd hp
    replace HSZ := Lib.hid HD.out.size
    go_wp2_with fail
    refine (lines_any text _).mono ?_; rintro e w' ⟨rfl, rfl⟩
    go_wp2_with fail
    have hd : Below W5.heap.size W5 (W5.alloc (.cells #[.string text] 9)) := (Below.refl _ _).alloc (Nat.le_refl _) _
    have hp := HOA.out.newX HSZ.out 9 (.string text)
    generalize hgt : W5.heap.size = gt at *
    generalize hW : World.alloc W5 _ = W6 at *
    clear hW
    replace HOA := Lib.hid hp
    have hd' : Below w.heap.size W5 W6 := hd.mono HSZ.out
    replace HOP := Lib.hid (HOP.out.go hd')
    replace HMK := Lib.hid (HMK.out.nc (NC.of_below (by rw [hgt]; exact hd)))
    replace HD := Lib.hid (HD.out.trans hd'); clear hd hd' hp
    replace HSZ := Lib.hid HD.out.size
    generalize hg5 : W4.heap.size = g5 at *
    have HDk := HD
    refine (wpIn_wide (n := 5)).1 (wp_lines (Bs := gt) (by omega) text rfl rfl (opJ w W6 gt g5 g r) (opX w W6 gt g5 g r) ?hJ ?hI ?hIx ⟨newB, text.size + 1, HD, Lib.hid (NC.refl _), HOA, HOP, Lib.hid ⟨HM.out, by have := HBG.out; omega, by have := HBG.out; omega⟩⟩ ?a1 ?assign ?body ?done ?stop)
    case hJ =>
      refine ⟨?_, ?_, ?_⟩
      · rintro u t W ⟨b, F, h1, h2, h3, h4, h5⟩
        obtain ⟨q0, q1, q2⟩ := h3.out.bxAll (List.Mem.head _)
        exact ⟨q1, q2, by have := h5.out.2.1; omega⟩
      · rintro u t W u' ⟨b, F, h1, h2, h3, h4, h5⟩ hu
        obtain ⟨q0, q1, hp, hb⟩ := HP.setBx (its1 := []) h3.out (.string u')
        exact ⟨b, F, Lib.hid (h1.out.trans hb), Lib.hid (h2.out.trans (NC.setCell W ⟨gt, 0, none⟩ (.string u'))), Lib.hid hp, Lib.hid (h4.out.go hb), Lib.hid ⟨h5.out.1, by have := h5.out.2.1; omega, h5.out.2.2⟩⟩
      · rintro u t W W' ⟨b, F, h1, h2, h3, h4, h5⟩ hd
        exact ⟨b, F, Lib.hid (h1.out.trans (hd.below _)), Lib.hid (h2.out.trans (NC.of_below (hd.below _))), Lib.hid (h3.out.dr hd), Lib.hid (h4.out.go (hd.below _)), h5⟩
    case hI =>
      rintro u t W W' ⟨b, F, h1, h2, h3, h4, h5⟩ hk
      exact ⟨b, F, Lib.hid (hk.below h1.out HDk.out.size (Nat.le_refl _)), Lib.hid (h2.out.keepC hk (Nat.le_refl _)), Lib.hid (h3.out.keepC hk), Lib.hid (h4.out.go (hk.below (Below.refl _ _) HDk.out.size h1.out.size)), h5⟩
    case hIx =>
      rintro c W W' ⟨h1, h2, h3⟩ hk
      refine ⟨Lib.hid (hk.below h1.out HDk.out.size (Nat.le_refl _)), Lib.hid (h2.out.keepC hk (Nat.le_refl _)), ?_⟩
      rcases h3 with ⟨e, u, b, h3, h4⟩ | ⟨e, h4, u, b, h3⟩
      · exact .inl ⟨e, u, b, Lib.hid (h3.out.keepC hk), h4⟩
      · exact .inr ⟨e, h4, u, b, Lib.hid (h3.out.keepC hk)⟩
    case assign =>
      intro l x W K hK
      gi_wp2
      exact hK
    case body =>
      rintro l t W33 hx ⟨b, F, HD, HN, HOA, HOP, hL⟩ _ _ hJ35 hJx36 _ hQ34
      obtain ⟨hLM, hus, hts⟩ := hL.out; clear hL
      cases F with
      | zero => cases hLM
      | succ F' =>
        unfold opL at hLM
        rw [if_neg hx] at hLM
        have hlns : (lnB t).1.size ≤ 9223372036854775807 := by have := lnB_1 t; omega
        generalize hln : (lnB t).1 = ln at *
        generalize hrs : (lnB t).2 = rest at *
        have HC := Lib.hid (cutS_ok ln ⟨#[10]⟩ W33 hlns)
        have HSZW := Lib.hid HD.out.size
        cases hsf : Lib.hasSuffix ln.data.toList [10]
        · rw [hsf, if_neg (by decide)] at hLM
          have hr := Option.some.inj hLM
          have HR := Lib.hid hr; clear hr hLM
          change Hid (Calls Tryz.prog _ _ _ fun e w' => e = .returned (.tuple #[.string ⟨(Lib.trimSuffix ln.data.toList [10]).toArray⟩, .bool (Lib.hasSuffix ln.data.toList [10])]) ∧ w' = W33) at HC
          rw [hsf] at HC
          gi_wp2_with fail
          refine ⟨trivial, ?_⟩; refine (CallsIn.inRound l (callsIn_wide.2 HC.out)).mono ?_; rintro e w' ⟨rfl, rfl⟩
          gi_wp2_with fail
          exact ⟨NC.refl _, hJx36 _ _ ⟨HD, HN, .inl ⟨rfl, _, b, HOA, Lib.hid HR.out.symm⟩⟩⟩
        · rw [hsf, if_pos rfl] at hLM
          change Hid (Calls Tryz.prog _ _ _ fun e w' => e = .returned (.tuple #[.string ⟨(Lib.trimSuffix ln.data.toList [10]).toArray⟩, .bool (Lib.hasSuffix ln.data.toList [10])]) ∧ w' = W33) at HC
          rw [hsf] at HC
          generalize (⟨(Lib.trimSuffix ln.data.toList [10]).toArray⟩ : ByteArray) = tr at *
          obtain ⟨r1, hr1, hLM⟩ := obind hLM
          have HML := Lib.hid (mLine_okN (its1 := [_, _]) W33 HOP.out HOA.out HSZW.out hr1)
          have fb5 := HP.bx HOA.out (List.Mem.tail _ (List.Mem.head _))
          gi_wp2_with fail
          refine ⟨trivial, ?_⟩; refine (CallsIn.inRound l (callsIn_wide.2 HC.out)).mono ?_; rintro e w' ⟨rfl, rfl⟩
          gi_wp2_with fail
          refine ⟨trivial, ?_⟩; refine (CallsIn.inRound l (callsIn_wide.2 HML.out)).mono ?_; rintro e W34 ⟨rfl, hp, hd, hn⟩
          replace HOA := Lib.hid hp
          replace HOP := Lib.hid (HOP.out.go hd)
          replace HD := Lib.hid (HD.out.trans hd)
          have HNB := Lib.hid hn
          replace HN := Lib.hid (HN.out.trans hn); clear hp hd hn fb5 HML HC
          obtain ⟨e1, b1⟩ := r1
          dsimp only at hLM
          by_cases he : e1 = 0
          · subst he
            rw [if_pos rfl] at hLM
            have HLM := Lib.hid hLM; clear hLM
            rw [errV_zero]
            gi_wp2_with fail
            exact ⟨HNB.out, hJ35 _ _ _ ⟨b1, F', HD, HN, HOA, HOP, Lib.hid ⟨HLM.out, hus, hus⟩⟩⟩
          · rw [if_neg he] at hLM
            have hr := Option.some.inj hLM
            have HR := Lib.hid hr; clear hr hLM
            rw [errV_pos _ he]
            have hmn := mLine_many hr1
            dsimp only at hmn
            have hwr : wrap64 (b1.2.2 + 1) = b1.2.2 + 1 := by unfold wrap64; omega
            have HWR := Lib.hid hwr; clear hwr hmn
            gi_upto_region 10 with (fail)
            obtain ⟨q0, q1, hp1, hb1⟩ := HP.setBx (its1 := [_, _, _, _, _]) HOA.out (.pointer none)
            obtain ⟨q2, q3, hp2, hb2⟩ := HP.setBx (its1 := [_, _, _, _]) hp1 (.int .i64 (wrap64 (b1.2.2 + 1)))
            obtain ⟨q4, q5, hp3, hb3⟩ := HP.setBx (its1 := [_, _, _]) hp2 (.iface 91 (.int .i64 e1))
            have C0 := Lib.hid (opC_of HOA.out)
            have C1 := Lib.hid (opC_of hp1)
            have C2 := Lib.hid (opC_of hp2)
            have C3 := Lib.hid (opC_of hp3)
            have HP3 := Lib.hid hp3
            have HB3 := Lib.hid (hb1.trans (hb2.trans hb3))
            have HN3 := Lib.hid (((NC.setCell W34 ⟨w.heap.size, 0, none⟩ (.pointer none)).trans (NC.setCell _ ⟨w.heap.size + 1, 0, none⟩ (.int .i64 (wrap64 (b1.2.2 + 1))))).trans (NC.setCell _ ⟨w.heap.size + 1 + 1, 0, none⟩ (.iface 91 (.int .i64 e1))))
            clear hp1 hp2 hp3 hb1 hb2 hb3
            refine wpIn_region_phc (openR_round l) (opC g5 g b1.2.2) [.P 0, .P 1, .P 2, .P 3, .P 4, .P 5, .S 6, .S 7, .S 8] (by kernel_rfl) (by kernel_rfl) (by kernel_rfl) C0.out ?_
            repeat (refine wpCs_P rfl rfl (fun K hK => ?_); apply Exists.intro; refine ⟨fun W_ hc_ => ?_, hK _ ?_⟩; (have c5_ := hc_.1; have c10_ := hc_.2; clear hc_; go_simp; try rfl); clear hK K)
            refine wpCs_S rfl (fun Q' hQ' hL' => ?_)
            go_wp2_with fail
            refine hQ' _ _ C1.out ?_; clear hQ' hL' Q'
            refine wpCs_S rfl (fun Q' hQ' hL' => ?_)
            go_wp2_with fail
            refine hQ' _ _ C2.out ?_; clear hQ' hL' Q'
            refine wpCs_S rfl (fun Q' hQ' hL' => ?_)
            go_wp2_with fail
            refine hQ' _ _ C3.out ?_; clear hQ' hL' Q'
            refine wpCs_nil ?_
            clear q0 q1 q2 q3 q4 q5 C0 C1 C2 C3
            have hp := HP3.out.dr (Dr.one _)
            have hb := HB3.out.trans ((Dr.one _).below _)
            have hn := HN3.out.trans (NC.drew _)
            clear HP3 HB3 HN3
            have HP3 := Lib.hid hp
            have HB3 := Lib.hid hb
            have HN3 := Lib.hid hn
            clear hp hb hn
            generalize hW : World.drew _ = W35 at *
            clear hW
            gi_wp2_with fail
            rw [HWR.out] at HP3
            exact ⟨HNB.out.trans HN3.out, hJx36 _ _ ⟨Lib.hid (HD.out.trans HB3.out), Lib.hid (HN.out.trans HN3.out), .inr ⟨rfl, by rw [← HR.out]; exact he, rest, b1, Lib.hid (by rw [← HR.out]; dsimp only; rw [errV_pos _ he]; exact HP3.out)⟩⟩⟩
    case done =>
      rintro D t W54 hD ht ⟨b, F, HD, HN, HOA, HOP, hL⟩ hK
      replace HMK := Lib.hid (HMK.out.push HN.out hD HDk.out.size hK); clear hK hD HN
      obtain ⟨hLM, hus⟩ := hL.out; clear hL hus
      have hr : (0, b.2.2, b) = r := by
        cases F with
        | zero => cases hLM
        | succ F' => unfold opL at hLM; rw [if_pos ht] at hLM; exact Option.some.inj hLM
      have HR := Lib.hid hr; clear hr hLM ht
      have C0 := Lib.hid (opC_of HOA.out)
      have hrd := HP.bx HOA.out (List.Mem.tail _ (List.Mem.head _))
      obtain ⟨q0, q1, hp1, hb1⟩ := HP.setBx (its1 := [_, _, _, _, _]) HOA.out (.pointer (some ⟨g, 0, none⟩))
      obtain ⟨q2, q3, hp2, hb2⟩ := HP.setBx (its1 := [_, _, _, _]) hp1 (.int .i64 b.2.2)
      obtain ⟨q4, q5, hp3, hb3⟩ := HP.setBx (its1 := [_, _, _]) hp2 .nilIface
      have C1 := Lib.hid (opC_of hp1)
      have C2 := Lib.hid (opC_of hp2)
      have C3 := Lib.hid (opC_of hp3)
      have HP3 := Lib.hid hp3
      have HB3 := Lib.hid (hb1.trans (hb2.trans hb3))
      have HN3 := Lib.hid (((NC.setCell W54 ⟨w.heap.size, 0, none⟩ (.pointer (some ⟨g, 0, none⟩))).trans (NC.setCell _ ⟨w.heap.size + 1, 0, none⟩ (.int .i64 b.2.2))).trans (NC.setCell _ ⟨w.heap.size + 1 + 1, 0, none⟩ .nilIface))
      clear hp1 hp2 hp3 hb1 hb2 hb3 hrd
      go_upto_region 11 with (fail)
      refine wp_region_phc (opC g5 g b.2.2) [.P 0, .P 1, .P 2, .P 3, .P 4, .S 5, .S 6, .S 7] (by kernel_rfl) (by kernel_rfl) C0.out ?_
      repeat (refine wpCs_P rfl rfl (fun K hK => ?_); apply Exists.intro; refine ⟨fun W_ hc_ => ?_, hK _ ?_⟩; (have c5_ := hc_.1; have c10_ := hc_.2; clear hc_; go_simp; try rfl); clear hK K)
      refine wpCs_S rfl (fun Q' hQ' hL' => ?_)
      go_wp2_with fail
      refine hQ' _ _ C1.out ?_; clear hQ' hL' Q'
      refine wpCs_S rfl (fun Q' hQ' hL' => ?_)
      go_wp2_with fail
      refine hQ' _ _ C2.out ?_; clear hQ' hL' Q'
      refine wpCs_S rfl (fun Q' hQ' hL' => ?_)
      go_wp2_with fail
      refine hQ' _ _ C3.out ?_; clear hQ' hL' Q'
      refine wpCs_nil ?_
      clear q0 q1 q2 q3 q4 q5 C0 C1 C2 C3
      have hp := HP3.out.dr (Dr.one _)
      have hb := HB3.out.trans ((Dr.one _).below _)
      have hn := HN3.out.trans (NC.drew _)
      clear HP3 HB3 HN3
      have HP3 := Lib.hid hp
      have HB3 := Lib.hid hb
      have HN3 := Lib.hid hn
      clear hp hb hn
      generalize hW : World.drew _ = W55 at *
      clear hW
      go_wp2_with fail
      exact open_leaves (HMK.out.nc HN3.out) HP3.out (List.Mem.tail _ (List.Mem.tail _ (List.Mem.tail _ (List.Mem.tail _ (List.Mem.tail _ (List.Mem.head _)))))) (List.Mem.tail _ (List.Mem.tail _ (List.Mem.tail _ (List.Mem.tail _ (List.Mem.head _))))) (List.Mem.tail _ (List.Mem.tail _ (List.Mem.tail _ (List.Mem.head _)))) rfl rfl rfl
        (fun W' hk => ⟨hk.below (HD.out.trans HB3.out) (Nat.le_refl _) (Nat.le_refl _), by
          rw [← HR.out]
          exact .inl ⟨rfl, g, rfl, (HP3.out.keepC hk).sub (.cons _ (.cons _ (.cons₂ _ (.cons _ (.cons _ (.cons _ .slnil))))))⟩⟩)
    case stop =>
      rintro D c W54 hD ⟨HD, HN, (⟨rfl, u, b, HOA, hr⟩ | ⟨rfl, he, u, b, HOA⟩)⟩ hK
      · refine wpIn_wide.2 ?_
        replace HMK := Lib.hid (HMK.out.push HN.out hD HDk.out.size hK); clear hK hD HN
        have HR := Lib.hid hr.out.symm; clear hr
        have C0 := Lib.hid (opC_of HOA.out)
        have hrd := HP.bx HOA.out (List.Mem.tail _ (List.Mem.head _))
        obtain ⟨q0, q1, hp1, hb1⟩ := HP.setBx (its1 := [_, _, _, _, _]) HOA.out (.pointer (some ⟨g, 0, none⟩))
        obtain ⟨q2, q3, hp2, hb2⟩ := HP.setBx (its1 := [_, _, _, _]) hp1 (.int .i64 b.2.2)
        obtain ⟨q4, q5, hp3, hb3⟩ := HP.setBx (its1 := [_, _, _]) hp2 .nilIface
        have C1 := Lib.hid (opC_of hp1)
        have C2 := Lib.hid (opC_of hp2)
        have C3 := Lib.hid (opC_of hp3)
        have HP3 := Lib.hid hp3
        have HB3 := Lib.hid (hb1.trans (hb2.trans hb3))
        have HN3 := Lib.hid (((NC.setCell W54 ⟨w.heap.size, 0, none⟩ (.pointer (some ⟨g, 0, none⟩))).trans (NC.setCell _ ⟨w.heap.size + 1, 0, none⟩ (.int .i64 b.2.2))).trans (NC.setCell _ ⟨w.heap.size + 1 + 1, 0, none⟩ .nilIface))
        clear hp1 hp2 hp3 hb1 hb2 hb3 hrd
        go_upto_region 11 with (fail)
        refine wp_region_phc (opC g5 g b.2.2) [.P 0, .P 1, .P 2, .P 3, .P 4, .S 5, .S 6, .S 7] (by kernel_rfl) (by kernel_rfl) C0.out ?_
        repeat (refine wpCs_P rfl rfl (fun K hK => ?_); apply Exists.intro; refine ⟨fun W_ hc_ => ?_, hK _ ?_⟩; (have c5_ := hc_.1; have c10_ := hc_.2; clear hc_; go_simp; try rfl); clear hK K)
        refine wpCs_S rfl (fun Q' hQ' hL' => ?_)
        go_wp2_with fail
        refine hQ' _ _ C1.out ?_; clear hQ' hL' Q'
        refine wpCs_S rfl (fun Q' hQ' hL' => ?_)
        go_wp2_with fail
        refine hQ' _ _ C2.out ?_; clear hQ' hL' Q'
        refine wpCs_S rfl (fun Q' hQ' hL' => ?_)
        go_wp2_with fail
        refine hQ' _ _ C3.out ?_; clear hQ' hL' Q'
        refine wpCs_nil ?_
        clear q0 q1 q2 q3 q4 q5 C0 C1 C2 C3
        have hp := HP3.out.dr (Dr.one _)
        have hb := HB3.out.trans ((Dr.one _).below _)
        have hn := HN3.out.trans (NC.drew _)
        clear HP3 HB3 HN3
        have HP3 := Lib.hid hp
        have HB3 := Lib.hid hb
        have HN3 := Lib.hid hn
        clear hp hb hn
        generalize hW : World.drew _ = W55 at *
        clear hW
        go_wp2_with fail
        exact open_leaves (HMK.out.nc HN3.out) HP3.out (List.Mem.tail _ (List.Mem.tail _ (List.Mem.tail _ (List.Mem.tail _ (List.Mem.tail _ (List.Mem.head _)))))) (List.Mem.tail _ (List.Mem.tail _ (List.Mem.tail _ (List.Mem.tail _ (List.Mem.head _))))) (List.Mem.tail _ (List.Mem.tail _ (List.Mem.tail _ (List.Mem.head _)))) rfl rfl rfl
          (fun W' hk => ⟨hk.below (HD.out.trans HB3.out) (Nat.le_refl _) (Nat.le_refl _), by
            rw [← HR.out]
            exact .inl ⟨rfl, g, rfl, (HP3.out.keepC hk).sub (.cons _ (.cons _ (.cons₂ _ (.cons _ (.cons _ (.cons _ .slnil))))))⟩⟩)
      · refine wpIn_wide.2 ?_
        replace HMK := Lib.hid (HMK.out.push HN.out hD HDk.out.size hK); clear hK hD HN
        go_wp2_with fail
        exact open_leaves HMK.out HOA.out (List.Mem.tail _ (List.Mem.tail _ (List.Mem.tail _ (List.Mem.tail _ (List.Mem.tail _ (List.Mem.head _)))))) (List.Mem.tail _ (List.Mem.tail _ (List.Mem.tail _ (List.Mem.tail _ (List.Mem.head _))))) (List.Mem.tail _ (List.Mem.tail _ (List.Mem.tail _ (List.Mem.head _)))) rfl rfl rfl
          (fun W' hk => ⟨hk.below HD.out (Nat.le_refl _) (Nat.le_refl _), .inr ⟨he, rfl⟩⟩)
end Go.Proofs.YtekfgkeimlidhaaGreatDoor
