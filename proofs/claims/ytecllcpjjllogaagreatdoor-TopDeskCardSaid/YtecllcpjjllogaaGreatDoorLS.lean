import Derived.Test.YtecllcpjjllogaaGreatDoorBkN
import Derived.Test.YtecllcpjjllogaaGreatDoorBox
import Derived.Shelf.Small.Strs
import Derived.Shelf.Small.Wraps
import Derived.Shelf.Strings.LastIndex
import Derived.Shelf.Strings.Prefix
import Derived.Shelf.Strings.Split
import Derived.Shelf.Strconv.AtoiAll
import Derived.Shelf.Strconv.ErrVarAll
import Derived.WalkSmall
/- what Go's library gives: strings.IndexByte, LastIndexByte, CutSuffix, TrimSuffix, Split; strconv.Atoi -/
set_option linter.all false
set_option maxRecDepth 100000
namespace Go.Proofs.YtecllcpjjllogaaGreatDoor
open Go.RowKit Go.Shelf
def ixBRen : Ren := ⟨fun x => if x = 137 then 16 else if x = 217 then 26 else if x = 266 then 39 else 0,
  fun x => if x = 3 then 3 else if x = 5 then 5 else if x = 9 then 9 else 0, fun x => x⟩
theorem ixBLays : Lays.n137 Tryz.prog ixBRen :=
  { mixed := by kernel_rfl
    f137 := Tryz.func16.trans (congrArg some (by kernel_rfl))
    f217 := Tryz.func26.trans (congrArg some (by kernel_rfl))
    f266 := Tryz.func39.trans (congrArg some (by kernel_rfl))
    t3 := Tryz.underlying3
    a3 := Tryz.isAgg3
    z3 := Tryz.sizeOf3
    v3 := Tryz.zeroValue3
    t5 := Tryz.underlying5
    a5 := Tryz.isAgg5
    z5 := Tryz.sizeOf5
    v5 := Tryz.zeroValue5
    t9 := Tryz.underlying9
    a9 := Tryz.isAgg9
    z9 := Tryz.sizeOf9
    v9 := Tryz.zeroValue9 }
def lixBRen : Ren := ⟨fun x => if x = 149 then 67 else if x = 222 then 85 else 0,
  fun x => if x = 3 then 3 else if x = 4 then 4 else if x = 5 then 5 else if x = 9 then 9 else 0, fun x => x⟩
theorem lixBLays : Lays.n149 Tryz.prog lixBRen :=
  { mixed := by kernel_rfl
    f149 := Tryz.func67.trans (congrArg some (by kernel_rfl))
    f222 := Tryz.func85.trans (congrArg some (by kernel_rfl))
    t3 := Tryz.underlying3
    a3 := Tryz.isAgg3
    z3 := Tryz.sizeOf3
    v3 := Tryz.zeroValue3
    t4 := Tryz.underlying4
    a4 := Tryz.isAgg4
    z4 := Tryz.sizeOf4
    v4 := Tryz.zeroValue4
    t5 := Tryz.underlying5
    a5 := Tryz.isAgg5
    z5 := Tryz.sizeOf5
    v5 := Tryz.zeroValue5
    t9 := Tryz.underlying9
    a9 := Tryz.isAgg9
    z9 := Tryz.sizeOf9
    v9 := Tryz.zeroValue9 }
def cutSRen : Ren := ⟨fun x => if x = 104 then 51 else if x = 207 then 38 else if x = 211 then 66 else 0,
  fun x => if x = 3 then 3 else if x = 4 then 4 else if x = 9 then 9 else if x = 24 then 87 else 0, fun x => x⟩
theorem cutSLays : Lays.n104 Tryz.prog cutSRen :=
  { mixed := by kernel_rfl
    f104 := Tryz.func51.trans (congrArg some (by kernel_rfl))
    f207 := Tryz.func38.trans (congrArg some (by kernel_rfl))
    f211 := Tryz.func66.trans (congrArg some (by kernel_rfl))
    t3 := Tryz.underlying3
    a3 := Tryz.isAgg3
    z3 := Tryz.sizeOf3
    v3 := Tryz.zeroValue3
    t4 := Tryz.underlying4
    a4 := Tryz.isAgg4
    z4 := Tryz.sizeOf4
    v4 := Tryz.zeroValue4
    t9 := Tryz.underlying9
    a9 := Tryz.isAgg9
    z9 := Tryz.sizeOf9
    v9 := Tryz.zeroValue9
    t24 := Tryz.underlying87
    a24 := Tryz.isAgg87
    z24 := Tryz.sizeOf87
    v24 := Tryz.zeroValue87 }
def spltRen : Ren := ⟨fun x => if x = 138 then 54 else if x = 143 then 55 else if x = 146 then 23 else if x = 195 then 69 else if x = 197 then 70 else if x = 217 then 26 else if x = 218 then 71 else if x = 219 then 72 else if x = 221 then 36 else if x = 224 then 88 else if x = 225 then 87 else if x = 260 then 86 else if x = 266 then 39 else if x = 267 then 89 else if x = 268 then 53 else if x = 314 then 98 else 0,
  fun x => if x = 0 then 0 else if x = 3 then 3 else if x = 4 then 4 else if x = 5 then 5 else if x = 9 then 9 else if x = 21 then 21 else if x = 31 then 57 else if x = 46 then 44 else if x = 51 then 144 else if x = 105 then 109 else if x = 119 then 147 else if x = 138 then 149 else if x = 139 then 150 else if x = 146 then 151 else 0, fun x => if x = 1 then 0 else if x = 3 then 5 else if x = 4 then 6 else x⟩
theorem spltLays : Lays.n146 Tryz.prog spltRen :=
  { mixed := by kernel_rfl
    f138 := Tryz.func54.trans (congrArg some (by kernel_rfl))
    f143 := Tryz.func55.trans (congrArg some (by kernel_rfl))
    f146 := Tryz.func23.trans (congrArg some (by kernel_rfl))
    f195 := Tryz.func69.trans (congrArg some (by kernel_rfl))
    f197 := Tryz.func70.trans (congrArg some (by kernel_rfl))
    f217 := Tryz.func26.trans (congrArg some (by kernel_rfl))
    f218 := Tryz.func71.trans (congrArg some (by kernel_rfl))
    f219 := Tryz.func72.trans (congrArg some (by kernel_rfl))
    f221 := Tryz.func36.trans (congrArg some (by kernel_rfl))
    f224 := Tryz.func88.trans (congrArg some (by kernel_rfl))
    f225 := Tryz.func87.trans (congrArg some (by kernel_rfl))
    f260 := Tryz.func86.trans (congrArg some (by kernel_rfl))
    f266 := Tryz.func39.trans (congrArg some (by kernel_rfl))
    f267 := Tryz.func89.trans (congrArg some (by kernel_rfl))
    f268 := Tryz.func53.trans (congrArg some (by kernel_rfl))
    f314 := Tryz.func98.trans (congrArg some (by kernel_rfl))
    t0 := Tryz.underlying0
    a0 := Tryz.isAgg0
    z0 := Tryz.sizeOf0
    v0 := Tryz.zeroValue0
    t3 := Tryz.underlying3
    a3 := Tryz.isAgg3
    z3 := Tryz.sizeOf3
    v3 := Tryz.zeroValue3
    t4 := Tryz.underlying4
    a4 := Tryz.isAgg4
    z4 := Tryz.sizeOf4
    v4 := Tryz.zeroValue4
    t5 := Tryz.underlying5
    a5 := Tryz.isAgg5
    z5 := Tryz.sizeOf5
    v5 := Tryz.zeroValue5
    t9 := Tryz.underlying9
    a9 := Tryz.isAgg9
    z9 := Tryz.sizeOf9
    v9 := Tryz.zeroValue9
    t21 := Tryz.underlying21
    a21 := Tryz.isAgg21
    z21 := Tryz.sizeOf21
    v21 := Tryz.zeroValue21
    t31 := Tryz.underlying57
    a31 := Tryz.isAgg57
    z31 := Tryz.sizeOf57
    v31 := Tryz.zeroValue57
    t46 := Tryz.underlying44
    a46 := Tryz.isAgg44
    z46 := Tryz.sizeOf44
    v46 := Tryz.zeroValue44
    t51 := Tryz.underlying144
    a51 := Tryz.isAgg144
    z51 := Tryz.sizeOf144
    v51 := Tryz.zeroValue144
    t105 := Tryz.underlying109
    a105 := Tryz.isAgg109
    z105 := Tryz.sizeOf109
    v105 := Tryz.zeroValue109
    t119 := Tryz.underlying147
    a119 := Tryz.isAgg147
    z119 := Tryz.sizeOf147
    t138 := Tryz.underlying149
    a138 := Tryz.isAgg149
    z138 := Tryz.sizeOf149
    v138 := Tryz.zeroValue149
    t139 := Tryz.underlying150
    a139 := Tryz.isAgg150
    z139 := Tryz.sizeOf150
    v139 := Tryz.zeroValue150
    t146 := Tryz.underlying151
    a146 := Tryz.isAgg151
    z146 := Tryz.sizeOf151
    v146 := Tryz.zeroValue151
    g1 := by kernel_rfl
    g3 := by kernel_rfl
    g4 := by kernel_rfl }
def atoiRen : Ren := ⟨fun x => if x = 129 then 94 else if x = 171 then 32 else if x = 172 then 37 else if x = 205 then 92 else if x = 243 then 49 else if x = 244 then 56 else if x = 245 then 57 else if x = 246 then 65 else if x = 247 then 73 else if x = 279 then 74 else if x = 280 then 75 else if x = 281 then 76 else if x = 282 then 77 else if x = 283 then 81 else if x = 284 then 82 else if x = 285 then 83 else if x = 286 then 84 else if x = 287 then 90 else if x = 316 then 91 else if x = 317 then 93 else if x = 318 then 95 else if x = 319 then 96 else if x = 320 then 97 else if x = 321 then 99 else if x = 322 then 100 else if x = 337 then 101 else if x = 338 then 102 else 0,
  fun x => if x = 0 then 0 else if x = 2 then 2 else if x = 3 then 3 else if x = 4 then 4 else if x = 5 then 5 else if x = 9 then 9 else if x = 20 then 20 else if x = 21 then 21 else if x = 37 then 31 else if x = 46 then 44 else if x = 51 then 144 else if x = 53 then 132 else if x = 75 then 38 else if x = 76 then 39 else if x = 80 then 43 else if x = 85 then 112 else if x = 127 then 63 else if x = 143 then 154 else if x = 145 then 156 else if x = 167 then 111 else if x = 168 then 114 else if x = 171 then 131 else if x = 173 then 135 else if x = 175 then 138 else if x = 210 then 141 else if x = 212 then 143 else if x = 213 then 145 else if x = 232 then 158 else if x = 233 then 159 else 0, fun x => if x = 15 then 2 else if x = 16 then 3 else if x = 17 then 4 else if x = 18 then 7 else if x = 19 then 8 else x⟩
theorem atoiLays : LaysC.n172 Tryz.prog atoiRen :=
  { mixed := by kernel_rfl
    f129 := Tryz.func94.trans (congrArg some (by kernel_rfl))
    f171 := Tryz.func32.trans (congrArg some (by kernel_rfl))
    f172 := Tryz.func37.trans (congrArg some (by kernel_rfl))
    f205 := Tryz.func92.trans (congrArg some (by kernel_rfl))
    f243 := Tryz.func49.trans (congrArg some (by kernel_rfl))
    f244 := Tryz.func56.trans (congrArg some (by kernel_rfl))
    f245 := Tryz.func57.trans (congrArg some (by kernel_rfl))
    f246 := Tryz.func65.trans (congrArg some (by kernel_rfl))
    f247 := Tryz.func73.trans (congrArg some (by kernel_rfl))
    f279 := Tryz.func74.trans (congrArg some (by kernel_rfl))
    f280 := Tryz.func75.trans (congrArg some (by kernel_rfl))
    f281 := Tryz.func76.trans (congrArg some (by kernel_rfl))
    f282 := Tryz.func77.trans (congrArg some (by kernel_rfl))
    f283 := Tryz.func81.trans (congrArg some (by kernel_rfl))
    f284 := Tryz.func82.trans (congrArg some (by kernel_rfl))
    f285 := Tryz.func83.trans (congrArg some (by kernel_rfl))
    f286 := Tryz.func84.trans (congrArg some (by kernel_rfl))
    f287 := Tryz.func90.trans (congrArg some (by kernel_rfl))
    f316 := Tryz.func91.trans (congrArg some (by kernel_rfl))
    f317 := Tryz.func93.trans (congrArg some (by kernel_rfl))
    f318 := Tryz.func95.trans (congrArg some (by kernel_rfl))
    f319 := Tryz.func96.trans (congrArg some (by kernel_rfl))
    f320 := Tryz.func97.trans (congrArg some (by kernel_rfl))
    f321 := Tryz.func99.trans (congrArg some (by kernel_rfl))
    f322 := Tryz.func100.trans (congrArg some (by kernel_rfl))
    f337 := Tryz.func101.trans (congrArg some (by kernel_rfl))
    f338 := Tryz.func102.trans (congrArg some (by kernel_rfl))
    t0 := Tryz.underlying0
    a0 := Tryz.isAgg0
    z0 := Tryz.sizeOf0
    v0 := Tryz.zeroValue0
    t2 := Tryz.underlying2
    a2 := Tryz.isAgg2
    z2 := Tryz.sizeOf2
    v2 := Tryz.zeroValue2
    t3 := Tryz.underlying3
    a3 := Tryz.isAgg3
    z3 := Tryz.sizeOf3
    v3 := Tryz.zeroValue3
    t4 := Tryz.underlying4
    a4 := Tryz.isAgg4
    z4 := Tryz.sizeOf4
    v4 := Tryz.zeroValue4
    t5 := Tryz.underlying5
    a5 := Tryz.isAgg5
    z5 := Tryz.sizeOf5
    v5 := Tryz.zeroValue5
    t9 := Tryz.underlying9
    a9 := Tryz.isAgg9
    z9 := Tryz.sizeOf9
    v9 := Tryz.zeroValue9
    t20 := Tryz.underlying20
    a20 := Tryz.isAgg20
    z20 := Tryz.sizeOf20
    v20 := Tryz.zeroValue20
    t21 := Tryz.underlying21
    a21 := Tryz.isAgg21
    z21 := Tryz.sizeOf21
    v21 := Tryz.zeroValue21
    t37 := Tryz.underlying31
    a37 := Tryz.isAgg31
    z37 := Tryz.sizeOf31
    v37 := Tryz.zeroValue31
    t46 := Tryz.underlying44
    a46 := Tryz.isAgg44
    z46 := Tryz.sizeOf44
    v46 := Tryz.zeroValue44
    t51 := Tryz.underlying144
    a51 := Tryz.isAgg144
    z51 := Tryz.sizeOf144
    v51 := Tryz.zeroValue144
    t53 := Tryz.underlying132
    a53 := Tryz.isAgg132
    z53 := Tryz.sizeOf132
    v53 := Tryz.zeroValue132
    t75 := Tryz.underlying38
    a75 := Tryz.isAgg38
    z75 := Tryz.sizeOf38
    v75 := Tryz.zeroValue38
    t76 := Tryz.underlying39
    a76 := Tryz.isAgg39
    z76 := Tryz.sizeOf39
    v76 := Tryz.zeroValue39
    t85 := Tryz.underlying112
    a85 := Tryz.isAgg112
    z85 := Tryz.sizeOf112
    v85 := Tryz.zeroValue112
    t127 := Tryz.underlying63
    a127 := Tryz.isAgg63
    z127 := Tryz.sizeOf63
    v127 := Tryz.zeroValue63
    t143 := Tryz.underlying154
    a143 := Tryz.isAgg154
    z143 := Tryz.sizeOf154
    v143 := Tryz.zeroValue154
    t145 := Tryz.underlying156
    a145 := Tryz.isAgg156
    z145 := Tryz.sizeOf156
    v145 := Tryz.zeroValue156
    t167 := Tryz.underlying111
    a167 := Tryz.isAgg111
    z167 := Tryz.sizeOf111
    v167 := Tryz.zeroValue111
    t168 := Tryz.underlying114
    a168 := Tryz.isAgg114
    z168 := Tryz.sizeOf114
    v168 := Tryz.zeroValue114
    t171 := Tryz.underlying131
    a171 := Tryz.isAgg131
    z171 := Tryz.sizeOf131
    v171 := Tryz.zeroValue131
    t173 := Tryz.underlying135
    a173 := Tryz.isAgg135
    z173 := Tryz.sizeOf135
    v173 := Tryz.zeroValue135
    t175 := Tryz.underlying138
    a175 := Tryz.isAgg138
    z175 := Tryz.sizeOf138
    v175 := Tryz.zeroValue138
    t210 := Tryz.underlying141
    a210 := Tryz.isAgg141
    z210 := Tryz.sizeOf141
    v210 := Tryz.zeroValue141
    t212 := Tryz.underlying143
    a212 := Tryz.isAgg143
    z212 := Tryz.sizeOf143
    v212 := Tryz.zeroValue143
    t213 := Tryz.underlying145
    a213 := Tryz.isAgg145
    z213 := Tryz.sizeOf145
    t232 := Tryz.underlying158
    a232 := Tryz.isAgg158
    z232 := Tryz.sizeOf158
    v232 := Tryz.zeroValue158
    t233 := Tryz.underlying159
    a233 := Tryz.isAgg159
    z233 := Tryz.sizeOf159
    v233 := Tryz.zeroValue159
    g15 := by kernel_rfl
    g16 := by kernel_rfl
    g17 := by kernel_rfl
    g18 := by kernel_rfl
    g19 := by kernel_rfl
    t80 := Tryz.underlying43
    a80 := Tryz.isAgg43
    z80 := Tryz.sizeOf43
    v80 := Tryz.zeroValue43
    i0 := by kernel_rfl
    i2 := by kernel_rfl
    i3 := by kernel_rfl
    i4 := by kernel_rfl
    i5 := by kernel_rfl
    i9 := by kernel_rfl
    i20 := by kernel_rfl
    i21 := by kernel_rfl
    i37 := by kernel_rfl
    i46 := by kernel_rfl
    i51 := by kernel_rfl
    i53 := by kernel_rfl
    i75 := by kernel_rfl
    i76 := by kernel_rfl
    i80 := by kernel_rfl
    i85 := by kernel_rfl
    i127 := by kernel_rfl
    i143 := by kernel_rfl
    i145 := by kernel_rfl
    i167 := by kernel_rfl
    i168 := by kernel_rfl
    i171 := by kernel_rfl
    i173 := by kernel_rfl
    i175 := by kernel_rfl
    i210 := by kernel_rfl
    i212 := by kernel_rfl
    i232 := by kernel_rfl
    i233 := by kernel_rfl
    m15 := by kernel_rfl
    m16 := by kernel_rfl
    m17 := by kernel_rfl
    m18 := by kernel_rfl
    m19 := by kernel_rfl
    c0 := by kernel_rfl
    c2 := by kernel_rfl
    c3 := by kernel_rfl
    c4 := by kernel_rfl
    c5 := by kernel_rfl
    c9 := by kernel_rfl
    c20 := by kernel_rfl
    c21 := by kernel_rfl
    c37 := by kernel_rfl
    c46 := by kernel_rfl
    c51 := by kernel_rfl
    c53 := by kernel_rfl
    c75 := by kernel_rfl
    c76 := by kernel_rfl
    c80 := by kernel_rfl
    c85 := by kernel_rfl
    c127 := by kernel_rfl
    c143 := by kernel_rfl
    c145 := by kernel_rfl
    c167 := by kernel_rfl
    c168 := by kernel_rfl
    c171 := by kernel_rfl
    c173 := by kernel_rfl
    c175 := by kernel_rfl
    c210 := by kernel_rfl
    c212 := by kernel_rfl
    c213 := by kernel_rfl
    c232 := by kernel_rfl
    c233 := by kernel_rfl }
def trimSRen : Ren := ⟨fun x => if x = 102 then 12 else if x = 207 then 38 else if x = 209 then 25 else 0,
  fun x => if x = 3 then 3 else if x = 4 then 4 else if x = 9 then 9 else 0, fun x => x⟩
theorem trimSLays : Lays.n102 Tryz.prog trimSRen :=
  { mixed := by kernel_rfl
    f102 := Tryz.func12.trans (congrArg some (by kernel_rfl))
    f207 := Tryz.func38.trans (congrArg some (by kernel_rfl))
    f209 := Tryz.func25.trans (congrArg some (by kernel_rfl))
    t3 := Tryz.underlying3
    a3 := Tryz.isAgg3
    z3 := Tryz.sizeOf3
    v3 := Tryz.zeroValue3
    t4 := Tryz.underlying4
    a4 := Tryz.isAgg4
    z4 := Tryz.sizeOf4
    v4 := Tryz.zeroValue4
    t9 := Tryz.underlying9
    a9 := Tryz.isAgg9
    z9 := Tryz.sizeOf9
    v9 := Tryz.zeroValue9 }
theorem trimS_ok (s p : ByteArray) (w : World) (hs : s.size ≤ 9223372036854775807) :
    Calls Tryz.prog 12 #[.string s, .string p] w fun e w' => e = .returned (.string ⟨(Lib.trimSuffix s.data.toList p.data.toList).toArray⟩) ∧ w' = w := Any.strings_TrimSuffix trimSLays s p w hs
theorem ixB_ok (s : ByteArray) (c : Int) (w : World) :
    Calls Tryz.prog 16 #[.string s, .int .u8 c] w fun e w' => e = .returned (.int .i64 (Lib.indexByte s.data.toList c.toNat.toUInt8)) ∧ w' = w := Any.strings_IndexByte ixBLays s c w
theorem lixB_ok (s : ByteArray) (c : Int) (hs : s.size < 4611686018427387904) (w : World) :
    Calls Tryz.prog 67 #[.string s, .int .u8 c] w fun e w' => e = .returned (.int .i64 (Lib.lastIndexByte s c)) ∧ w' = w := Any.strings_LastIndexByte lixBLays s c hs w
theorem cutS_ok (s p : ByteArray) (w : World) (hs : s.size ≤ 9223372036854775807) :
    Calls Tryz.prog 51 #[.string s, .string p] w fun e w' => e = .returned (.tuple #[.string ⟨(Lib.trimSuffix s.data.toList p.data.toList).toArray⟩, .bool (Lib.hasSuffix s.data.toList p.data.toList)]) ∧ w' = w := Any.strings_CutSuffix cutSLays s p w hs
/-- what the library's variables hold, below B -/
structure OpB (B : Nat) (w : World) : Prop where
  tab : TabB B w
  syn : ∃ tp p, w.var? Tryz.prog "strconv.ErrSyntax" = some #[.iface tp p]
  rng : ∃ tp p, w.var? Tryz.prog "strconv.ErrRange" = some #[.iface tp p]
  max : ∃ m, w.cell? ⟨0, 0, none⟩ = some (.int .i64 m)
  hs : 2 < B
  hr : 3 < B
  hm : 0 < B
theorem OpB.go {B : Nat} {w W : World} (h : OpB B w) (hb : Below B w W) : OpB B W :=
  ⟨h.tab.go hb, let ⟨tp, p, q⟩ := h.syn; ⟨tp, p, var?_below hb (by kernel_rfl) h.hs q⟩, let ⟨tp, p, q⟩ := h.rng; ⟨tp, p, var?_below hb (by kernel_rfl) h.hr q⟩,
    let ⟨m, q⟩ := h.max; ⟨m, (hb.cell (p := ⟨0, 0, none⟩) h.hm).trans q⟩, h.hs, h.hr, h.hm⟩
theorem OpB.mono {B C : Nat} {w : World} (h : OpB B w) (hBC : B ≤ C) : OpB C w :=
  ⟨⟨h.tab.1, Nat.lt_of_lt_of_le h.tab.2 hBC⟩, h.syn, h.rng, h.max, Nat.lt_of_lt_of_le h.hs hBC, Nat.lt_of_lt_of_le h.hr hBC, Nat.lt_of_lt_of_le h.hm hBC⟩
theorem splt_ok {B : Nat} (s sep : ByteArray) (w : World) (h : OpB B w) (hs : s.size < 4294967281) (h1 : 1 ≤ sep.size) :
    Calls Tryz.prog 23 #[.string s, .string sep] w fun e w' =>
      e = .returned (.slice (some ⟨w.heap.size, 0, none⟩) (Lib.countB s sep + 1) (Lib.countB s sep + 1)) ∧ w' = w.alloc (.cells ((Lib.splitB sep 0 (Lib.countB s sep) s).map Value.string).toArray 9) :=
  let ⟨m, hm⟩ := h.max
  Any.strings_Split spltLays (by kernel_rfl) s sep m w hs hm h1
/-- what Atoi tells: the number (if there is one), and whether there is one -/
def atoiM (s : ByteArray) : Int × Bool := match Lib.atoiAll s.data.toList with
  | .ok v => (v, true)
  | .range => (Lib.atoiSat s.data.toList, false)
  | _ => (0, false)
theorem atoi_ok {B : Nat} (s : ByteArray) (w : World) (h : OpB B w) (hs : s.size ≤ 281474976710656) :
    Calls Tryz.prog 37 #[.string s] w fun e w' => Below w.heap.size w w' ∧
      (((atoiM s).2 = true ∧ e = .returned (.tuple #[.int .i64 (atoiM s).1, .nilIface])) ∨ ((atoiM s).2 = false ∧ ∃ tp N, e = .returned (.tuple #[.int .i64 (atoiM s).1, .iface tp (.pointer (some ⟨N, 0, none⟩))]))) := by
  unfold atoiM
  cases hq : Lib.atoiAll s.data.toList with
  | ok v =>
    refine (Any.strconv_Atoi_ok atoiLays s (by omega) v hq w).mono ?_
    rintro e w' ⟨rfl, hw⟩
    refine ⟨?_, .inl ⟨rfl, rfl⟩⟩
    rcases hw with rfl | ⟨t, rfl⟩
    · exact Below.refl _ _
    · exact Lib.bytesWorld_below _ _ _
  | range =>
    obtain ⟨tp, p, hv⟩ := h.rng
    refine (Any.strconv_Atoi_range_var atoiLays s hs hq tp p w hv).mono ?_
    rintro e w' ⟨N, rfl, _, _, hb⟩
    exact ⟨hb, .inr ⟨rfl, _, N, rfl⟩⟩
  | _ =>
    obtain ⟨tp, p, hv⟩ := h.syn
    refine (Any.strconv_Atoi_syntax_var atoiLays s hs hq tp p w hv).mono ?_
    rintro e w' ⟨N, rfl, _, _, hb⟩
    exact ⟨hb, .inr ⟨rfl, _, N, rfl⟩⟩
/-- a number as it is written down -/
def numM (s : ByteArray) : Int × Bool := ((atoiM s).1, (atoiM s).2 && (decide (0 ≤ (atoiM s).1) && (dec (atoiM s).1).toList == s.toList))
theorem num_ok {B : Nat} (s : ByteArray) (w : World) (h : OpB B w) (hB : B ≤ w.heap.size) (hs : s.size ≤ 281474976710656) :
    Calls Tryz.prog 68 #[.string s] w fun e w' => e = .returned (.tuple #[.int .i64 (numM s).1, .bool (numM s).2]) ∧ Below w.heap.size w w' := by
  have HC := Lib.hid (atoi_ok s w h hs)
  have HH := Lib.hid h; clear h
  unfold numM
  go_enter Tryz.func68, Tryz.ntmps68
  go_wp2_with fail
  refine HC.out.mono ?_; rintro e W ⟨hb, (⟨h2, rfl⟩ | ⟨h2, tp, N, rfl⟩)⟩
  · generalize hv : (atoiM s).1 = v at *
    by_cases h0 : 0 ≤ v
    · have hd := decide_eq_true h0
      have hmx : v ≤ 9223372036854775807 := by
        rw [← hv]
        unfold atoiM
        cases hq : Lib.atoiAll s.data.toList with
        | ok u => have := Lib.atoiAll_bounds hq; dsimp only; omega
        | range => have := Lib.atoiSat_bounds s.data.toList; dsimp only; omega
        | _ => dsimp only; omega
      have HI := Lib.hid (mItoa_ok (n := v) W (HH.out.go (hb.mono hB)).tab.1 (by unfold mItoa; rw [if_pos ⟨h0, hmx⟩]))
      go_wp2_with fail
      refine HI.out.mono ?_; rintro e W2 ⟨rfl, hb2⟩
      go_wp2_with fail
      go_ret2
      refine ⟨?_, hb.trans (hb2.mono hb.size)⟩
      rw [h2, hv, hd]; rfl
    · have hd := decide_eq_false h0
      go_wp2_with fail
      go_ret2
      refine ⟨?_, hb⟩
      rw [h2, hv, hd]; rfl
  · go_wp2_with fail
    go_ret2
    exact ⟨by rw [h2]; rfl, hb⟩
end Go.Proofs.YtecllcpjjllogaaGreatDoor
