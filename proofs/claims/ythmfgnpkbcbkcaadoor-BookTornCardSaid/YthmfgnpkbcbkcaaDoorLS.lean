import Derived.Test.YthmfgnpkbcbkcaaDoorBkN
import Derived.Test.YthmfgnpkbcbkcaaDoorBox
import Derived.Shelf.Small.Strs
import Derived.Shelf.Small.Wraps
import Derived.Shelf.Strings.LastIndex
import Derived.Shelf.Strings.Prefix
import Derived.Shelf.Strings.Split
import Derived.Shelf.Strconv.AtoiAll
import Derived.Shelf.Strconv.ErrVarAll
import Derived.WalkSmall
/- what Go's library gives: strings.IndexByte, LastIndexByte, CutSuffix, TrimSuffix, Split; strconv.Atoi -/
set_option linter.all false
set_option maxRecDepth 100000
namespace Go.Proofs.YthmfgnpkbcbkcaaDoor
open Go.RowKit Go.Shelf
def ixBRen : Ren := ⟨fun x => if x = 137 then 50 else if x = 217 then 61 else if x = 266 then 71 else 0,
  fun x => if x = 3 then 3 else if x = 5 then 5 else if x = 9 then 9 else 0, fun x => x⟩
theorem ixBLays : Lays.n137 Tryd.prog ixBRen :=
  { mixed := by kernel_rfl
    f137 := Tryd.func50.trans (congrArg some (by kernel_rfl))
    f217 := Tryd.func61.trans (congrArg some (by kernel_rfl))
    f266 := Tryd.func71.trans (congrArg some (by kernel_rfl))
    t3 := Tryd.underlying3
    a3 := Tryd.isAgg3
    z3 := Tryd.sizeOf3
    v3 := Tryd.zeroValue3
    t5 := Tryd.underlying5
    a5 := Tryd.isAgg5
    z5 := Tryd.sizeOf5
    v5 := Tryd.zeroValue5
    t9 := Tryd.underlying9
    a9 := Tryd.isAgg9
    z9 := Tryd.sizeOf9
    v9 := Tryd.zeroValue9 }
def lixBRen : Ren := ⟨fun x => if x = 149 then 52 else if x = 222 then 63 else 0,
  fun x => if x = 3 then 3 else if x = 4 then 4 else if x = 5 then 5 else if x = 9 then 9 else 0, fun x => x⟩
theorem lixBLays : Lays.n149 Tryd.prog lixBRen :=
  { mixed := by kernel_rfl
    f149 := Tryd.func52.trans (congrArg some (by kernel_rfl))
    f222 := Tryd.func63.trans (congrArg some (by kernel_rfl))
    t3 := Tryd.underlying3
    a3 := Tryd.isAgg3
    z3 := Tryd.sizeOf3
    v3 := Tryd.zeroValue3
    t4 := Tryd.underlying4
    a4 := Tryd.isAgg4
    z4 := Tryd.sizeOf4
    v4 := Tryd.zeroValue4
    t5 := Tryd.underlying5
    a5 := Tryd.isAgg5
    z5 := Tryd.sizeOf5
    v5 := Tryd.zeroValue5
    t9 := Tryd.underlying9
    a9 := Tryd.isAgg9
    z9 := Tryd.sizeOf9
    v9 := Tryd.zeroValue9 }
def cutSRen : Ren := ⟨fun x => if x = 104 then 38 else if x = 207 then 62 else if x = 211 then 51 else 0,
  fun x => if x = 3 then 3 else if x = 4 then 4 else if x = 9 then 9 else if x = 24 then 76 else 0, fun x => x⟩
theorem cutSLays : Lays.n104 Tryd.prog cutSRen :=
  { mixed := by kernel_rfl
    f104 := Tryd.func38.trans (congrArg some (by kernel_rfl))
    f207 := Tryd.func62.trans (congrArg some (by kernel_rfl))
    f211 := Tryd.func51.trans (congrArg some (by kernel_rfl))
    t3 := Tryd.underlying3
    a3 := Tryd.isAgg3
    z3 := Tryd.sizeOf3
    v3 := Tryd.zeroValue3
    t4 := Tryd.underlying4
    a4 := Tryd.isAgg4
    z4 := Tryd.sizeOf4
    v4 := Tryd.zeroValue4
    t9 := Tryd.underlying9
    a9 := Tryd.isAgg9
    z9 := Tryd.sizeOf9
    v9 := Tryd.zeroValue9
    t24 := Tryd.underlying76
    a24 := Tryd.isAgg76
    z24 := Tryd.sizeOf76
    v24 := Tryd.zeroValue76 }
def spltRen : Ren := ⟨fun x => if x = 138 then 75 else if x = 143 then 76 else if x = 146 then 54 else if x = 195 then 86 else if x = 197 then 87 else if x = 217 then 61 else if x = 218 then 88 else if x = 219 then 89 else if x = 221 then 65 else if x = 224 then 100 else if x = 225 then 99 else if x = 260 then 98 else if x = 266 then 71 else if x = 267 then 101 else if x = 268 then 74 else if x = 314 then 106 else 0,
  fun x => if x = 0 then 0 else if x = 3 then 3 else if x = 4 then 4 else if x = 5 then 5 else if x = 9 then 9 else if x = 21 then 21 else if x = 31 then 89 else if x = 46 then 50 else if x = 51 then 141 else if x = 105 then 136 else if x = 119 then 154 else if x = 138 then 156 else if x = 139 then 157 else if x = 146 then 158 else 0, fun x => if x = 1 then 1 else if x = 3 then 5 else if x = 4 then 6 else x⟩
theorem spltLays : Lays.n146 Tryd.prog spltRen :=
  { mixed := by kernel_rfl
    f138 := Tryd.func75.trans (congrArg some (by kernel_rfl))
    f143 := Tryd.func76.trans (congrArg some (by kernel_rfl))
    f146 := Tryd.func54.trans (congrArg some (by kernel_rfl))
    f195 := Tryd.func86.trans (congrArg some (by kernel_rfl))
    f197 := Tryd.func87.trans (congrArg some (by kernel_rfl))
    f217 := Tryd.func61.trans (congrArg some (by kernel_rfl))
    f218 := Tryd.func88.trans (congrArg some (by kernel_rfl))
    f219 := Tryd.func89.trans (congrArg some (by kernel_rfl))
    f221 := Tryd.func65.trans (congrArg some (by kernel_rfl))
    f224 := Tryd.func100.trans (congrArg some (by kernel_rfl))
    f225 := Tryd.func99.trans (congrArg some (by kernel_rfl))
    f260 := Tryd.func98.trans (congrArg some (by kernel_rfl))
    f266 := Tryd.func71.trans (congrArg some (by kernel_rfl))
    f267 := Tryd.func101.trans (congrArg some (by kernel_rfl))
    f268 := Tryd.func74.trans (congrArg some (by kernel_rfl))
    f314 := Tryd.func106.trans (congrArg some (by kernel_rfl))
    t0 := Tryd.underlying0
    a0 := Tryd.isAgg0
    z0 := Tryd.sizeOf0
    v0 := Tryd.zeroValue0
    t3 := Tryd.underlying3
    a3 := Tryd.isAgg3
    z3 := Tryd.sizeOf3
    v3 := Tryd.zeroValue3
    t4 := Tryd.underlying4
    a4 := Tryd.isAgg4
    z4 := Tryd.sizeOf4
    v4 := Tryd.zeroValue4
    t5 := Tryd.underlying5
    a5 := Tryd.isAgg5
    z5 := Tryd.sizeOf5
    v5 := Tryd.zeroValue5
    t9 := Tryd.underlying9
    a9 := Tryd.isAgg9
    z9 := Tryd.sizeOf9
    v9 := Tryd.zeroValue9
    t21 := Tryd.underlying21
    a21 := Tryd.isAgg21
    z21 := Tryd.sizeOf21
    v21 := Tryd.zeroValue21
    t31 := Tryd.underlying89
    a31 := Tryd.isAgg89
    z31 := Tryd.sizeOf89
    v31 := Tryd.zeroValue89
    t46 := Tryd.underlying50
    a46 := Tryd.isAgg50
    z46 := Tryd.sizeOf50
    v46 := Tryd.zeroValue50
    t51 := Tryd.underlying141
    a51 := Tryd.isAgg141
    z51 := Tryd.sizeOf141
    v51 := Tryd.zeroValue141
    t105 := Tryd.underlying136
    a105 := Tryd.isAgg136
    z105 := Tryd.sizeOf136
    v105 := Tryd.zeroValue136
    t119 := Tryd.underlying154
    a119 := Tryd.isAgg154
    z119 := Tryd.sizeOf154
    t138 := Tryd.underlying156
    a138 := Tryd.isAgg156
    z138 := Tryd.sizeOf156
    v138 := Tryd.zeroValue156
    t139 := Tryd.underlying157
    a139 := Tryd.isAgg157
    z139 := Tryd.sizeOf157
    v139 := Tryd.zeroValue157
    t146 := Tryd.underlying158
    a146 := Tryd.isAgg158
    z146 := Tryd.sizeOf158
    v146 := Tryd.zeroValue158
    g1 := by kernel_rfl
    g3 := by kernel_rfl
    g4 := by kernel_rfl }
def atoiRen : Ren := ⟨fun x => if x = 129 then 91 else if x = 171 then 41 else if x = 172 then 64 else if x = 205 then 97 else if x = 243 then 55 else if x = 244 then 72 else if x = 245 then 73 else if x = 246 then 66 else if x = 247 then 81 else if x = 279 then 82 else if x = 280 then 83 else if x = 281 then 84 else if x = 282 then 85 else if x = 283 then 77 else if x = 284 then 78 else if x = 285 then 79 else if x = 286 then 80 else if x = 287 then 95 else if x = 316 then 96 else if x = 317 then 90 else if x = 318 then 92 else if x = 319 then 93 else if x = 320 then 94 else if x = 321 then 104 else if x = 322 then 105 else if x = 337 then 102 else if x = 338 then 103 else 0,
  fun x => if x = 0 then 0 else if x = 2 then 2 else if x = 3 then 3 else if x = 4 then 4 else if x = 5 then 5 else if x = 9 then 9 else if x = 20 then 20 else if x = 21 then 21 else if x = 37 then 54 else if x = 46 then 50 else if x = 51 then 141 else if x = 53 then 125 else if x = 75 then 29 else if x = 76 then 32 else if x = 80 then 42 else if x = 85 then 131 else if x = 127 then 84 else if x = 143 then 151 else if x = 145 then 153 else if x = 167 then 130 else if x = 168 then 133 else if x = 171 then 124 else if x = 173 then 128 else if x = 175 then 144 else if x = 210 then 148 else if x = 212 then 140 else if x = 213 then 142 else if x = 232 then 160 else if x = 233 then 161 else 0, fun x => if x = 15 then 3 else if x = 16 then 4 else if x = 17 then 2 else if x = 18 then 7 else if x = 19 then 8 else x⟩
theorem atoiLays : LaysC.n172 Tryd.prog atoiRen :=
  { mixed := by kernel_rfl
    f129 := Tryd.func91.trans (congrArg some (by kernel_rfl))
    f171 := Tryd.func41.trans (congrArg some (by kernel_rfl))
    f172 := Tryd.func64.trans (congrArg some (by kernel_rfl))
    f205 := Tryd.func97.trans (congrArg some (by kernel_rfl))
    f243 := Tryd.func55.trans (congrArg some (by kernel_rfl))
    f244 := Tryd.func72.trans (congrArg some (by kernel_rfl))
    f245 := Tryd.func73.trans (congrArg some (by kernel_rfl))
    f246 := Tryd.func66.trans (congrArg some (by kernel_rfl))
    f247 := Tryd.func81.trans (congrArg some (by kernel_rfl))
    f279 := Tryd.func82.trans (congrArg some (by kernel_rfl))
    f280 := Tryd.func83.trans (congrArg some (by kernel_rfl))
    f281 := Tryd.func84.trans (congrArg some (by kernel_rfl))
    f282 := Tryd.func85.trans (congrArg some (by kernel_rfl))
    f283 := Tryd.func77.trans (congrArg some (by kernel_rfl))
    f284 := Tryd.func78.trans (congrArg some (by kernel_rfl))
    f285 := Tryd.func79.trans (congrArg some (by kernel_rfl))
    f286 := Tryd.func80.trans (congrArg some (by kernel_rfl))
    f287 := Tryd.func95.trans (congrArg some (by kernel_rfl))
    f316 := Tryd.func96.trans (congrArg some (by kernel_rfl))
    f317 := Tryd.func90.trans (congrArg some (by kernel_rfl))
    f318 := Tryd.func92.trans (congrArg some (by kernel_rfl))
    f319 := Tryd.func93.trans (congrArg some (by kernel_rfl))
    f320 := Tryd.func94.trans (congrArg some (by kernel_rfl))
    f321 := Tryd.func104.trans (congrArg some (by kernel_rfl))
    f322 := Tryd.func105.trans (congrArg some (by kernel_rfl))
    f337 := Tryd.func102.trans (congrArg some (by kernel_rfl))
    f338 := Tryd.func103.trans (congrArg some (by kernel_rfl))
    t0 := Tryd.underlying0
    a0 := Tryd.isAgg0
    z0 := Tryd.sizeOf0
    v0 := Tryd.zeroValue0
    t2 := Tryd.underlying2
    a2 := Tryd.isAgg2
    z2 := Tryd.sizeOf2
    v2 := Tryd.zeroValue2
    t3 := Tryd.underlying3
    a3 := Tryd.isAgg3
    z3 := Tryd.sizeOf3
    v3 := Tryd.zeroValue3
    t4 := Tryd.underlying4
    a4 := Tryd.isAgg4
    z4 := Tryd.sizeOf4
    v4 := Tryd.zeroValue4
    t5 := Tryd.underlying5
    a5 := Tryd.isAgg5
    z5 := Tryd.sizeOf5
    v5 := Tryd.zeroValue5
    t9 := Tryd.underlying9
    a9 := Tryd.isAgg9
    z9 := Tryd.sizeOf9
    v9 := Tryd.zeroValue9
    t20 := Tryd.underlying20
    a20 := Tryd.isAgg20
    z20 := Tryd.sizeOf20
    v20 := Tryd.zeroValue20
    t21 := Tryd.underlying21
    a21 := Tryd.isAgg21
    z21 := Tryd.sizeOf21
    v21 := Tryd.zeroValue21
    t37 := Tryd.underlying54
    a37 := Tryd.isAgg54
    z37 := Tryd.sizeOf54
    v37 := Tryd.zeroValue54
    t46 := Tryd.underlying50
    a46 := Tryd.isAgg50
    z46 := Tryd.sizeOf50
    v46 := Tryd.zeroValue50
    t51 := Tryd.underlying141
    a51 := Tryd.isAgg141
    z51 := Tryd.sizeOf141
    v51 := Tryd.zeroValue141
    t53 := Tryd.underlying125
    a53 := Tryd.isAgg125
    z53 := Tryd.sizeOf125
    v53 := Tryd.zeroValue125
    t75 := Tryd.underlying29
    a75 := Tryd.isAgg29
    z75 := Tryd.sizeOf29
    v75 := Tryd.zeroValue29
    t76 := Tryd.underlying32
    a76 := Tryd.isAgg32
    z76 := Tryd.sizeOf32
    v76 := Tryd.zeroValue32
    t85 := Tryd.underlying131
    a85 := Tryd.isAgg131
    z85 := Tryd.sizeOf131
    v85 := Tryd.zeroValue131
    t127 := Tryd.underlying84
    a127 := Tryd.isAgg84
    z127 := Tryd.sizeOf84
    v127 := Tryd.zeroValue84
    t143 := Tryd.underlying151
    a143 := Tryd.isAgg151
    z143 := Tryd.sizeOf151
    v143 := Tryd.zeroValue151
    t145 := Tryd.underlying153
    a145 := Tryd.isAgg153
    z145 := Tryd.sizeOf153
    v145 := Tryd.zeroValue153
    t167 := Tryd.underlying130
    a167 := Tryd.isAgg130
    z167 := Tryd.sizeOf130
    v167 := Tryd.zeroValue130
    t168 := Tryd.underlying133
    a168 := Tryd.isAgg133
    z168 := Tryd.sizeOf133
    v168 := Tryd.zeroValue133
    t171 := Tryd.underlying124
    a171 := Tryd.isAgg124
    z171 := Tryd.sizeOf124
    v171 := Tryd.zeroValue124
    t173 := Tryd.underlying128
    a173 := Tryd.isAgg128
    z173 := Tryd.sizeOf128
    v173 := Tryd.zeroValue128
    t175 := Tryd.underlying144
    a175 := Tryd.isAgg144
    z175 := Tryd.sizeOf144
    v175 := Tryd.zeroValue144
    t210 := Tryd.underlying148
    a210 := Tryd.isAgg148
    z210 := Tryd.sizeOf148
    v210 := Tryd.zeroValue148
    t212 := Tryd.underlying140
    a212 := Tryd.isAgg140
    z212 := Tryd.sizeOf140
    v212 := Tryd.zeroValue140
    t213 := Tryd.underlying142
    a213 := Tryd.isAgg142
    z213 := Tryd.sizeOf142
    t232 := Tryd.underlying160
    a232 := Tryd.isAgg160
    z232 := Tryd.sizeOf160
    v232 := Tryd.zeroValue160
    t233 := Tryd.underlying161
    a233 := Tryd.isAgg161
    z233 := Tryd.sizeOf161
    v233 := Tryd.zeroValue161
    g15 := by kernel_rfl
    g16 := by kernel_rfl
    g17 := by kernel_rfl
    g18 := by kernel_rfl
    g19 := by kernel_rfl
    t80 := Tryd.underlying42
    a80 := Tryd.isAgg42
    z80 := Tryd.sizeOf42
    v80 := Tryd.zeroValue42
    i0 := by kernel_rfl
    i2 := by kernel_rfl
    i3 := by kernel_rfl
    i4 := by kernel_rfl
    i5 := by kernel_rfl
    i9 := by kernel_rfl
    i20 := by kernel_rfl
    i21 := by kernel_rfl
    i37 := by kernel_rfl
    i46 := by kernel_rfl
    i51 := by kernel_rfl
    i53 := by kernel_rfl
    i75 := by kernel_rfl
    i76 := by kernel_rfl
    i80 := by kernel_rfl
    i85 := by kernel_rfl
    i127 := by kernel_rfl
    i143 := by kernel_rfl
    i145 := by kernel_rfl
    i167 := by kernel_rfl
    i168 := by kernel_rfl
    i171 := by kernel_rfl
    i173 := by kernel_rfl
    i175 := by kernel_rfl
    i210 := by kernel_rfl
    i212 := by kernel_rfl
    i232 := by kernel_rfl
    i233 := by kernel_rfl
    m15 := by kernel_rfl
    m16 := by kernel_rfl
    m17 := by kernel_rfl
    m18 := by kernel_rfl
    m19 := by kernel_rfl
    c0 := by kernel_rfl
    c2 := by kernel_rfl
    c3 := by kernel_rfl
    c4 := by kernel_rfl
    c5 := by kernel_rfl
    c9 := by kernel_rfl
    c20 := by kernel_rfl
    c21 := by kernel_rfl
    c37 := by kernel_rfl
    c46 := by kernel_rfl
    c51 := by kernel_rfl
    c53 := by kernel_rfl
    c75 := by kernel_rfl
    c76 := by kernel_rfl
    c80 := by kernel_rfl
    c85 := by kernel_rfl
    c127 := by kernel_rfl
    c143 := by kernel_rfl
    c145 := by kernel_rfl
    c167 := by kernel_rfl
    c168 := by kernel_rfl
    c171 := by kernel_rfl
    c173 := by kernel_rfl
    c175 := by kernel_rfl
    c210 := by kernel_rfl
    c212 := by kernel_rfl
    c213 := by kernel_rfl
    c232 := by kernel_rfl
    c233 := by kernel_rfl }
theorem ixB_ok (s : ByteArray) (c : Int) (w : World) :
    Calls Tryd.prog 50 #[.string s, .int .u8 c] w fun e w' => e = .returned (.int .i64 (Lib.indexByte s.data.toList c.toNat.toUInt8)) ∧ w' = w := Any.strings_IndexByte ixBLays s c w
theorem lixB_ok (s : ByteArray) (c : Int) (hs : s.size < 4611686018427387904) (w : World) :
    Calls Tryd.prog 52 #[.string s, .int .u8 c] w fun e w' => e = .returned (.int .i64 (Lib.lastIndexByte s c)) ∧ w' = w := Any.strings_LastIndexByte lixBLays s c hs w
theorem cutS_ok (s p : ByteArray) (w : World) (hs : s.size ≤ 9223372036854775807) :
    Calls Tryd.prog 38 #[.string s, .string p] w fun e w' => e = .returned (.tuple #[.string ⟨(Lib.trimSuffix s.data.toList p.data.toList).toArray⟩, .bool (Lib.hasSuffix s.data.toList p.data.toList)]) ∧ w' = w := Any.strings_CutSuffix cutSLays s p w hs
/-- what the library's variables hold, below B -/
structure OpB (B : Nat) (w : World) : Prop where
  tab : TabB B w
  syn : ∃ tp p, w.var? Tryd.prog "strconv.ErrSyntax" = some #[.iface tp p]
  rng : ∃ tp p, w.var? Tryd.prog "strconv.ErrRange" = some #[.iface tp p]
  max : ∃ m, w.cell? ⟨1, 0, none⟩ = some (.int .i64 m)
  hs : 3 < B
  hr : 4 < B
  hm : 1 < B
theorem OpB.go {B : Nat} {w W : World} (h : OpB B w) (hb : Below B w W) : OpB B W :=
  ⟨h.tab.go hb, let ⟨tp, p, q⟩ := h.syn; ⟨tp, p, var?_below hb (by kernel_rfl) h.hs q⟩, let ⟨tp, p, q⟩ := h.rng; ⟨tp, p, var?_below hb (by kernel_rfl) h.hr q⟩,
    let ⟨m, q⟩ := h.max; ⟨m, (hb.cell (p := ⟨1, 0, none⟩) h.hm).trans q⟩, h.hs, h.hr, h.hm⟩
theorem OpB.mono {B C : Nat} {w : World} (h : OpB B w) (hBC : B ≤ C) : OpB C w :=
  ⟨⟨h.tab.1, Nat.lt_of_lt_of_le h.tab.2 hBC⟩, h.syn, h.rng, h.max, Nat.lt_of_lt_of_le h.hs hBC, Nat.lt_of_lt_of_le h.hr hBC, Nat.lt_of_lt_of_le h.hm hBC⟩
theorem splt_ok {B : Nat} (s sep : ByteArray) (w : World) (h : OpB B w) (hs : s.size < 4294967281) (h1 : 1 ≤ sep.size) :
    Calls Tryd.prog 54 #[.string s, .string sep] w fun e w' =>
      e = .returned (.slice (some ⟨w.heap.size, 0, none⟩) (Lib.countB s sep + 1) (Lib.countB s sep + 1)) ∧ w' = w.alloc (.cells ((Lib.splitB sep 0 (Lib.countB s sep) s).map Value.string).toArray 9) :=
  let ⟨m, hm⟩ := h.max
  Any.strings_Split spltLays (by kernel_rfl) s sep m w hs hm h1
/-- what Atoi tells: the number (if there is one), and whether there is one -/
def atoiM (s : ByteArray) : Int × Bool := match Lib.atoiAll s.data.toList with
  | .ok v => (v, true)
  | .range => (Lib.atoiSat s.data.toList, false)
  | _ => (0, false)
theorem atoi_ok {B : Nat} (s : ByteArray) (w : World) (h : OpB B w) (hs : s.size ≤ 281474976710656) :
    Calls Tryd.prog 64 #[.string s] w fun e w' => Below w.heap.size w w' ∧
      (((atoiM s).2 = true ∧ e = .returned (.tuple #[.int .i64 (atoiM s).1, .nilIface])) ∨ ((atoiM s).2 = false ∧ ∃ tp N, e = .returned (.tuple #[.int .i64 (atoiM s).1, .iface tp (.pointer (some ⟨N, 0, none⟩))]))) := by
  unfold atoiM
  cases hq : Lib.atoiAll s.data.toList with
  | ok v =>
    refine (Any.strconv_Atoi_ok atoiLays s (by omega) v hq w).mono ?_
    rintro e w' ⟨rfl, hw⟩
    refine ⟨?_, .inl ⟨rfl, rfl⟩⟩
    rcases hw with rfl | ⟨t, rfl⟩
    · exact Below.refl _ _
    · exact Lib.bytesWorld_below _ _ _
  | range =>
    obtain ⟨tp, p, hv⟩ := h.rng
    refine (Any.strconv_Atoi_range_var atoiLays s hs hq tp p w hv).mono ?_
    rintro e w' ⟨N, rfl, _, _, hb⟩
    exact ⟨hb, .inr ⟨rfl, _, N, rfl⟩⟩
  | _ =>
    obtain ⟨tp, p, hv⟩ := h.syn
    refine (Any.strconv_Atoi_syntax_var atoiLays s hs hq tp p w hv).mono ?_
    rintro e w' ⟨N, rfl, _, _, hb⟩
    exact ⟨hb, .inr ⟨rfl, _, N, rfl⟩⟩
/-- a number as it is written down -/
def numM (s : ByteArray) : Int × Bool := ((atoiM s).1, (atoiM s).2 && (decide (0 ≤ (atoiM s).1) && (dec (atoiM s).1).toList == s.toList))
theorem num_ok {B : Nat} (s : ByteArray) (w : World) (h : OpB B w) (hB : B ≤ w.heap.size) (hs : s.size ≤ 281474976710656) :
    Calls Tryd.prog 53 #[.string s] w fun e w' => e = .returned (.tuple #[.int .i64 (numM s).1, .bool (numM s).2]) ∧ Below w.heap.size w w' := by
  have HC := Lib.hid (atoi_ok s w h hs)
  have HH := Lib.hid h; clear h
  unfold numM
  go_enter Tryd.func53, Tryd.ntmps53
  go_wp2_with fail
  refine HC.out.mono ?_; rintro e W ⟨hb, (⟨h2, rfl⟩ | ⟨h2, tp, N, rfl⟩)⟩
  · generalize hv : (atoiM s).1 = v at *
    by_cases h0 : 0 ≤ v
    · have hd := decide_eq_true h0
      have hmx : v ≤ 9223372036854775807 := by
        rw [← hv]
        unfold atoiM
        cases hq : Lib.atoiAll s.data.toList with
        | ok u => have := Lib.atoiAll_bounds hq; dsimp only; omega
        | range => have := Lib.atoiSat_bounds s.data.toList; dsimp only; omega
        | _ => dsimp only; omega
      have HI := Lib.hid (mItoa_ok (n := v) W (HH.out.go (hb.mono hB)).tab.1 (by unfold mItoa; rw [if_pos ⟨h0, hmx⟩]))
      go_wp2_with fail
      refine HI.out.mono ?_; rintro e W2 ⟨rfl, hb2⟩
      go_wp2_with fail
      go_ret2
      refine ⟨?_, hb.trans (hb2.mono hb.size)⟩
      rw [h2, hv, hd]; rfl
    · have hd := decide_eq_false h0
      go_wp2_with fail
      go_ret2
      refine ⟨?_, hb⟩
      rw [h2, hv, hd]; rfl
  · go_wp2_with fail
    go_ret2
    exact ⟨by rw [h2]; rfl, hb⟩
end Go.Proofs.YthmfgnpkbcbkcaaDoor
