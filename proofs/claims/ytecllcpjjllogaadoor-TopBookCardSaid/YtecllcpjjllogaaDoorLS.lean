import Derived.Test.YtecllcpjjllogaaDoorBkN
import Derived.Test.YtecllcpjjllogaaDoorBox
import Derived.Shelf.Small.Strs
import Derived.Shelf.Small.Wraps
import Derived.Shelf.Strings.LastIndex
import Derived.Shelf.Strings.Prefix
import Derived.Shelf.Strings.Split
import Derived.Shelf.Strconv.AtoiAll
import Derived.Shelf.Strconv.ErrVarAll
import Derived.WalkSmall
/- what Go's library gives: strings.IndexByte, LastIndexByte, CutSuffix, TrimSuffix, Split; strconv.Atoi -/
set_option linter.all false
set_option maxRecDepth 100000
namespace Go.Proofs.YtecllcpjjllogaaDoor
open Go.RowKit Go.Shelf
def ixBRen : Ren := ⟨fun x => if x = 137 then 33 else if x = 217 then 43 else if x = 266 then 50 else 0,
  fun x => if x = 3 then 3 else if x = 5 then 5 else if x = 9 then 9 else 0, fun x => x⟩
theorem ixBLays : Lays.n137 Tryd.prog ixBRen :=
  { mixed := by kernel_rfl
    f137 := Tryd.func33.trans (congrArg some (by kernel_rfl))
    f217 := Tryd.func43.trans (congrArg some (by kernel_rfl))
    f266 := Tryd.func50.trans (congrArg some (by kernel_rfl))
    t3 := Tryd.underlying3
    a3 := Tryd.isAgg3
    z3 := Tryd.sizeOf3
    v3 := Tryd.zeroValue3
    t5 := Tryd.underlying5
    a5 := Tryd.isAgg5
    z5 := Tryd.sizeOf5
    v5 := Tryd.zeroValue5
    t9 := Tryd.underlying9
    a9 := Tryd.isAgg9
    z9 := Tryd.sizeOf9
    v9 := Tryd.zeroValue9 }
def lixBRen : Ren := ⟨fun x => if x = 149 then 35 else if x = 222 then 45 else 0,
  fun x => if x = 3 then 3 else if x = 4 then 4 else if x = 5 then 5 else if x = 9 then 9 else 0, fun x => x⟩
theorem lixBLays : Lays.n149 Tryd.prog lixBRen :=
  { mixed := by kernel_rfl
    f149 := Tryd.func35.trans (congrArg some (by kernel_rfl))
    f222 := Tryd.func45.trans (congrArg some (by kernel_rfl))
    t3 := Tryd.underlying3
    a3 := Tryd.isAgg3
    z3 := Tryd.sizeOf3
    v3 := Tryd.zeroValue3
    t4 := Tryd.underlying4
    a4 := Tryd.isAgg4
    z4 := Tryd.sizeOf4
    v4 := Tryd.zeroValue4
    t5 := Tryd.underlying5
    a5 := Tryd.isAgg5
    z5 := Tryd.sizeOf5
    v5 := Tryd.zeroValue5
    t9 := Tryd.underlying9
    a9 := Tryd.isAgg9
    z9 := Tryd.sizeOf9
    v9 := Tryd.zeroValue9 }
def cutSRen : Ren := ⟨fun x => if x = 104 then 21 else if x = 207 then 44 else if x = 211 then 34 else 0,
  fun x => if x = 3 then 3 else if x = 4 then 4 else if x = 9 then 9 else if x = 24 then 57 else 0, fun x => x⟩
theorem cutSLays : Lays.n104 Tryd.prog cutSRen :=
  { mixed := by kernel_rfl
    f104 := Tryd.func21.trans (congrArg some (by kernel_rfl))
    f207 := Tryd.func44.trans (congrArg some (by kernel_rfl))
    f211 := Tryd.func34.trans (congrArg some (by kernel_rfl))
    t3 := Tryd.underlying3
    a3 := Tryd.isAgg3
    z3 := Tryd.sizeOf3
    v3 := Tryd.zeroValue3
    t4 := Tryd.underlying4
    a4 := Tryd.isAgg4
    z4 := Tryd.sizeOf4
    v4 := Tryd.zeroValue4
    t9 := Tryd.underlying9
    a9 := Tryd.isAgg9
    z9 := Tryd.sizeOf9
    v9 := Tryd.zeroValue9
    t24 := Tryd.underlying57
    a24 := Tryd.isAgg57
    z24 := Tryd.sizeOf57
    v24 := Tryd.zeroValue57 }
def spltRen : Ren := ⟨fun x => if x = 138 then 54 else if x = 143 then 55 else if x = 146 then 37 else if x = 195 then 65 else if x = 197 then 66 else if x = 217 then 43 else if x = 218 then 67 else if x = 219 then 68 else if x = 221 then 47 else if x = 224 then 79 else if x = 225 then 78 else if x = 260 then 77 else if x = 266 then 50 else if x = 267 then 80 else if x = 268 then 53 else if x = 314 then 85 else 0,
  fun x => if x = 0 then 0 else if x = 3 then 3 else if x = 4 then 4 else if x = 5 then 5 else if x = 9 then 9 else if x = 21 then 21 else if x = 31 then 77 else if x = 46 then 41 else if x = 51 then 104 else if x = 105 then 99 else if x = 119 then 117 else if x = 138 then 119 else if x = 139 then 120 else if x = 146 then 121 else 0, fun x => if x = 1 then 0 else if x = 3 then 4 else if x = 4 then 5 else x⟩
theorem spltLays : Lays.n146 Tryd.prog spltRen :=
  { mixed := by kernel_rfl
    f138 := Tryd.func54.trans (congrArg some (by kernel_rfl))
    f143 := Tryd.func55.trans (congrArg some (by kernel_rfl))
    f146 := Tryd.func37.trans (congrArg some (by kernel_rfl))
    f195 := Tryd.func65.trans (congrArg some (by kernel_rfl))
    f197 := Tryd.func66.trans (congrArg some (by kernel_rfl))
    f217 := Tryd.func43.trans (congrArg some (by kernel_rfl))
    f218 := Tryd.func67.trans (congrArg some (by kernel_rfl))
    f219 := Tryd.func68.trans (congrArg some (by kernel_rfl))
    f221 := Tryd.func47.trans (congrArg some (by kernel_rfl))
    f224 := Tryd.func79.trans (congrArg some (by kernel_rfl))
    f225 := Tryd.func78.trans (congrArg some (by kernel_rfl))
    f260 := Tryd.func77.trans (congrArg some (by kernel_rfl))
    f266 := Tryd.func50.trans (congrArg some (by kernel_rfl))
    f267 := Tryd.func80.trans (congrArg some (by kernel_rfl))
    f268 := Tryd.func53.trans (congrArg some (by kernel_rfl))
    f314 := Tryd.func85.trans (congrArg some (by kernel_rfl))
    t0 := Tryd.underlying0
    a0 := Tryd.isAgg0
    z0 := Tryd.sizeOf0
    v0 := Tryd.zeroValue0
    t3 := Tryd.underlying3
    a3 := Tryd.isAgg3
    z3 := Tryd.sizeOf3
    v3 := Tryd.zeroValue3
    t4 := Tryd.underlying4
    a4 := Tryd.isAgg4
    z4 := Tryd.sizeOf4
    v4 := Tryd.zeroValue4
    t5 := Tryd.underlying5
    a5 := Tryd.isAgg5
    z5 := Tryd.sizeOf5
    v5 := Tryd.zeroValue5
    t9 := Tryd.underlying9
    a9 := Tryd.isAgg9
    z9 := Tryd.sizeOf9
    v9 := Tryd.zeroValue9
    t21 := Tryd.underlying21
    a21 := Tryd.isAgg21
    z21 := Tryd.sizeOf21
    v21 := Tryd.zeroValue21
    t31 := Tryd.underlying77
    a31 := Tryd.isAgg77
    z31 := Tryd.sizeOf77
    v31 := Tryd.zeroValue77
    t46 := Tryd.underlying41
    a46 := Tryd.isAgg41
    z46 := Tryd.sizeOf41
    v46 := Tryd.zeroValue41
    t51 := Tryd.underlying104
    a51 := Tryd.isAgg104
    z51 := Tryd.sizeOf104
    v51 := Tryd.zeroValue104
    t105 := Tryd.underlying99
    a105 := Tryd.isAgg99
    z105 := Tryd.sizeOf99
    v105 := Tryd.zeroValue99
    t119 := Tryd.underlying117
    a119 := Tryd.isAgg117
    z119 := Tryd.sizeOf117
    t138 := Tryd.underlying119
    a138 := Tryd.isAgg119
    z138 := Tryd.sizeOf119
    v138 := Tryd.zeroValue119
    t139 := Tryd.underlying120
    a139 := Tryd.isAgg120
    z139 := Tryd.sizeOf120
    v139 := Tryd.zeroValue120
    t146 := Tryd.underlying121
    a146 := Tryd.isAgg121
    z146 := Tryd.sizeOf121
    v146 := Tryd.zeroValue121
    g1 := by kernel_rfl
    g3 := by kernel_rfl
    g4 := by kernel_rfl }
def atoiRen : Ren := ⟨fun x => if x = 129 then 70 else if x = 171 then 29 else if x = 172 then 46 else if x = 205 then 76 else if x = 243 then 41 else if x = 244 then 51 else if x = 245 then 52 else if x = 246 then 48 else if x = 247 then 60 else if x = 279 then 61 else if x = 280 then 62 else if x = 281 then 63 else if x = 282 then 64 else if x = 283 then 56 else if x = 284 then 57 else if x = 285 then 58 else if x = 286 then 59 else if x = 287 then 74 else if x = 316 then 75 else if x = 317 then 69 else if x = 318 then 71 else if x = 319 then 72 else if x = 320 then 73 else if x = 321 then 83 else if x = 322 then 84 else if x = 337 then 81 else if x = 338 then 82 else 0,
  fun x => if x = 0 then 0 else if x = 2 then 2 else if x = 3 then 3 else if x = 4 then 4 else if x = 5 then 5 else if x = 9 then 9 else if x = 20 then 20 else if x = 21 then 21 else if x = 37 then 45 else if x = 46 then 41 else if x = 51 then 104 else if x = 53 then 88 else if x = 75 then 26 else if x = 76 then 35 else if x = 80 then 28 else if x = 85 then 94 else if x = 127 then 72 else if x = 143 then 114 else if x = 145 then 116 else if x = 167 then 93 else if x = 168 then 96 else if x = 171 then 87 else if x = 173 then 91 else if x = 175 then 107 else if x = 210 then 111 else if x = 212 then 103 else if x = 213 then 105 else if x = 232 then 123 else if x = 233 then 124 else 0, fun x => if x = 15 then 2 else if x = 16 then 3 else if x = 17 then 1 else if x = 18 then 6 else if x = 19 then 7 else x⟩
theorem atoiLays : LaysC.n172 Tryd.prog atoiRen :=
  { mixed := by kernel_rfl
    f129 := Tryd.func70.trans (congrArg some (by kernel_rfl))
    f171 := Tryd.func29.trans (congrArg some (by kernel_rfl))
    f172 := Tryd.func46.trans (congrArg some (by kernel_rfl))
    f205 := Tryd.func76.trans (congrArg some (by kernel_rfl))
    f243 := Tryd.func41.trans (congrArg some (by kernel_rfl))
    f244 := Tryd.func51.trans (congrArg some (by kernel_rfl))
    f245 := Tryd.func52.trans (congrArg some (by kernel_rfl))
    f246 := Tryd.func48.trans (congrArg some (by kernel_rfl))
    f247 := Tryd.func60.trans (congrArg some (by kernel_rfl))
    f279 := Tryd.func61.trans (congrArg some (by kernel_rfl))
    f280 := Tryd.func62.trans (congrArg some (by kernel_rfl))
    f281 := Tryd.func63.trans (congrArg some (by kernel_rfl))
    f282 := Tryd.func64.trans (congrArg some (by kernel_rfl))
    f283 := Tryd.func56.trans (congrArg some (by kernel_rfl))
    f284 := Tryd.func57.trans (congrArg some (by kernel_rfl))
    f285 := Tryd.func58.trans (congrArg some (by kernel_rfl))
    f286 := Tryd.func59.trans (congrArg some (by kernel_rfl))
    f287 := Tryd.func74.trans (congrArg some (by kernel_rfl))
    f316 := Tryd.func75.trans (congrArg some (by kernel_rfl))
    f317 := Tryd.func69.trans (congrArg some (by kernel_rfl))
    f318 := Tryd.func71.trans (congrArg some (by kernel_rfl))
    f319 := Tryd.func72.trans (congrArg some (by kernel_rfl))
    f320 := Tryd.func73.trans (congrArg some (by kernel_rfl))
    f321 := Tryd.func83.trans (congrArg some (by kernel_rfl))
    f322 := Tryd.func84.trans (congrArg some (by kernel_rfl))
    f337 := Tryd.func81.trans (congrArg some (by kernel_rfl))
    f338 := Tryd.func82.trans (congrArg some (by kernel_rfl))
    t0 := Tryd.underlying0
    a0 := Tryd.isAgg0
    z0 := Tryd.sizeOf0
    v0 := Tryd.zeroValue0
    t2 := Tryd.underlying2
    a2 := Tryd.isAgg2
    z2 := Tryd.sizeOf2
    v2 := Tryd.zeroValue2
    t3 := Tryd.underlying3
    a3 := Tryd.isAgg3
    z3 := Tryd.sizeOf3
    v3 := Tryd.zeroValue3
    t4 := Tryd.underlying4
    a4 := Tryd.isAgg4
    z4 := Tryd.sizeOf4
    v4 := Tryd.zeroValue4
    t5 := Tryd.underlying5
    a5 := Tryd.isAgg5
    z5 := Tryd.sizeOf5
    v5 := Tryd.zeroValue5
    t9 := Tryd.underlying9
    a9 := Tryd.isAgg9
    z9 := Tryd.sizeOf9
    v9 := Tryd.zeroValue9
    t20 := Tryd.underlying20
    a20 := Tryd.isAgg20
    z20 := Tryd.sizeOf20
    v20 := Tryd.zeroValue20
    t21 := Tryd.underlying21
    a21 := Tryd.isAgg21
    z21 := Tryd.sizeOf21
    v21 := Tryd.zeroValue21
    t37 := Tryd.underlying45
    a37 := Tryd.isAgg45
    z37 := Tryd.sizeOf45
    v37 := Tryd.zeroValue45
    t46 := Tryd.underlying41
    a46 := Tryd.isAgg41
    z46 := Tryd.sizeOf41
    v46 := Tryd.zeroValue41
    t51 := Tryd.underlying104
    a51 := Tryd.isAgg104
    z51 := Tryd.sizeOf104
    v51 := Tryd.zeroValue104
    t53 := Tryd.underlying88
    a53 := Tryd.isAgg88
    z53 := Tryd.sizeOf88
    v53 := Tryd.zeroValue88
    t75 := Tryd.underlying26
    a75 := Tryd.isAgg26
    z75 := Tryd.sizeOf26
    v75 := Tryd.zeroValue26
    t76 := Tryd.underlying35
    a76 := Tryd.isAgg35
    z76 := Tryd.sizeOf35
    v76 := Tryd.zeroValue35
    t85 := Tryd.underlying94
    a85 := Tryd.isAgg94
    z85 := Tryd.sizeOf94
    v85 := Tryd.zeroValue94
    t127 := Tryd.underlying72
    a127 := Tryd.isAgg72
    z127 := Tryd.sizeOf72
    v127 := Tryd.zeroValue72
    t143 := Tryd.underlying114
    a143 := Tryd.isAgg114
    z143 := Tryd.sizeOf114
    v143 := Tryd.zeroValue114
    t145 := Tryd.underlying116
    a145 := Tryd.isAgg116
    z145 := Tryd.sizeOf116
    v145 := Tryd.zeroValue116
    t167 := Tryd.underlying93
    a167 := Tryd.isAgg93
    z167 := Tryd.sizeOf93
    v167 := Tryd.zeroValue93
    t168 := Tryd.underlying96
    a168 := Tryd.isAgg96
    z168 := Tryd.sizeOf96
    v168 := Tryd.zeroValue96
    t171 := Tryd.underlying87
    a171 := Tryd.isAgg87
    z171 := Tryd.sizeOf87
    v171 := Tryd.zeroValue87
    t173 := Tryd.underlying91
    a173 := Tryd.isAgg91
    z173 := Tryd.sizeOf91
    v173 := Tryd.zeroValue91
    t175 := Tryd.underlying107
    a175 := Tryd.isAgg107
    z175 := Tryd.sizeOf107
    v175 := Tryd.zeroValue107
    t210 := Tryd.underlying111
    a210 := Tryd.isAgg111
    z210 := Tryd.sizeOf111
    v210 := Tryd.zeroValue111
    t212 := Tryd.underlying103
    a212 := Tryd.isAgg103
    z212 := Tryd.sizeOf103
    v212 := Tryd.zeroValue103
    t213 := Tryd.underlying105
    a213 := Tryd.isAgg105
    z213 := Tryd.sizeOf105
    t232 := Tryd.underlying123
    a232 := Tryd.isAgg123
    z232 := Tryd.sizeOf123
    v232 := Tryd.zeroValue123
    t233 := Tryd.underlying124
    a233 := Tryd.isAgg124
    z233 := Tryd.sizeOf124
    v233 := Tryd.zeroValue124
    g15 := by kernel_rfl
    g16 := by kernel_rfl
    g17 := by kernel_rfl
    g18 := by kernel_rfl
    g19 := by kernel_rfl
    t80 := Tryd.underlying28
    a80 := Tryd.isAgg28
    z80 := Tryd.sizeOf28
    v80 := Tryd.zeroValue28
    i0 := by kernel_rfl
    i2 := by kernel_rfl
    i3 := by kernel_rfl
    i4 := by kernel_rfl
    i5 := by kernel_rfl
    i9 := by kernel_rfl
    i20 := by kernel_rfl
    i21 := by kernel_rfl
    i37 := by kernel_rfl
    i46 := by kernel_rfl
    i51 := by kernel_rfl
    i53 := by kernel_rfl
    i75 := by kernel_rfl
    i76 := by kernel_rfl
    i80 := by kernel_rfl
    i85 := by kernel_rfl
    i127 := by kernel_rfl
    i143 := by kernel_rfl
    i145 := by kernel_rfl
    i167 := by kernel_rfl
    i168 := by kernel_rfl
    i171 := by kernel_rfl
    i173 := by kernel_rfl
    i175 := by kernel_rfl
    i210 := by kernel_rfl
    i212 := by kernel_rfl
    i232 := by kernel_rfl
    i233 := by kernel_rfl
    m15 := by kernel_rfl
    m16 := by kernel_rfl
    m17 := by kernel_rfl
    m18 := by kernel_rfl
    m19 := by kernel_rfl
    c0 := by kernel_rfl
    c2 := by kernel_rfl
    c3 := by kernel_rfl
    c4 := by kernel_rfl
    c5 := by kernel_rfl
    c9 := by kernel_rfl
    c20 := by kernel_rfl
    c21 := by kernel_rfl
    c37 := by kernel_rfl
    c46 := by kernel_rfl
    c51 := by kernel_rfl
    c53 := by kernel_rfl
    c75 := by kernel_rfl
    c76 := by kernel_rfl
    c80 := by kernel_rfl
    c85 := by kernel_rfl
    c127 := by kernel_rfl
    c143 := by kernel_rfl
    c145 := by kernel_rfl
    c167 := by kernel_rfl
    c168 := by kernel_rfl
    c171 := by kernel_rfl
    c173 := by kernel_rfl
    c175 := by kernel_rfl
    c210 := by kernel_rfl
    c212 := by kernel_rfl
    c213 := by kernel_rfl
    c232 := by kernel_rfl
    c233 := by kernel_rfl }
theorem ixB_ok (s : ByteArray) (c : Int) (w : World) :
    Calls Tryd.prog 33 #[.string s, .int .u8 c] w fun e w' => e = .returned (.int .i64 (Lib.indexByte s.data.toList c.toNat.toUInt8)) ∧ w' = w := Any.strings_IndexByte ixBLays s c w
theorem lixB_ok (s : ByteArray) (c : Int) (hs : s.size < 4611686018427387904) (w : World) :
    Calls Tryd.prog 35 #[.string s, .int .u8 c] w fun e w' => e = .returned (.int .i64 (Lib.lastIndexByte s c)) ∧ w' = w := Any.strings_LastIndexByte lixBLays s c hs w
theorem cutS_ok (s p : ByteArray) (w : World) (hs : s.size ≤ 9223372036854775807) :
    Calls Tryd.prog 21 #[.string s, .string p] w fun e w' => e = .returned (.tuple #[.string ⟨(Lib.trimSuffix s.data.toList p.data.toList).toArray⟩, .bool (Lib.hasSuffix s.data.toList p.data.toList)]) ∧ w' = w := Any.strings_CutSuffix cutSLays s p w hs
/-- what the library's variables hold, below B -/
structure OpB (B : Nat) (w : World) : Prop where
  tab : TabB B w
  syn : ∃ tp p, w.var? Tryd.prog "strconv.ErrSyntax" = some #[.iface tp p]
  rng : ∃ tp p, w.var? Tryd.prog "strconv.ErrRange" = some #[.iface tp p]
  max : ∃ m, w.cell? ⟨0, 0, none⟩ = some (.int .i64 m)
  hs : 2 < B
  hr : 3 < B
  hm : 0 < B
theorem OpB.go {B : Nat} {w W : World} (h : OpB B w) (hb : Below B w W) : OpB B W :=
  ⟨h.tab.go hb, let ⟨tp, p, q⟩ := h.syn; ⟨tp, p, var?_below hb (by kernel_rfl) h.hs q⟩, let ⟨tp, p, q⟩ := h.rng; ⟨tp, p, var?_below hb (by kernel_rfl) h.hr q⟩,
    let ⟨m, q⟩ := h.max; ⟨m, (hb.cell (p := ⟨0, 0, none⟩) h.hm).trans q⟩, h.hs, h.hr, h.hm⟩
theorem OpB.mono {B C : Nat} {w : World} (h : OpB B w) (hBC : B ≤ C) : OpB C w :=
  ⟨⟨h.tab.1, Nat.lt_of_lt_of_le h.tab.2 hBC⟩, h.syn, h.rng, h.max, Nat.lt_of_lt_of_le h.hs hBC, Nat.lt_of_lt_of_le h.hr hBC, Nat.lt_of_lt_of_le h.hm hBC⟩
theorem splt_ok {B : Nat} (s sep : ByteArray) (w : World) (h : OpB B w) (hs : s.size < 4294967281) (h1 : 1 ≤ sep.size) :
    Calls Tryd.prog 37 #[.string s, .string sep] w fun e w' =>
      e = .returned (.slice (some ⟨w.heap.size, 0, none⟩) (Lib.countB s sep + 1) (Lib.countB s sep + 1)) ∧ w' = w.alloc (.cells ((Lib.splitB sep 0 (Lib.countB s sep) s).map Value.string).toArray 9) :=
  let ⟨m, hm⟩ := h.max
  Any.strings_Split spltLays (by kernel_rfl) s sep m w hs hm h1
/-- what Atoi tells: the number (if there is one), and whether there is one -/
def atoiM (s : ByteArray) : Int × Bool := match Lib.atoiAll s.data.toList with
  | .ok v => (v, true)
  | .range => (Lib.atoiSat s.data.toList, false)
  | _ => (0, false)
theorem atoi_ok {B : Nat} (s : ByteArray) (w : World) (h : OpB B w) (hs : s.size ≤ 281474976710656) :
    Calls Tryd.prog 46 #[.string s] w fun e w' => Below w.heap.size w w' ∧
      (((atoiM s).2 = true ∧ e = .returned (.tuple #[.int .i64 (atoiM s).1, .nilIface])) ∨ ((atoiM s).2 = false ∧ ∃ tp N, e = .returned (.tuple #[.int .i64 (atoiM s).1, .iface tp (.pointer (some ⟨N, 0, none⟩))]))) := by
  unfold atoiM
  cases hq : Lib.atoiAll s.data.toList with
  | ok v =>
    refine (Any.strconv_Atoi_ok atoiLays s (by omega) v hq w).mono ?_
    rintro e w' ⟨rfl, hw⟩
    refine ⟨?_, .inl ⟨rfl, rfl⟩⟩
    rcases hw with rfl | ⟨t, rfl⟩
    · exact Below.refl _ _
    · exact Lib.bytesWorld_below _ _ _
  | range =>
    obtain ⟨tp, p, hv⟩ := h.rng
    refine (Any.strconv_Atoi_range_var atoiLays s hs hq tp p w hv).mono ?_
    rintro e w' ⟨N, rfl, _, _, hb⟩
    exact ⟨hb, .inr ⟨rfl, _, N, rfl⟩⟩
  | _ =>
    obtain ⟨tp, p, hv⟩ := h.syn
    refine (Any.strconv_Atoi_syntax_var atoiLays s hs hq tp p w hv).mono ?_
    rintro e w' ⟨N, rfl, _, _, hb⟩
    exact ⟨hb, .inr ⟨rfl, _, N, rfl⟩⟩
/-- a number as it is written down -/
def numM (s : ByteArray) : Int × Bool := ((atoiM s).1, (atoiM s).2 && (decide (0 ≤ (atoiM s).1) && (dec (atoiM s).1).toList == s.toList))
theorem num_ok {B : Nat} (s : ByteArray) (w : World) (h : OpB B w) (hB : B ≤ w.heap.size) (hs : s.size ≤ 281474976710656) :
    Calls Tryd.prog 36 #[.string s] w fun e w' => e = .returned (.tuple #[.int .i64 (numM s).1, .bool (numM s).2]) ∧ Below w.heap.size w w' := by
  have HC := Lib.hid (atoi_ok s w h hs)
  have HH := Lib.hid h; clear h
  unfold numM
  go_enter Tryd.func36, Tryd.ntmps36
  go_wp2_with fail
  refine HC.out.mono ?_; rintro e W ⟨hb, (⟨h2, rfl⟩ | ⟨h2, tp, N, rfl⟩)⟩
  · generalize hv : (atoiM s).1 = v at *
    by_cases h0 : 0 ≤ v
    · have hd := decide_eq_true h0
      have hmx : v ≤ 9223372036854775807 := by
        rw [← hv]
        unfold atoiM
        cases hq : Lib.atoiAll s.data.toList with
        | ok u => have := Lib.atoiAll_bounds hq; dsimp only; omega
        | range => have := Lib.atoiSat_bounds s.data.toList; dsimp only; omega
        | _ => dsimp only; omega
      have HI := Lib.hid (mItoa_ok (n := v) W (HH.out.go (hb.mono hB)).tab.1 (by unfold mItoa; rw [if_pos ⟨h0, hmx⟩]))
      go_wp2_with fail
      refine HI.out.mono ?_; rintro e W2 ⟨rfl, hb2⟩
      go_wp2_with fail
      go_ret2
      refine ⟨?_, hb.trans (hb2.mono hb.size)⟩
      rw [h2, hv, hd]; rfl
    · have hd := decide_eq_false h0
      go_wp2_with fail
      go_ret2
      refine ⟨?_, hb⟩
      rw [h2, hv, hd]; rfl
  · go_wp2_with fail
    go_ret2
    exact ⟨by rw [h2]; rfl, hb⟩
end Go.Proofs.YtecllcpjjllogaaDoor
