import Derived.Test.YtgnbholhgcbhfaaDoorStr
import Derived.Test.YtgnbholhgcbhfaaDoorClo
import Derived.Shelf.Sort.Plain
import Derived.Shelf.Slices.In.SortNone
import Derived.Sort.OwnSorted
/- slices.Sort of strings; what is asked of a function that compares two strings -/
set_option linter.all false
set_option maxRecDepth 100000
namespace Go.Proofs.YtgnbholhgcbhfaaDoor
open Go.RowKit Go.Shelf Go.Lib Go.Sort
/-- called at two strings in each later world it gives p x y, and what lay lies still -/
def PredS (P : Program) (g : Nat) (lb : Array Value) (p : ByteArray → ByteArray → Option Int) (w : World) : Prop :=
  ∀ (W : World) (x y : ByteArray) (b : Int), Below w.heap.size w W → p x y = some b → Calls P g (#[.string x, .string y] ++ lb) W fun e w' => e = .returned (.int .i64 b) ∧ Below W.heap.size W w'
theorem PredS.at {P : Program} {g : Nat} {lb : Array Value} {p : ByteArray → ByteArray → Option Int} {w W : World} (h : PredS P g lb p w) (hb : Below w.heap.size w W) : PredS P g lb p W :=
  fun W' x y b hB hq => h W' x y b (hb.trans (hB.mono hb.size)) hq
/-- a string as the list of its bytes -/
def bl (s : ByteArray) : List UInt8 := s.data.toList
def lb (l : List UInt8) : ByteArray := ⟨l.toArray⟩
theorem lb_bl (s : ByteArray) : lb (bl s) = s := by cases s; simp [lb, bl]
theorem bl_lb (l : List UInt8) : bl (lb l) = l := by simp [lb, bl]
theorem enc_bl (s : ByteArray) : encStr (bl s) = .string s := by show Value.string (lb (bl s)) = _; rw [lb_bl]
theorem strV_enc (l : List ByteArray) : strV l = (l.map bl).map encStr := by
  unfold strV; rw [List.map_map]; exact List.map_congr_left fun s _ => (enc_bl s).symm
/-- slices.Sort -/
def slSortS (l : List ByteArray) : Option (List ByteArray) := if l.length ≤ 100 then some (((l.map bl).mergeSort fun x y => decide (x ≤ y)).map lb) else none
def srtSRen : Ren := ⟨fun x => if x = 125 then 50 else if x = 128 then 63 else if x = 129 then 64 else if x = 190 then 39 else if x = 258 then 49 else if x = 302 then 54 else if x = 303 then 55 else if x = 304 then 56 else if x = 305 then 57 else if x = 306 then 58 else if x = 307 then 59 else if x = 308 then 60 else if x = 309 then 61 else if x = 310 then 62 else if x = 329 then 66 else if x = 330 then 67 else if x = 333 then 65 else if x = 334 then 68 else if x = 335 then 69 else if x = 336 then 40 else if x = 344 then 70 else 0,
  fun x => if x = 0 then 0 else if x = 3 then 3 else if x = 4 then 4 else if x = 5 then 5 else if x = 9 then 9 else if x = 31 then 55 else if x = 46 then 45 else if x = 51 then 112 else if x = 53 then 114 else if x = 131 then 109 else if x = 182 then 104 else if x = 183 then 105 else if x = 218 then 115 else if x = 222 then 119 else if x = 228 then 121 else if x = 229 then 122 else 0, fun x => x⟩
theorem srtSLays : Lays.n190 Tryd.prog srtSRen :=
  { mixed := by kernel_rfl
    f125 := Tryd.func50.trans (congrArg some (by kernel_rfl))
    f128 := Tryd.func63.trans (congrArg some (by kernel_rfl))
    f129 := Tryd.func64.trans (congrArg some (by kernel_rfl))
    f190 := Tryd.func39.trans (congrArg some (by kernel_rfl))
    f258 := Tryd.func49.trans (congrArg some (by kernel_rfl))
    f302 := Tryd.func54.trans (congrArg some (by kernel_rfl))
    f303 := Tryd.func55.trans (congrArg some (by kernel_rfl))
    f304 := Tryd.func56.trans (congrArg some (by kernel_rfl))
    f305 := Tryd.func57.trans (congrArg some (by kernel_rfl))
    f306 := Tryd.func58.trans (congrArg some (by kernel_rfl))
    f307 := Tryd.func59.trans (congrArg some (by kernel_rfl))
    f308 := Tryd.func60.trans (congrArg some (by kernel_rfl))
    f309 := Tryd.func61.trans (congrArg some (by kernel_rfl))
    f310 := Tryd.func62.trans (congrArg some (by kernel_rfl))
    f329 := Tryd.func66.trans (congrArg some (by kernel_rfl))
    f330 := Tryd.func67.trans (congrArg some (by kernel_rfl))
    f333 := Tryd.func65.trans (congrArg some (by kernel_rfl))
    f334 := Tryd.func68.trans (congrArg some (by kernel_rfl))
    f335 := Tryd.func69.trans (congrArg some (by kernel_rfl))
    f336 := Tryd.func40.trans (congrArg some (by kernel_rfl))
    f344 := Tryd.func70.trans (congrArg some (by kernel_rfl))
    t0 := Tryd.underlying0
    a0 := Tryd.isAgg0
    z0 := Tryd.sizeOf0
    v0 := Tryd.zeroValue0
    t3 := Tryd.underlying3
    a3 := Tryd.isAgg3
    z3 := Tryd.sizeOf3
    v3 := Tryd.zeroValue3
    t4 := Tryd.underlying4
    a4 := Tryd.isAgg4
    z4 := Tryd.sizeOf4
    v4 := Tryd.zeroValue4
    t5 := Tryd.underlying5
    a5 := Tryd.isAgg5
    z5 := Tryd.sizeOf5
    v5 := Tryd.zeroValue5
    t9 := Tryd.underlying9
    a9 := Tryd.isAgg9
    z9 := Tryd.sizeOf9
    v9 := Tryd.zeroValue9
    t31 := Tryd.underlying55
    a31 := Tryd.isAgg55
    z31 := Tryd.sizeOf55
    v31 := Tryd.zeroValue55
    t46 := Tryd.underlying45
    a46 := Tryd.isAgg45
    z46 := Tryd.sizeOf45
    v46 := Tryd.zeroValue45
    t51 := Tryd.underlying112
    a51 := Tryd.isAgg112
    z51 := Tryd.sizeOf112
    v51 := Tryd.zeroValue112
    t53 := Tryd.underlying114
    a53 := Tryd.isAgg114
    z53 := Tryd.sizeOf114
    v53 := Tryd.zeroValue114
    t131 := Tryd.underlying109
    a131 := Tryd.isAgg109
    z131 := Tryd.sizeOf109
    v131 := Tryd.zeroValue109
    t182 := Tryd.underlying104
    a182 := Tryd.isAgg104
    z182 := Tryd.sizeOf104
    v182 := Tryd.zeroValue104
    t183 := Tryd.underlying105
    a183 := Tryd.isAgg105
    z183 := Tryd.sizeOf105
    v183 := Tryd.zeroValue105
    t218 := Tryd.underlying115
    a218 := Tryd.isAgg115
    z218 := Tryd.sizeOf115
    v218 := Tryd.zeroValue115
    t222 := Tryd.underlying119
    a222 := Tryd.isAgg119
    z222 := Tryd.sizeOf119
    v222 := Tryd.zeroValue119
    t228 := Tryd.underlying121
    a228 := Tryd.isAgg121
    z228 := Tryd.sizeOf121
    v228 := Tryd.zeroValue121
    t229 := Tryd.underlying122
    a229 := Tryd.isAgg122
    z229 := Tryd.sizeOf122
    v229 := Tryd.zeroValue122 }
theorem sortS_ok {B : Nat} {v : Value} {l : List ByteArray} (W : World) (h : Ow.ok W B (owS v l)) (hB : B ≤ W.heap.size) (hl : l.length ≤ 100) :
    Calls Tryd.prog 39 #[v] W fun e w' => e = .returned (.tuple #[]) ∧ Ow.ok w' B (owS v (((l.map bl).mergeSort fun x y => decide (x ≤ y)).map lb)) ∧ W.grownBy w' v.ownBlock := by
  rcases h.2 with ⟨hv, hn⟩ | ⟨g, cap, cur, hv, hg1, hg2, hg3, hg4, hg5, hg6⟩
  · have h0 : l.length = 0 := hn
    have hv : v = .slice none 0 0 := hv
    have : l = [] := List.eq_nil_of_length_eq_zero h0
    subst this; subst hv
    refine (Any.slices_Sort_string_none srtSLays none 0 W).mono ?_
    rintro e w' ⟨rfl, rfl⟩
    have e0 : (([] : List ByteArray).map bl).mergeSort (fun x y => decide (x ≤ y)) = [] := by simp
    rw [e0]
    exact ⟨rfl, World.ownsRow_nil _ _ _ _, ⟨rfl, rfl, rfl, Nat.le_refl _, fun _ _ _ => rfl⟩⟩
  · have hv' : v = .slice (some ⟨g, 0, none⟩) l.length cap := hv
    subst hv'
    have hll : (l.map bl).length = l.length := List.length_map ..
    have h6 : cur.toList.take (l.map bl).length = (l.map bl).map encStr := by
      have : cur.toList.take (l.length * 1) = strV l := hg6
      rw [hll, ← strV_enc]; rwa [Nat.mul_one] at this
    have hgW : g < W.heap.size := (Array.getElem?_eq_some_iff.1 hg2).1
    have hc := Any.slices_Sort_string srtSLays g 0 cap (l.map bl) W (holds_of_block hg2 h6) hgW (by omega)
    rw [hll] at hc
    refine hc.mono ?_
    rintro e w' ⟨rfl, n, os, rfl⟩
    have hml : ((l.map bl).mergeSort fun x y => decide (x ≤ y)).length = (l.map bl).length := List.length_mergeSort _
    refine ⟨rfl, ?_, grownBy_sorted _⟩
    have hg3' : (l.map bl).length ≤ cap := by rw [hll]; exact hg3
    have hs := ownsRow_sorted (os := os) (n := n) (ts := (l.map bl).mergeSort fun x y => decide (x ≤ y)) (ss := l.map bl) hml hg1 hg2 hg3' hg4 hg5
    show World.ownsRow _ B 9 1 (.slice (some ⟨g, 0, none⟩) l.length cap) (((l.map bl).mergeSort fun x y => decide (x ≤ y)).map lb).length (strV (((l.map bl).mergeSort fun x y => decide (x ≤ y)).map lb))
    have hid : ∀ L : List (List UInt8), (L.map lb).map bl = L := fun L => by rw [List.map_map]; exact (List.map_congr_left fun x _ => bl_lb x).trans (List.map_id _)
    rw [strV_enc, hid, List.length_map, hml, hll]
    rw [hll] at hs; exact hs
theorem hp_sortS {W : World} {B : Nat} {its1 its2 : List It} {v : Value} {l r : List ByteArray} (h : HP W B (its1 ++ .fl (owS v l) :: its2)) (hB : B ≤ W.heap.size) (hs : slSortS l = some r) :
    Calls Tryd.prog 39 #[v] W fun e w' => e = .returned (.tuple #[]) ∧ HP w' B (its1 ++ .fl (owS v r) :: its2) ∧ Below B W w' ∧ NC W w' := by
  obtain ⟨hl, rfl⟩ := s_of hs
  have hok := h.get (o := owS v l) (by simp)
  obtain ⟨M1, M2, h1, h2⟩ := h.getAt
  refine (sortS_ok W hok hB hl).mono ?_
  rintro e w' ⟨rfl, ho, hg⟩
  refine ⟨rfl, h2 _ _ (h1.upd hg ho (.inl rfl)), (Below.refl _ _).grown hg hB (fun k hk => (World.ownsRow.lt hok k hk).1), NC.grown hg fun g hg' => own_cells hok hg'⟩
end Go.Proofs.YtgnbholhgcbhfaaDoor
