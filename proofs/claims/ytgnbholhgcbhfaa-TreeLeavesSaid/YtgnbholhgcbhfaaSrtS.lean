import Derived.Test.YtgnbholhgcbhfaaStr
import Derived.Test.YtgnbholhgcbhfaaClo
import Derived.Shelf.Sort.Plain
import Derived.Shelf.Slices.In.SortNone
import Derived.Sort.OwnSorted
/- slices.Sort of strings; what is asked of a function that compares two strings -/
set_option linter.all false
set_option maxRecDepth 100000
namespace Go.Proofs.Ytgnbholhgcbhfaa
open Go.RowKit Go.Shelf Go.Lib Go.Sort
/-- called at two strings in each later world it gives p x y, and what lay lies still -/
def PredS (P : Program) (g : Nat) (lb : Array Value) (p : ByteArray → ByteArray → Option Int) (w : World) : Prop :=
  ∀ (W : World) (x y : ByteArray) (b : Int), Below w.heap.size w W → p x y = some b → Calls P g (#[.string x, .string y] ++ lb) W fun e w' => e = .returned (.int .i64 b) ∧ Below W.heap.size W w'
theorem PredS.at {P : Program} {g : Nat} {lb : Array Value} {p : ByteArray → ByteArray → Option Int} {w W : World} (h : PredS P g lb p w) (hb : Below w.heap.size w W) : PredS P g lb p W :=
  fun W' x y b hB hq => h W' x y b (hb.trans (hB.mono hb.size)) hq
/-- a string as the list of its bytes -/
def bl (s : ByteArray) : List UInt8 := s.data.toList
def lb (l : List UInt8) : ByteArray := ⟨l.toArray⟩
theorem lb_bl (s : ByteArray) : lb (bl s) = s := by cases s; simp [lb, bl]
theorem bl_lb (l : List UInt8) : bl (lb l) = l := by simp [lb, bl]
theorem enc_bl (s : ByteArray) : encStr (bl s) = .string s := by show Value.string (lb (bl s)) = _; rw [lb_bl]
theorem strV_enc (l : List ByteArray) : strV l = (l.map bl).map encStr := by
  unfold strV; rw [List.map_map]; exact List.map_congr_left fun s _ => (enc_bl s).symm
/-- slices.Sort -/
def slSortS (l : List ByteArray) : Option (List ByteArray) := if l.length ≤ 100 then some (((l.map bl).mergeSort fun x y => decide (x ≤ y)).map lb) else none
def srtSRen : Ren := ⟨fun x => if x = 125 then 50 else if x = 128 then 61 else if x = 129 then 62 else if x = 190 then 43 else if x = 258 then 49 else if x = 302 then 52 else if x = 303 then 53 else if x = 304 then 54 else if x = 305 then 55 else if x = 306 then 56 else if x = 307 then 57 else if x = 308 then 58 else if x = 309 then 59 else if x = 310 then 60 else if x = 329 then 64 else if x = 330 then 65 else if x = 333 then 63 else if x = 334 then 66 else if x = 335 then 67 else if x = 336 then 44 else if x = 344 then 68 else 0,
  fun x => if x = 0 then 0 else if x = 3 then 3 else if x = 4 then 4 else if x = 5 then 5 else if x = 9 then 9 else if x = 31 then 52 else if x = 46 then 62 else if x = 51 then 88 else if x = 53 then 90 else if x = 131 then 85 else if x = 182 then 79 else if x = 183 then 80 else if x = 218 then 91 else if x = 222 then 95 else if x = 228 then 97 else if x = 229 then 98 else 0, fun x => x⟩
theorem srtSLays : Lays.n190 Try.prog srtSRen :=
  { mixed := by kernel_rfl
    f125 := Try.func50.trans (congrArg some (by kernel_rfl))
    f128 := Try.func61.trans (congrArg some (by kernel_rfl))
    f129 := Try.func62.trans (congrArg some (by kernel_rfl))
    f190 := Try.func43.trans (congrArg some (by kernel_rfl))
    f258 := Try.func49.trans (congrArg some (by kernel_rfl))
    f302 := Try.func52.trans (congrArg some (by kernel_rfl))
    f303 := Try.func53.trans (congrArg some (by kernel_rfl))
    f304 := Try.func54.trans (congrArg some (by kernel_rfl))
    f305 := Try.func55.trans (congrArg some (by kernel_rfl))
    f306 := Try.func56.trans (congrArg some (by kernel_rfl))
    f307 := Try.func57.trans (congrArg some (by kernel_rfl))
    f308 := Try.func58.trans (congrArg some (by kernel_rfl))
    f309 := Try.func59.trans (congrArg some (by kernel_rfl))
    f310 := Try.func60.trans (congrArg some (by kernel_rfl))
    f329 := Try.func64.trans (congrArg some (by kernel_rfl))
    f330 := Try.func65.trans (congrArg some (by kernel_rfl))
    f333 := Try.func63.trans (congrArg some (by kernel_rfl))
    f334 := Try.func66.trans (congrArg some (by kernel_rfl))
    f335 := Try.func67.trans (congrArg some (by kernel_rfl))
    f336 := Try.func44.trans (congrArg some (by kernel_rfl))
    f344 := Try.func68.trans (congrArg some (by kernel_rfl))
    t0 := Try.underlying0
    a0 := Try.isAgg0
    z0 := Try.sizeOf0
    v0 := Try.zeroValue0
    t3 := Try.underlying3
    a3 := Try.isAgg3
    z3 := Try.sizeOf3
    v3 := Try.zeroValue3
    t4 := Try.underlying4
    a4 := Try.isAgg4
    z4 := Try.sizeOf4
    v4 := Try.zeroValue4
    t5 := Try.underlying5
    a5 := Try.isAgg5
    z5 := Try.sizeOf5
    v5 := Try.zeroValue5
    t9 := Try.underlying9
    a9 := Try.isAgg9
    z9 := Try.sizeOf9
    v9 := Try.zeroValue9
    t31 := Try.underlying52
    a31 := Try.isAgg52
    z31 := Try.sizeOf52
    v31 := Try.zeroValue52
    t46 := Try.underlying62
    a46 := Try.isAgg62
    z46 := Try.sizeOf62
    v46 := Try.zeroValue62
    t51 := Try.underlying88
    a51 := Try.isAgg88
    z51 := Try.sizeOf88
    v51 := Try.zeroValue88
    t53 := Try.underlying90
    a53 := Try.isAgg90
    z53 := Try.sizeOf90
    v53 := Try.zeroValue90
    t131 := Try.underlying85
    a131 := Try.isAgg85
    z131 := Try.sizeOf85
    v131 := Try.zeroValue85
    t182 := Try.underlying79
    a182 := Try.isAgg79
    z182 := Try.sizeOf79
    v182 := Try.zeroValue79
    t183 := Try.underlying80
    a183 := Try.isAgg80
    z183 := Try.sizeOf80
    v183 := Try.zeroValue80
    t218 := Try.underlying91
    a218 := Try.isAgg91
    z218 := Try.sizeOf91
    v218 := Try.zeroValue91
    t222 := Try.underlying95
    a222 := Try.isAgg95
    z222 := Try.sizeOf95
    v222 := Try.zeroValue95
    t228 := Try.underlying97
    a228 := Try.isAgg97
    z228 := Try.sizeOf97
    v228 := Try.zeroValue97
    t229 := Try.underlying98
    a229 := Try.isAgg98
    z229 := Try.sizeOf98
    v229 := Try.zeroValue98 }
theorem sortS_ok {B : Nat} {v : Value} {l : List ByteArray} (W : World) (h : Ow.ok W B (owS v l)) (hB : B ≤ W.heap.size) (hl : l.length ≤ 100) :
    Calls Try.prog 43 #[v] W fun e w' => e = .returned (.tuple #[]) ∧ Ow.ok w' B (owS v (((l.map bl).mergeSort fun x y => decide (x ≤ y)).map lb)) ∧ W.grownBy w' v.ownBlock := by
  rcases h.2 with ⟨hv, hn⟩ | ⟨g, cap, cur, hv, hg1, hg2, hg3, hg4, hg5, hg6⟩
  · have h0 : l.length = 0 := hn
    have hv : v = .slice none 0 0 := hv
    have : l = [] := List.eq_nil_of_length_eq_zero h0
    subst this; subst hv
    refine (Any.slices_Sort_string_none srtSLays none 0 W).mono ?_
    rintro e w' ⟨rfl, rfl⟩
    have e0 : (([] : List ByteArray).map bl).mergeSort (fun x y => decide (x ≤ y)) = [] := by simp
    rw [e0]
    exact ⟨rfl, World.ownsRow_nil _ _ _ _, ⟨rfl, rfl, rfl, Nat.le_refl _, fun _ _ _ => rfl⟩⟩
  · have hv' : v = .slice (some ⟨g, 0, none⟩) l.length cap := hv
    subst hv'
    have hll : (l.map bl).length = l.length := List.length_map ..
    have h6 : cur.toList.take (l.map bl).length = (l.map bl).map encStr := by
      have : cur.toList.take (l.length * 1) = strV l := hg6
      rw [hll, ← strV_enc]; rwa [Nat.mul_one] at this
    have hgW : g < W.heap.size := (Array.getElem?_eq_some_iff.1 hg2).1
    have hc := Any.slices_Sort_string srtSLays g 0 cap (l.map bl) W (holds_of_block hg2 h6) hgW (by omega)
    rw [hll] at hc
    refine hc.mono ?_
    rintro e w' ⟨rfl, n, os, rfl⟩
    have hml : ((l.map bl).mergeSort fun x y => decide (x ≤ y)).length = (l.map bl).length := List.length_mergeSort _
    refine ⟨rfl, ?_, grownBy_sorted _⟩
    have hg3' : (l.map bl).length ≤ cap := by rw [hll]; exact hg3
    have hs := ownsRow_sorted (os := os) (n := n) (ts := (l.map bl).mergeSort fun x y => decide (x ≤ y)) (ss := l.map bl) hml hg1 hg2 hg3' hg4 hg5
    show World.ownsRow _ B 9 1 (.slice (some ⟨g, 0, none⟩) l.length cap) (((l.map bl).mergeSort fun x y => decide (x ≤ y)).map lb).length (strV (((l.map bl).mergeSort fun x y => decide (x ≤ y)).map lb))
    have hid : ∀ L : List (List UInt8), (L.map lb).map bl = L := fun L => by rw [List.map_map]; exact (List.map_congr_left fun x _ => bl_lb x).trans (List.map_id _)
    rw [strV_enc, hid, List.length_map, hml, hll]
    rw [hll] at hs; exact hs
theorem hp_sortS {W : World} {B : Nat} {its1 its2 : List It} {v : Value} {l r : List ByteArray} (h : HP W B (its1 ++ .fl (owS v l) :: its2)) (hB : B ≤ W.heap.size) (hs : slSortS l = some r) :
    Calls Try.prog 43 #[v] W fun e w' => e = .returned (.tuple #[]) ∧ HP w' B (its1 ++ .fl (owS v r) :: its2) ∧ Below B W w' ∧ NC W w' := by
  obtain ⟨hl, rfl⟩ := s_of hs
  have hok := h.get (o := owS v l) (by simp)
  obtain ⟨M1, M2, h1, h2⟩ := h.getAt
  refine (sortS_ok W hok hB hl).mono ?_
  rintro e w' ⟨rfl, ho, hg⟩
  refine ⟨rfl, h2 _ _ (h1.upd hg ho (.inl rfl)), (Below.refl _ _).grown hg hB (fun k hk => (World.ownsRow.lt hok k hk).1), NC.grown hg fun g hg' => own_cells hok hg'⟩
end Go.Proofs.Ytgnbholhgcbhfaa
