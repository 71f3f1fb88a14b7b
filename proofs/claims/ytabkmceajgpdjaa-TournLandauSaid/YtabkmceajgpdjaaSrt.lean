import Derived.Test.YtabkmceajgpdjaaVal
import Derived.Shelf.Sort.Plain
import Derived.Sort.OwnSortedInts
/- slices.Sorted(slices.Values(l)) -/
set_option linter.all false
set_option maxRecDepth 100000
namespace Go.Proofs.Ytabkmceajgpdjaa
open Go.RowKit Go.Shelf Go.Lib
def sortRen : Ren := ⟨fun x => if x = 125 then 55 else if x = 128 then 66 else if x = 129 then 67 else if x = 189 then 50 else if x = 215 then 73 else if x = 216 then 63 else if x = 257 then 54 else if x = 294 then 57 else if x = 295 then 58 else if x = 296 then 59 else if x = 297 then 60 else if x = 298 then 61 else if x = 299 then 62 else if x = 300 then 64 else if x = 301 then 65 else if x = 328 then 68 else if x = 329 then 69 else if x = 330 then 70 else if x = 331 then 71 else if x = 332 then 72 else if x = 343 then 74 else 0,
  fun x => if x = 0 then 0 else if x = 3 then 3 else if x = 4 then 4 else if x = 5 then 5 else if x = 9 then 9 else if x = 28 then 24 else if x = 46 then 49 else if x = 51 then 79 else if x = 53 then 81 else if x = 131 then 76 else if x = 182 then 72 else if x = 183 then 73 else if x = 218 then 82 else if x = 222 then 86 else if x = 228 then 88 else if x = 229 then 89 else 0, fun x => x⟩
theorem sortLays : Lays.n189 Try.prog sortRen :=
  { mixed := by kernel_rfl
    f125 := Try.func55.trans (congrArg some (by kernel_rfl))
    f128 := Try.func66.trans (congrArg some (by kernel_rfl))
    f129 := Try.func67.trans (congrArg some (by kernel_rfl))
    f189 := Try.func50.trans (congrArg some (by kernel_rfl))
    f215 := Try.func73.trans (congrArg some (by kernel_rfl))
    f216 := Try.func63.trans (congrArg some (by kernel_rfl))
    f257 := Try.func54.trans (congrArg some (by kernel_rfl))
    f294 := Try.func57.trans (congrArg some (by kernel_rfl))
    f295 := Try.func58.trans (congrArg some (by kernel_rfl))
    f296 := Try.func59.trans (congrArg some (by kernel_rfl))
    f297 := Try.func60.trans (congrArg some (by kernel_rfl))
    f298 := Try.func61.trans (congrArg some (by kernel_rfl))
    f299 := Try.func62.trans (congrArg some (by kernel_rfl))
    f300 := Try.func64.trans (congrArg some (by kernel_rfl))
    f301 := Try.func65.trans (congrArg some (by kernel_rfl))
    f328 := Try.func68.trans (congrArg some (by kernel_rfl))
    f329 := Try.func69.trans (congrArg some (by kernel_rfl))
    f330 := Try.func70.trans (congrArg some (by kernel_rfl))
    f331 := Try.func71.trans (congrArg some (by kernel_rfl))
    f332 := Try.func72.trans (congrArg some (by kernel_rfl))
    f343 := Try.func74.trans (congrArg some (by kernel_rfl))
    t0 := Try.underlying0
    a0 := Try.isAgg0
    z0 := Try.sizeOf0
    v0 := Try.zeroValue0
    t3 := Try.underlying3
    a3 := Try.isAgg3
    z3 := Try.sizeOf3
    v3 := Try.zeroValue3
    t4 := Try.underlying4
    a4 := Try.isAgg4
    z4 := Try.sizeOf4
    v4 := Try.zeroValue4
    t5 := Try.underlying5
    a5 := Try.isAgg5
    z5 := Try.sizeOf5
    v5 := Try.zeroValue5
    t9 := Try.underlying9
    a9 := Try.isAgg9
    z9 := Try.sizeOf9
    v9 := Try.zeroValue9
    t28 := Try.underlying24
    a28 := Try.isAgg24
    z28 := Try.sizeOf24
    v28 := Try.zeroValue24
    t46 := Try.underlying49
    a46 := Try.isAgg49
    z46 := Try.sizeOf49
    v46 := Try.zeroValue49
    t51 := Try.underlying79
    a51 := Try.isAgg79
    z51 := Try.sizeOf79
    v51 := Try.zeroValue79
    t53 := Try.underlying81
    a53 := Try.isAgg81
    z53 := Try.sizeOf81
    v53 := Try.zeroValue81
    t131 := Try.underlying76
    a131 := Try.isAgg76
    z131 := Try.sizeOf76
    v131 := Try.zeroValue76
    t182 := Try.underlying72
    a182 := Try.isAgg72
    z182 := Try.sizeOf72
    v182 := Try.zeroValue72
    t183 := Try.underlying73
    a183 := Try.isAgg73
    z183 := Try.sizeOf73
    v183 := Try.zeroValue73
    t218 := Try.underlying82
    a218 := Try.isAgg82
    z218 := Try.sizeOf82
    v218 := Try.zeroValue82
    t222 := Try.underlying86
    a222 := Try.isAgg86
    z222 := Try.sizeOf86
    v222 := Try.zeroValue86
    t228 := Try.underlying88
    a228 := Try.isAgg88
    z228 := Try.sizeOf88
    v228 := Try.zeroValue88
    t229 := Try.underlying89
    a229 := Try.isAgg89
    z229 := Try.sizeOf89
    v229 := Try.zeroValue89 }
theorem sort_ok {B : Nat} {v : Value} {l : List Int} (W : World) (h : Ow.ok W B (owI v l)) (h0 : 0 < l.length) (hl : l.length ≤ 100) :
    Calls Try.prog 50 #[v] W fun e w' => e = .returned (.tuple #[]) ∧ Ow.ok w' B (owI v (l.mergeSort fun x y => decide (x ≤ y))) ∧ Below B W w' := by
  rcases h.2 with ⟨_, hn⟩ | ⟨g, cap, cur, hv, hg1, hg2, hg3, hg4, hg5, hg6⟩
  · have : l.length = 0 := hn
    omega
  · have hv' : v = .slice (some ⟨g, 0, none⟩) l.length cap := hv
    subst hv'
    have h6 : cur.toList.take l.length = l.map (Value.int .i64) := by
      have : cur.toList.take (l.length * 1) = l.map (Value.int .i64) := hg6
      rwa [Nat.mul_one] at this
    have hgW : g < W.heap.size := (Array.getElem?_eq_some_iff.1 hg2).1
    refine (Any.slices_Sort_int sortLays g 0 cap l W (holds_of_blockI hg2 h6) hgW (by omega)).mono ?_
    rintro e w' ⟨rfl, n, os, rfl⟩
    have hml : (l.mergeSort fun x y => decide (x ≤ y)).length = l.length := List.length_mergeSort _
    refine ⟨rfl, ?_, (Below.refl _ _).grown (grownBy_sortedI _) (by omega) (fun k e => by cases e; exact hg1)⟩
    have hs := ownsRow_sortedI (os := os) (n := n) (ts := l.mergeSort fun x y => decide (x ≤ y)) (ss := l) hml hg1 hg2 hg3 hg4 hg5
    show World.ownsRow _ B 3 1 (.slice (some ⟨g, 0, none⟩) l.length cap) (l.mergeSort fun x y => decide (x ≤ y)).length _
    rw [hml]; exact hs
theorem values_ok {l : List Int} {A : Option Addr} {cap : Nat} (w : World) :
    Calls Try.prog 42 #[.slice A l.length cap] w fun e w' => e = .returned (.func (.func 51) #[] #[.pointer (some ⟨w.heap.size, 0, none⟩)]) ∧ w.alloc (.cells #[.slice A l.length cap] 24) = w' := by
  go_enter Try.func42, Try.ntmps42
  go_wp2_with fail
  go_ret
  exact ⟨rfl, rfl⟩
theorem collect_ok {l : List Int} {A : Option Addr} {Bs cap : Nat} (w : World) (hlen : l.length ≤ 100) (hc : w.cell? ⟨Bs, 0, none⟩ = some (.slice A l.length cap)) (hr : ReadsI w w.heap.size A l) :
    Calls Try.prog 48 #[.func (.func 51) #[] #[.pointer (some ⟨Bs, 0, none⟩)]] w (PostG (fun v => v) (fun v => owI v l) w.heap.size w) := by
  have HC := Lib.hid (appSeq_ok w hlen hc hr); clear hc hr
  go_enter Try.func48, Try.ntmps48
  go_wp2_with fail
  refine HC.out.mono ?_; rintro e w' ⟨v, rfl, ho, hb⟩
  go_wp2_with fail
  go_ret
  exact ⟨_, rfl, ho, hb⟩
theorem sorted_ok {l : List Int} {A : Option Addr} {Bs cap : Nat} (w : World) (h0 : 0 < l.length) (hlen : l.length ≤ 100) (hc : w.cell? ⟨Bs, 0, none⟩ = some (.slice A l.length cap)) (hr : ReadsI w w.heap.size A l) :
    Calls Try.prog 41 #[.func (.func 51) #[] #[.pointer (some ⟨Bs, 0, none⟩)]] w (PostG (fun v => v) (fun v => owI v (l.mergeSort fun x y => decide (x ≤ y))) w.heap.size w) := by
  have HC := Lib.hid (collect_ok w hlen hc hr); clear hc hr
  go_enter Try.func41, Try.ntmps41
  go_wp2_with fail
  refine HC.out.mono ?_; rintro e w1 ⟨v, rfl, ho, hb⟩
  have HS := Lib.hid (sort_ok w1 ho h0 hlen)
  have HB := Lib.hid hb; clear hb ho
  go_wp2_with fail
  refine HS.out.mono ?_; rintro e w2 ⟨rfl, ho2, hb2⟩
  go_wp2_with fail
  go_ret
  exact ⟨_, rfl, ho2, HB.out.trans hb2⟩
def slSortV (l : List Int) : Option (List Int) := if 0 < l.length ∧ l.length ≤ 100 then some (l.mergeSort fun x y => decide (x ≤ y)) else none
theorem slSortV_ok {l r : List Int} {A : Option Addr} (w : World) (cap : Nat) (hr : ReadsI w w.heap.size A l) (h : slSortV l = some r) :
    Calls Try.prog 41 #[.func (.func 51) #[] #[.pointer (some ⟨w.heap.size, 0, none⟩)]] (w.alloc (.cells #[.slice A l.length cap] 24)) (PostG (fun v => v) (fun v => owI v r) w.heap.size w) := by
  unfold slSortV at h
  split at h
  · rename_i hc
    obtain rfl := Option.some.inj h
    have hd : Below w.heap.size w (w.alloc (.cells #[.slice A l.length cap] 24)) := (Below.refl _ _).alloc (Nat.le_refl _) _
    refine (sorted_ok (A := A) (cap := cap) (Bs := w.heap.size) (w.alloc (.cells #[.slice A l.length cap] 24)) hc.1 hc.2 (by rw [cell_of_row _ _ _ _ _ _ (heap_alloc_new w _)]; rfl) (rdI hd hr)).mono ?_
    rintro e w' ⟨v, rfl, ho, hb⟩
    exact ⟨v, rfl, own_weak ho hd.size, hd.trans (hb.mono hd.size)⟩
  · cases h
end Go.Proofs.Ytabkmceajgpdjaa
