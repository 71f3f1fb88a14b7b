import Derived.Test.YtabkmceajgpdjaaDoorVal
import Derived.Shelf.Sort.Plain
import Derived.Sort.OwnSortedInts
/- slices.Sorted(slices.Values(l)) -/
set_option linter.all false
set_option maxRecDepth 100000
namespace Go.Proofs.YtabkmceajgpdjaaDoor
open Go.RowKit Go.Shelf Go.Lib
def sortRen : Ren := ⟨fun x => if x = 125 then 49 else if x = 128 then 63 else if x = 129 then 64 else if x = 189 then 40 else if x = 215 then 70 else if x = 216 then 60 else if x = 257 then 48 else if x = 294 then 54 else if x = 295 then 55 else if x = 296 then 56 else if x = 297 then 57 else if x = 298 then 58 else if x = 299 then 59 else if x = 300 then 61 else if x = 301 then 62 else if x = 328 then 65 else if x = 329 then 66 else if x = 330 then 67 else if x = 331 then 68 else if x = 332 then 69 else if x = 343 then 71 else 0,
  fun x => if x = 0 then 0 else if x = 3 then 3 else if x = 4 then 4 else if x = 5 then 5 else if x = 9 then 9 else if x = 28 then 23 else if x = 46 then 43 else if x = 51 then 104 else if x = 53 then 106 else if x = 131 then 101 else if x = 182 then 96 else if x = 183 then 97 else if x = 218 then 107 else if x = 222 then 111 else if x = 228 then 113 else if x = 229 then 114 else 0, fun x => x⟩
theorem sortLays : Lays.n189 Tryd.prog sortRen :=
  { mixed := by kernel_rfl
    f125 := Tryd.func49.trans (congrArg some (by kernel_rfl))
    f128 := Tryd.func63.trans (congrArg some (by kernel_rfl))
    f129 := Tryd.func64.trans (congrArg some (by kernel_rfl))
    f189 := Tryd.func40.trans (congrArg some (by kernel_rfl))
    f215 := Tryd.func70.trans (congrArg some (by kernel_rfl))
    f216 := Tryd.func60.trans (congrArg some (by kernel_rfl))
    f257 := Tryd.func48.trans (congrArg some (by kernel_rfl))
    f294 := Tryd.func54.trans (congrArg some (by kernel_rfl))
    f295 := Tryd.func55.trans (congrArg some (by kernel_rfl))
    f296 := Tryd.func56.trans (congrArg some (by kernel_rfl))
    f297 := Tryd.func57.trans (congrArg some (by kernel_rfl))
    f298 := Tryd.func58.trans (congrArg some (by kernel_rfl))
    f299 := Tryd.func59.trans (congrArg some (by kernel_rfl))
    f300 := Tryd.func61.trans (congrArg some (by kernel_rfl))
    f301 := Tryd.func62.trans (congrArg some (by kernel_rfl))
    f328 := Tryd.func65.trans (congrArg some (by kernel_rfl))
    f329 := Tryd.func66.trans (congrArg some (by kernel_rfl))
    f330 := Tryd.func67.trans (congrArg some (by kernel_rfl))
    f331 := Tryd.func68.trans (congrArg some (by kernel_rfl))
    f332 := Tryd.func69.trans (congrArg some (by kernel_rfl))
    f343 := Tryd.func71.trans (congrArg some (by kernel_rfl))
    t0 := Tryd.underlying0
    a0 := Tryd.isAgg0
    z0 := Tryd.sizeOf0
    v0 := Tryd.zeroValue0
    t3 := Tryd.underlying3
    a3 := Tryd.isAgg3
    z3 := Tryd.sizeOf3
    v3 := Tryd.zeroValue3
    t4 := Tryd.underlying4
    a4 := Tryd.isAgg4
    z4 := Tryd.sizeOf4
    v4 := Tryd.zeroValue4
    t5 := Tryd.underlying5
    a5 := Tryd.isAgg5
    z5 := Tryd.sizeOf5
    v5 := Tryd.zeroValue5
    t9 := Tryd.underlying9
    a9 := Tryd.isAgg9
    z9 := Tryd.sizeOf9
    v9 := Tryd.zeroValue9
    t28 := Tryd.underlying23
    a28 := Tryd.isAgg23
    z28 := Tryd.sizeOf23
    v28 := Tryd.zeroValue23
    t46 := Tryd.underlying43
    a46 := Tryd.isAgg43
    z46 := Tryd.sizeOf43
    v46 := Tryd.zeroValue43
    t51 := Tryd.underlying104
    a51 := Tryd.isAgg104
    z51 := Tryd.sizeOf104
    v51 := Tryd.zeroValue104
    t53 := Tryd.underlying106
    a53 := Tryd.isAgg106
    z53 := Tryd.sizeOf106
    v53 := Tryd.zeroValue106
    t131 := Tryd.underlying101
    a131 := Tryd.isAgg101
    z131 := Tryd.sizeOf101
    v131 := Tryd.zeroValue101
    t182 := Tryd.underlying96
    a182 := Tryd.isAgg96
    z182 := Tryd.sizeOf96
    v182 := Tryd.zeroValue96
    t183 := Tryd.underlying97
    a183 := Tryd.isAgg97
    z183 := Tryd.sizeOf97
    v183 := Tryd.zeroValue97
    t218 := Tryd.underlying107
    a218 := Tryd.isAgg107
    z218 := Tryd.sizeOf107
    v218 := Tryd.zeroValue107
    t222 := Tryd.underlying111
    a222 := Tryd.isAgg111
    z222 := Tryd.sizeOf111
    v222 := Tryd.zeroValue111
    t228 := Tryd.underlying113
    a228 := Tryd.isAgg113
    z228 := Tryd.sizeOf113
    v228 := Tryd.zeroValue113
    t229 := Tryd.underlying114
    a229 := Tryd.isAgg114
    z229 := Tryd.sizeOf114
    v229 := Tryd.zeroValue114 }
theorem sort_ok {B : Nat} {v : Value} {l : List Int} (W : World) (h : Ow.ok W B (owI v l)) (h0 : 0 < l.length) (hl : l.length ≤ 100) :
    Calls Tryd.prog 40 #[v] W fun e w' => e = .returned (.tuple #[]) ∧ Ow.ok w' B (owI v (l.mergeSort fun x y => decide (x ≤ y))) ∧ Below B W w' := by
  rcases h.2 with ⟨_, hn⟩ | ⟨g, cap, cur, hv, hg1, hg2, hg3, hg4, hg5, hg6⟩
  · have : l.length = 0 := hn
    omega
  · have hv' : v = .slice (some ⟨g, 0, none⟩) l.length cap := hv
    subst hv'
    have h6 : cur.toList.take l.length = l.map (Value.int .i64) := by
      have : cur.toList.take (l.length * 1) = l.map (Value.int .i64) := hg6
      rwa [Nat.mul_one] at this
    have hgW : g < W.heap.size := (Array.getElem?_eq_some_iff.1 hg2).1
    refine (Any.slices_Sort_int sortLays g 0 cap l W (holds_of_blockI hg2 h6) hgW (by omega)).mono ?_
    rintro e w' ⟨rfl, n, os, rfl⟩
    have hml : (l.mergeSort fun x y => decide (x ≤ y)).length = l.length := List.length_mergeSort _
    refine ⟨rfl, ?_, (Below.refl _ _).grown (grownBy_sortedI _) (by omega) (fun k e => by cases e; exact hg1)⟩
    have hs := ownsRow_sortedI (os := os) (n := n) (ts := l.mergeSort fun x y => decide (x ≤ y)) (ss := l) hml hg1 hg2 hg3 hg4 hg5
    show World.ownsRow _ B 3 1 (.slice (some ⟨g, 0, none⟩) l.length cap) (l.mergeSort fun x y => decide (x ≤ y)).length _
    rw [hml]; exact hs
theorem values_ok {l : List Int} {A : Option Addr} {cap : Nat} (w : World) :
    Calls Tryd.prog 30 #[.slice A l.length cap] w fun e w' => e = .returned (.func (.func 41) #[] #[.pointer (some ⟨w.heap.size, 0, none⟩)]) ∧ w.alloc (.cells #[.slice A l.length cap] 23) = w' := by
  go_enter Tryd.func30, Tryd.ntmps30
  go_wp2_with fail
  go_ret
  exact ⟨rfl, rfl⟩
theorem collect_ok {l : List Int} {A : Option Addr} {Bs cap : Nat} (w : World) (hlen : l.length ≤ 100) (hc : w.cell? ⟨Bs, 0, none⟩ = some (.slice A l.length cap)) (hr : ReadsI w w.heap.size A l) :
    Calls Tryd.prog 39 #[.func (.func 41) #[] #[.pointer (some ⟨Bs, 0, none⟩)]] w (PostG (fun v => v) (fun v => owI v l) w.heap.size w) := by
  have HC := Lib.hid (appSeq_ok w hlen hc hr); clear hc hr
  go_enter Tryd.func39, Tryd.ntmps39
  go_wp2_with fail
  refine HC.out.mono ?_; rintro e w' ⟨v, rfl, ho, hb⟩
  go_wp2_with fail
  go_ret
  exact ⟨_, rfl, ho, hb⟩
theorem sorted_ok {l : List Int} {A : Option Addr} {Bs cap : Nat} (w : World) (h0 : 0 < l.length) (hlen : l.length ≤ 100) (hc : w.cell? ⟨Bs, 0, none⟩ = some (.slice A l.length cap)) (hr : ReadsI w w.heap.size A l) :
    Calls Tryd.prog 29 #[.func (.func 41) #[] #[.pointer (some ⟨Bs, 0, none⟩)]] w (PostG (fun v => v) (fun v => owI v (l.mergeSort fun x y => decide (x ≤ y))) w.heap.size w) := by
  have HC := Lib.hid (collect_ok w hlen hc hr); clear hc hr
  go_enter Tryd.func29, Tryd.ntmps29
  go_wp2_with fail
  refine HC.out.mono ?_; rintro e w1 ⟨v, rfl, ho, hb⟩
  have HS := Lib.hid (sort_ok w1 ho h0 hlen)
  have HB := Lib.hid hb; clear hb ho
  go_wp2_with fail
  refine HS.out.mono ?_; rintro e w2 ⟨rfl, ho2, hb2⟩
  go_wp2_with fail
  go_ret
  exact ⟨_, rfl, ho2, HB.out.trans hb2⟩
def slSortV (l : List Int) : Option (List Int) := if 0 < l.length ∧ l.length ≤ 100 then some (l.mergeSort fun x y => decide (x ≤ y)) else none
theorem slSortV_ok {l r : List Int} {A : Option Addr} (w : World) (cap : Nat) (hr : ReadsI w w.heap.size A l) (h : slSortV l = some r) :
    Calls Tryd.prog 29 #[.func (.func 41) #[] #[.pointer (some ⟨w.heap.size, 0, none⟩)]] (w.alloc (.cells #[.slice A l.length cap] 23)) (PostG (fun v => v) (fun v => owI v r) w.heap.size w) := by
  unfold slSortV at h
  split at h
  · rename_i hc
    obtain rfl := Option.some.inj h
    have hd : Below w.heap.size w (w.alloc (.cells #[.slice A l.length cap] 23)) := (Below.refl _ _).alloc (Nat.le_refl _) _
    refine (sorted_ok (A := A) (cap := cap) (Bs := w.heap.size) (w.alloc (.cells #[.slice A l.length cap] 23)) hc.1 hc.2 (by rw [cell_of_row _ _ _ _ _ _ (heap_alloc_new w _)]; rfl) (rdI hd hr)).mono ?_
    rintro e w' ⟨v, rfl, ho, hb⟩
    exact ⟨v, rfl, own_weak ho hd.size, hd.trans (hb.mono hd.size)⟩
  · cases h
end Go.Proofs.YtabkmceajgpdjaaDoor
