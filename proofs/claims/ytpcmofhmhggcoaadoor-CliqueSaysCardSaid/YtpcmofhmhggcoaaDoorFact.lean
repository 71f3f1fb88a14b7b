import Derived.Test.YtpcmofhmhggcoaaDoorApart3
import Derived.Test.YtpcmofhmhggcoaaDoorSRows
set_option linter.all false
set_option maxRecDepth 100000
namespace Go.Proofs.YtpcmofhmhggcoaaDoor
open Go.RowKit Go.Shelf Pl
attribute [local go_sem] Oper.semAt_some
theorem fact_all : cliquesM 3 [(0, 1), (1, 2)] = [3, 6] := by decide
theorem fact_apart : mostOf (apartsM 3 [(0, 1), (1, 2)]) = 2 := by decide
theorem fact_rows : [3, 6].map membI = [[0, 1], [1, 2]] := by decide
theorem fact_err : errG 3 [(0, 1), (1, 2)] = 0 := by decide
theorem RowsV.imp {W W' : World} {B B' : Nat} (h : ∀ A l, ReadsI W B A l → ReadsI W' B' A l) : ∀ (vs : List Value) (ls : List (List Int)), RowsV W B vs ls → RowsV W' B' vs ls
  | [], [], _ => trivial
  | v :: vs, l :: ls, hr => by
    obtain ⟨A, cap, e, h1, h2⟩ := hr.1
    exact ⟨⟨A, cap, e, h _ _ h1, h2⟩, RowsV.imp h vs ls hr.2⟩
  | [], _ :: _, hr => hr.elim
  | _ :: _, [], hr => hr.elim
theorem RowsR.toV {W : World} {base : Nat} : ∀ (vs : List Value) (ls : List (List Int)), (∀ l ∈ ls, l.length ≤ maxLen) → RowsR W base vs ls → RowsV W W.heap.size vs ls
  | [], [], _, _ => trivial
  | v :: vs, l :: ls, hl, hr => by
    obtain ⟨A, cap, e, h1⟩ := own_readsI hr.1
    exact ⟨⟨A, cap, e, h1, hl l List.mem_cons_self⟩, RowsR.toV vs ls (fun l' h' => hl l' (List.mem_cons_of_mem _ h')) hr.2⟩
  | [], _ :: _, _, hr => hr.elim
  | _ :: _, [], _, hr => hr.elim
theorem rowsV_below {W W' : World} {B : Nat} {vs : List Value} {ls : List (List Int)} (h : RowsV W B vs ls) (hb : Below B W W') {B' : Nat} (hB : B ≤ B') : RowsV W' B' vs ls :=
  RowsV.imp (fun A l hr => Reads.more (Reads.below hr hb) hB) vs ls h
set_option maxRecDepth 100000 in
set_option maxHeartbeats 4000000 in
theorem fact_any (w : World) : Calls Tryd.prog 13 #[] w fun e w' => e = .returned (.bool true) ∧ Below w.heap.size w w' := by
  go_enter Tryd.func13, Tryd.ntmps13
  go_wp2_with fail
  generalize hW0 : w.alloc (.cells #[.int .i64 0, .int .i64 1, .int .i64 1, .int .i64 2] 41) = W0
  have hs0 : W0.heap.size = w.heap.size + 1 := by rw [← hW0]; simp
  have hb0 : Below w.heap.size w W0 := by rw [← hW0]; exact (Below.refl _ w).alloc (Nat.le_refl _) _
  have hrd : ReadsL W0 W0.heap.size (some ⟨w.heap.size, 0, none⟩) [(0, 1), (1, 2)] := by
    refine ⟨rfl, fun _ => ⟨w.heap.size, 0, rfl, by omega, fun j u hu => ?_⟩⟩
    rw [← hW0, cell_of_row _ _ _ _ _ _ (heap_alloc_new w _)]
    simpa [lineCells] using hu
  clear hW0
  have HA := all_ok 3 _ 2 _ W0 rfl hrd (by decide) fact_err
  rw [show (3 : Int).toNat = 3 from rfl, fact_all, fact_rows] at HA
  have HALL := Lib.hid HA; have HB0 := Lib.hid hb0; have HRD := Lib.hid hrd
  clear HA hb0 hrd
  refine HALL.out.mono ?_; rintro e w1 ⟨v, vs, rfl, ho, hr, hb1⟩
  have hs1 := hb1.size
  obtain ⟨B, cap, rfl, hrv⟩ := own_reads ho
  have hrd1 : ReadsL w1 w1.heap.size (some ⟨w.heap.size, 0, none⟩) [(0, 1), (1, 2)] := Reads.more (Reads.below HRD.out hb1) hs1
  have HA := apart_ok 3 _ 2 _ w1 rfl hrd1 (by decide) fact_err
  rw [show (3 : Int).toNat = 3 from rfl, fact_apart] at HA
  have HAP := Lib.hid HA; have HV := Lib.hid (RowsR.toV vs _ (by decide) hr); have HRV := Lib.hid hrv
  have HB1 := Lib.hid (HB0.out.trans (hb1.mono (by omega)))
  clear HA ho hr hrd1 hb1 hrv
  go_wp2_with fail
  refine HAP.out.mono ?_; rintro e w2 ⟨rfl, hb2⟩
  have hs2 := hb2.size
  have HV2 := Lib.hid (rowsV_below HV.out hb2 (Nat.le_refl _))
  have HRV2 := Lib.hid (Reads.below HRV.out hb2)
  have HB2 := Lib.hid (HB1.out.trans (hb2.mono (by omega)))
  clear hb2
  go_wp2_with fail
  have b1 : Below w1.heap.size w2 (w2.alloc (.cells #[.int .i64 0, .int .i64 1] 3)) := (Below.refl _ w2).alloc hs2 _
  have q1 := lit_reads [0, 1] 3 w2
  have q2 := lit_reads [1, 2] 3 (w2.alloc (.cells #[.int .i64 0, .int .i64 1] 3))
  simp only [List.map_cons, List.map_nil] at q1 q2
  generalize hW3 : w2.alloc (.cells #[.int .i64 0, .int .i64 1] 3) = W3 at *
  have z3 : W3.heap.size = w2.heap.size + 1 := by rw [← hW3]; simp
  have b2 : Below W3.heap.size W3 (W3.alloc (.cells #[.int .i64 1, .int .i64 2] 3)) := (Below.refl _ W3).alloc (Nat.le_refl _) _
  generalize hW4 : W3.alloc (.cells #[.int .i64 1, .int .i64 2] 3) = W4 at *
  have z4 : W4.heap.size = w2.heap.size + 1 + 1 := by rw [← hW4]; simp [z3]
  have b3 : Below W4.heap.size W4 (W4.alloc (.cells #[.slice (some ⟨w2.heap.size, 0, none⟩) 2 2, .slice (some ⟨w2.heap.size + 1, 0, none⟩) 2 2] 43)) := (Below.refl _ W4).alloc (Nat.le_refl _) _
  have c5 := heap_alloc_new W4 (.cells #[.slice (some ⟨w2.heap.size, 0, none⟩) 2 2, .slice (some ⟨w2.heap.size + 1, 0, none⟩) 2 2] 43)
  generalize hW5 : W4.alloc (.cells #[.slice (some ⟨w2.heap.size, 0, none⟩) 2 2, .slice (some ⟨w2.heap.size + 1, 0, none⟩) 2 2] 43) = W5 at *
  have z5 : W5.heap.size = w2.heap.size + 1 + 1 + 1 := by rw [← hW5]; simp [z4]
  clear hW3 hW4 hW5
  have b15 : Below w1.heap.size w2 W5 := (b1.trans (b2.mono (by omega))).trans (b3.mono (by omega))
  have hbw : Below w.heap.size w W5 := HB2.out.trans (b15.mono (by omega))
  rw [z4] at c5
  have hA : Reads W5 W5.heap.size 1 B ([[0, 1], [1, 2]] : List (List Int)).length vs := Reads.more (Reads.below HRV2.out b15) (by omega)
  have hB : Reads W5 W5.heap.size 1 (some ⟨w2.heap.size + 1 + 1, 0, none⟩) ([[0, 1], [1, 2]] : List (List Int)).length [.slice (some ⟨w2.heap.size, 0, none⟩) 2 2, .slice (some ⟨w2.heap.size + 1, 0, none⟩) 2 2] :=
    ⟨rfl, fun _ => ⟨w2.heap.size + 1 + 1, 0, rfl, by omega, fun j u hu => by rw [cell_of_row _ _ _ _ _ _ c5]; simpa using hu⟩⟩
  have hX : RowsV W5 W5.heap.size vs [[0, 1], [1, 2]] := rowsV_below HV2.out b15 (by omega)
  have r1 : ReadsI W5 W5.heap.size (some ⟨w2.heap.size, 0, none⟩) [0, 1] := Reads.more (Reads.below q1 (b2.trans (b3.mono (by omega)))) (by omega)
  rw [z3] at q2
  have r2 : ReadsI W5 W5.heap.size (some ⟨w2.heap.size + 1, 0, none⟩) [1, 2] := Reads.more (Reads.below q2 b3) (by omega)
  have hY : RowsV W5 W5.heap.size [.slice (some ⟨w2.heap.size, 0, none⟩) 2 2, .slice (some ⟨w2.heap.size + 1, 0, none⟩) 2 2] [[0, 1], [1, 2]] :=
    ⟨⟨_, 2, rfl, r1, by decide⟩, ⟨_, 2, rfl, r2, by decide⟩, trivial⟩
  have HR := Lib.hid (rows_any B _ cap 2 _ _ _ _ W5 hA hB hX hY (by decide))
  have HBW := Lib.hid hbw
  clear hA hB hX hY r1 r2 q1 q2 hbw b15 b1 b2 b3 c5
  refine HR.out.mono ?_; rintro e w6 ⟨rfl, n6, rfl⟩
  go_wp2
  go_ret
  exact ⟨rfl, HBW.out.os, HBW.out.tape, HBW.out.output, HBW.out.size, HBW.out.block⟩
end Go.Proofs.YtpcmofhmhggcoaaDoor
