import Derived.Test.YtoiidngnlhhanaaTl
import Derived.Deep.RegionLaw
import Derived.Laws.CopyRow
import Derived.Shelf.Spec.SlicesInsert
/- slices.Repeat of one number -/
set_option linter.all false
set_option maxRecDepth 100000
namespace Go.Proofs.Ytoiidngnlhhanaa
open Go.RowKit
set_option maxHeartbeats 4000000 in
theorem mul64_ok (n : Nat) (h1 : 1 ≤ n) (h8 : n ≤ 8) (w : World) : Calls Try.prog 38 #[.int .u64 1, .int .u64 (n : Int)] w fun e w' => e = .returned (.tuple #[.int .u64 0, .int .u64 (n : Int)]) ∧ w = w' := by
  have hn : n = 1 ∨ n = 2 ∨ n = 3 ∨ n = 4 ∨ n = 5 ∨ n = 6 ∨ n = 7 ∨ n = 8 := by omega
  rcases hn with rfl | rfl | rfl | rfl | rfl | rfl | rfl | rfl <;>
  · go_enter Try.func38, Try.ntmps38
    go_wp2_with fail
    go_ret2
    exact ⟨rfl, rfl⟩
set_option maxHeartbeats 4000000 in
theorem mul_ok (n : Nat) (h1 : 1 ≤ n) (h8 : n ≤ 8) (w : World) : Calls Try.prog 32 #[.int .u64 1, .int .u64 (n : Int)] w fun e w' => e = .returned (.tuple #[.int .u64 0, .int .u64 (n : Int)]) ∧ w = w' := by
  have HC := Lib.hid (mul64_ok n h1 h8 w)
  go_enter Try.func32, Try.ntmps32
  go_wp2_with fail
  refine HC.out.mono ?_; rintro e w' ⟨rfl, rfl⟩
  go_wp2_with fail
  go_ret2
  exact ⟨rfl, rfl⟩
def repRow (x : Int) (k n : Nat) : Array Value := (List.replicate k (Value.int .i64 x) ++ List.replicate (n - k) (Value.int .i64 0)).toArray
theorem repRow_zero (x : Int) (n : Nat) : Array.replicate n (Value.int .i64 0) = repRow x 0 n := by
  unfold repRow; simp
theorem alloc_setRow (W : World) (cs cs' : Array Value) (t : TypeId) : (W.alloc (.cells cs t)).setRow W.heap.size cs' = W.alloc (.cells cs' t) := by
  unfold World.setRow World.alloc
  simp only [World.mk.injEq, and_true, true_and]
  apply Array.ext_getElem?
  intro k
  rw [Array.getElem?_modify, Array.getElem?_push, Array.getElem?_push]
  by_cases h : k = W.heap.size
  · subst h; simp
  · simp only [h, if_false, if_neg h, if_neg (fun e => h (Eq.symm e))]
theorem repRow_size (x : Int) {k n : Nat} (h : k ≤ n) : (repRow x k n).size = n := by unfold repRow; simp; omega
theorem repRow_get {x : Int} {k n j : Nat} (h : j < k) : (repRow x k n)[j]? = some (.int .i64 x) := by
  unfold repRow
  rw [List.getElem?_toArray, List.getElem?_append_left (by simp; omega), List.getElem?_replicate, if_pos h]
theorem repRow_more (x : Int) {k n d : Nat} (h : k + d ≤ n) : ((repRow x k n).toList.take k ++ List.replicate d (Value.int .i64 x) ++ (repRow x k n).toList.drop (k + d)).toArray = repRow x (k + d) n := by
  unfold repRow
  congr 1
  rw [List.take_append_of_le_length (by simp), List.take_of_length_le (by simp), List.drop_append, List.drop_of_length_le (by simp), List.nil_append, List.length_replicate, List.drop_replicate, List.replicate_append_replicate]
  congr 2; omega
theorem size_int : (Try.prog.info? 3).map (·.size) = some 1 := by kernel_rfl
theorem copy_first (n : Nat) (h1 : 1 ≤ n) (x : Int) (w : World) {b o c : Nat} (hc : w.cell? ⟨b, o, none⟩ = some (.int .i64 x)) (ty : TypeId) :
    (Builtin.copy_ #[23, 23] ty #[.slice (some ⟨w.heap.size, 0, none⟩) n n, .slice (some ⟨b, o, none⟩) 1 c]).run Try.prog (w.alloc (.cells (Array.replicate n (Value.int .i64 0)) 3)) = .ok (.int .i64 1) (w.alloc (.cells (repRow x 1 n) 3)) := by
  have hg : (w.alloc (.cells (Array.replicate n (Value.int .i64 0)) 3)).heap[w.heap.size]? = some (.cells (repRow x 0 n) 3 (0, 0)) := by rw [← repRow_zero]; exact heap_alloc_new w _
  rw [run_copy_row Try.prog _ 23 23 ty 3 w.heap.size 0 n n ⟨b, o, none⟩ 1 c (repRow x 0 n) 3 [.int .i64 x] Try.underlying23 size_int hg (show 1 = Nat.min 1 n from (Nat.min_eq_left h1).symm) ?_ (by rw [repRow_size x (Nat.zero_le n)]; simpa using h1) (by simp [Value.oneCell'])]
  · rw [show ([Value.int .i64 x] : List Value) = List.replicate 1 (.int .i64 x) from rfl, List.length_replicate, repRow_more x (by omega), alloc_setRow]; rfl
  · intro j v hj
    match j, hj with
    | 0, hj =>
      simp at hj; subst hj
      rw [Addr.add_lit, Nat.add_zero, ((Below.refl w.heap.size w).alloc (Nat.le_refl _) _).cell (World.block_lt_of_cell? _ _ hc)]; exact hc
    | j+1, hj => simp at hj
theorem copy_more (n k : Nat) (h1 : 1 ≤ k) (hk : k < n) (x : Int) (w : World) (ty : TypeId) :
    (Builtin.copy_ #[23, 23] ty #[.slice (some ⟨w.heap.size, k, none⟩) (n - k) (n - k), .slice (some ⟨w.heap.size, 0, none⟩) k n]).run Try.prog (w.alloc (.cells (repRow x k n) 3)) = .ok (.int .i64 ((Nat.min k (n - k) : Nat) : Int)) (w.alloc (.cells (repRow x (k + Nat.min k (n - k)) n) 3)) := by
  have hg : (w.alloc (.cells (repRow x k n) 3)).heap[w.heap.size]? = some (.cells (repRow x k n) 3 (0, 0)) := heap_alloc_new w _
  have hm : Nat.min k (n - k) ≤ k := Nat.min_le_left _ _
  have hm2 : Nat.min k (n - k) ≤ n - k := Nat.min_le_right _ _
  obtain ⟨d, hd⟩ : ∃ d, Nat.min k (n - k) = d := ⟨_, rfl⟩
  rw [hd] at hm hm2 ⊢
  rw [run_copy_row Try.prog _ 23 23 ty 3 w.heap.size k (n - k) (n - k) ⟨w.heap.size, 0, none⟩ k n (repRow x k n) 3 (List.replicate d (.int .i64 x)) Try.underlying23 size_int hg (by rw [List.length_replicate, hd]) ?_ (by rw [repRow_size x (by omega), List.length_replicate]; omega) (by intro v hv; rw [(List.mem_replicate.1 hv).2]; rfl)]
  · rw [List.length_replicate, repRow_more x (by omega), alloc_setRow]; rfl
  · intro j v hj
    rw [List.getElem?_replicate] at hj
    split at hj
    · cases hj
      rw [Addr.add_lit, Nat.zero_add]
      unfold World.cell?
      simp only [hg, repRow_get (show j < k by omega)]; rfl
    · cases hj
set_option maxHeartbeats 4000000 in
theorem repeat_ok (n : Nat) (h1 : 1 ≤ n) (h8 : n ≤ 8) (x : Int) (w : World) {A : Option Addr} (c : Nat) (hr : ReadsI w w.heap.size A [x]) :
    Calls Try.prog 20 #[.slice A 1 c, .int .i64 (n : Int)] w (PostG (fun v => v) (fun v => owI v (List.replicate n x)) w.heap.size w) := by
  have HC := Lib.hid (mul_ok n h1 h8 w)
  have g1 : ¬ ((n : Int) < 0) := by omega
  have g3 : ¬ (9223372036854775807 < (n : Int)) := by omega
  have hmk := run_makeI (n := (n : Int)) ⟨by omega, by omega⟩ w
  rw [Int.toNat_natCast] at hmk
  go_enter Try.func20, Try.ntmps20
  go_wp2_with fail
  refine HC.out.mono ?_; rintro e w' ⟨rfl, rfl⟩
  go_upto_region 7 with (fail)
  clear g1 g3 hmk
  obtain ⟨b, o, rfl, _, _, _, hcell⟩ := ReadsI.ix hr (show ix [x] 0 = some x from rfl)
  have hcp := copy_first n h1 x w (c := c) hcell
  simp only [Nat.add_zero, Int.toNat_zero] at hcp
  go_upto_region 8 with (at_builtin; refine wpList_copy_runI _ rfl _ _ _ _ _ _ rfl rfl (hcp _) ?_)
  clear hcp hcell hr HC
  go_loopg [8] n (fun gg u8 wr => ∃ k m : Nat, 1 ≤ k ∧ k ≤ n ∧ n - k ≤ gg ∧ u8 = .int .i64 (k : Int) ∧ wr = (w.drewN m).alloc (.cells (repRow x k n) 3))
  case atStart => exact ⟨1, 0, by omega, h1, by omega, rfl, rfl⟩
  case round =>
    obtain ⟨k, m, k1, k2, k3, rfl, rfl⟩ := hrel
    by_cases hlt : k < n
    · have c1 : (k : Int) < (n : Int) := by omega
      have c2 : (k : Int) ≤ (n : Int) := by omega
      have c3 : (0 : Int) ≤ (k : Int) := by omega
      have hcp : ∀ ty, (Builtin.copy_ #[23, 23] ty #[.slice (some ⟨w.heap.size, k, none⟩) (n - k) (n - k), .slice (some ⟨w.heap.size, 0, none⟩) k n]).run Try.prog (World.drew ((w.drewN m).alloc (.cells (repRow x k n) 3))) = .ok (.int .i64 ((Nat.min k (n - k) : Nat) : Int)) (World.drew ((w.drewN m).alloc (.cells (repRow x (k + Nat.min k (n - k)) n) 3))) := fun ty => copy_more n k k1 hlt x (w.drewN (m+1)) ty
      have hd1 : Nat.min k (n - k) ≤ n - k := Nat.min_le_right _ _
      have hd2 : 1 ≤ Nat.min k (n - k) := Nat.le_min.2 ⟨k1, by omega⟩
      obtain ⟨d, hd⟩ : ∃ d, Nat.min k (n - k) = d := ⟨_, rfl⟩
      rw [hd] at hcp hd1 hd2
      clear hd
      go_upto_region 9 with (fail)
      go_region_law (first | (refine step_copy_runI rfl _ _ _ _ rfl _ _ (by simp [Act.eval, Act.put]; try omega) (by simp [Act.eval, Act.put]; try omega) (hcp _) ?_))
      all_goals
        go_wp2_with fail
        go_roundg (n - (k + d))
        case measure => omega
        case rel => exact ⟨k + d, m + 1, by omega, by omega, Nat.le_refl _, congrArg (Value.int .i64) ((IntWalk.i64_left _).trans (by unfold wrap64; omega)), rfl⟩
    · have c1 : ¬ ((k : Int) < (n : Int)) := by omega
      go_wp2_with fail
      have : k = n := by omega
      subst this
      go_ret
      have ho := litI_ok (w.drewN m) (List.replicate k x) (by rw [List.length_replicate]; unfold maxLen; omega)
      rw [List.length_replicate, List.map_replicate] at ho
      have hrr : repRow x k k = (List.replicate k (Value.int .i64 x)).toArray := by unfold repRow; rw [Nat.sub_self]; simp
      refine ⟨_, rfl, ?_, ?_⟩
      · rw [hrr]; exact ho
      · exact (Dr.below (W := w.drewN m) ⟨m, rfl⟩ _).alloc (Nat.le_refl _) _
/-- the model -/
def slRep (l : List Int) (n : Int) : Option (List Int) := match l with
  | [x] => if 1 ≤ n ∧ n ≤ 8 then some (List.replicate n.toNat x) else none
  | _ => none
theorem slRep_ok {l : List Int} {n : Int} {A : Option Addr} {r : List Int} (w : World) (cap : Nat) (hr : ReadsI w w.heap.size A l) (h : slRep l n = some r) :
    Calls Try.prog 20 #[.slice A l.length cap, .int .i64 n] w (PostG (fun v => v) (fun v => owI v r) w.heap.size w) := by
  unfold slRep at h
  match l, h with
  | [x], h =>
    replace h : (if 1 ≤ n ∧ n ≤ 8 then some (List.replicate n.toNat x) else none) = some r := h
    by_cases hn : 1 ≤ n ∧ n ≤ 8
    · rw [if_pos hn] at h
      obtain ⟨k, rfl⟩ := Int.eq_ofNat_of_zero_le (show 0 ≤ n by omega)
      obtain rfl := Option.some.inj h
      rw [Int.toNat_natCast]
      exact repeat_ok k (by omega) (by omega) x w cap hr
    · rw [if_neg hn] at h; cases h
end Go.Proofs.Ytoiidngnlhhanaa
