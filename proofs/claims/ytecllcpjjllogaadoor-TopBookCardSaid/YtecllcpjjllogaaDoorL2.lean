import Derived.Test.YtecllcpjjllogaaDoorL1
import Derived.Test.YtecllcpjjllogaaDoorS0
import Derived.Test.YtecllcpjjllogaaDoorMask
import Derived.StillTailTactics
import Derived.Deep.OwnRows
set_option linter.all false
set_option maxRecDepth 100000
namespace Go.Proofs.YtecllcpjjllogaaDoor
open Go.RowKit Pl
def maskCells (s : List Nat) : Array Value := (s.map fun m : Nat => Value.int .u64 (m : Int)).toArray
theorem maskCells_at {w : World} {g : Nat} {s : List Nat} {t : TypeId} (h : w.heap[g]? = some (.cells (maskCells s) t (0, 0))) {k m : Nat} (hk : s[k]? = some m) : w.cell? ⟨g, k, none⟩ = some (.int .u64 (m : Int)) := by
  rw [cell_of_row w g k _ t (0, 0) h]; simp [maskCells, hk]
theorem maskCells_set {w : World} {g : Nat} {s : List Nat} {t : TypeId} (h : w.heap[g]? = some (.cells (maskCells s) t (0, 0))) (k m : Nat) : (w.setCell ⟨g, k, none⟩ (.int .u64 (m : Int))).heap[g]? = some (.cells (maskCells (s.set k m)) t (0, 0)) := by
  simp [World.setCell, Array.getElem?_modify, h, maskCells]
theorem fz {w : World} {g o : Nat} {cs : Array Value} {t : TypeId} (h : w.heap[g]? = some (.cells cs t (0, 0))) : w.frozen? ⟨g, o, none⟩ = false := by
  simp [World.frozen?, h]
theorem set_info : (Tryd.prog.info? 42).map (fun i => (i.zero, i.size, i.bytes)) = some (some (.int .u64 0), 1, 8) := by kernel_rfl
theorem made_masks (n : Nat) : madeCells #[.int .u64 0] n = maskCells (List.replicate n 0) := by
  unfold maskCells
  apply Array.ext'
  simp only [madeCells, Array.toList_map, Array.toList_range, List.map_replicate]
  rw [List.eq_replicate_iff]
  refine ⟨by simp, fun b hb => ?_⟩
  obtain ⟨x, _, rfl⟩ := List.mem_map.1 hb
  have : x % (#[Value.int IntKind.u64 0] : Array Value).size = 0 := Nat.mod_one x
  rw [this]; rfl
set_option maxHeartbeats 2000000 in
theorem out_any (n : Nat) (A : Option Addr) (cap : Nat) (l : List (Int × Int)) (w : World) (h1 : 1 ≤ n) (h8 : n ≤ 8) (hr : ReadsL w w.heap.size A l) (hl : l.length ≤ maxLen) (hin : InL n l) :
    Calls Tryd.prog 40 #[.int .i64 n, .slice A l.length cap] w fun e w' => e = .returned (.slice (some ⟨w.heap.size, 0, none⟩) n n) ∧
      w'.heap[w.heap.size]? = some (.cells (maskCells (outTo n l)) 42 (0, 0)) ∧ Below w.heap.size w w' := by
  unfold maxLen at hl
  have hmk : ∀ W : World, (Instr.makeSlice 67 (.int .i64 (n : Int)) (.int .i64 (n : Int))).run Tryd.prog W = .ok (.slice (some ⟨W.heap.size, 0, none⟩) n n) (W.alloc (.cells (maskCells (List.replicate n 0)) 42)) := fun W => by
    have := run_make_row' (P := Tryd.prog) 67 42 (.int .u64 0) 8 Tryd.underlying67 set_info rfl .i64 .i64 n (by omega) (by omega) W
    rw [made_masks] at this
    exact this
  have HS0 : Hid ((w.alloc (.cells (maskCells (List.replicate n 0)) 42)).heap[w.heap.size]? = some (.cells (maskCells (outTo n (l.take 0))) 42 (0, 0))) := heap_alloc_new w _
  have HB0 : Hid (Below w.heap.size w (w.alloc (.cells (maskCells (List.replicate n 0)) 42))) := (Below.refl _ _).alloc (Nat.le_refl _) _
  go_enter Tryd.func40, Tryd.ntmps40
  go_wp2_with fail
  go_loopw [12] (fun i wr => ∃ k : Nat, k ≤ l.length ∧ i = .int .i64 k ∧ wr.heap[w.heap.size]? = some (.cells (maskCells (outTo n (l.take k))) 42 (0, 0)) ∧ Below w.heap.size w wr) (fun i _ => l.length - (intOf i).toNat)
  case atStart => exact ⟨0, Nat.zero_le _, rfl, HS0.out, HB0.out⟩
  case round =>
    obtain ⟨k, hk, rfl, hh, hB⟩ := hrel
    by_cases hlt : k < l.length
    · obtain ⟨bb, o, rfl, hbl, c1, c2⟩ := ReadsL.at_ (Reads.below hr hB) hlt
      obtain ⟨a, b, ea, eb, ha, hb⟩ := hin.at_ hlt
      have hrow : Row n (outTo n (l.take k)) := outTo_row (hin.take k)
      obtain ⟨m1, m2⟩ := hrow.getD ha
      have HSN : Hid (outTo n (l.take (k+1)) = (outTo n (l.take k)).set a ((outTo n (l.take k)).getD a 0 ||| 2 ^ b)) := by
        show _ = _
        rw [outTo_snoc n l k hlt, ea, eb]; rfl
      rw [ea] at c1; rw [eb] at c2
      clear ea eb
      generalize hm : (outTo n (l.take k)).getD a 0 = m at *
      generalize outTo n (l.take k) = s at *
      have hgl : w.heap.size < wr.heap.size := (Array.getElem?_eq_some_iff.1 hh).1
      have hm16 : m < 65536 := Nat.lt_of_lt_of_le m1 (Nat.le_trans (Nat.pow_le_pow_right (by omega) h8) (by decide))
      have hh1 : (wr.alloc (.cells #[.int .i64 a, .int .i64 b] 61)).heap[w.heap.size]? = some (.cells (maskCells s) 42 (0, 0)) := (Below.heap_alloc wr _ _ hgl).trans hh
      have hln : (wr.alloc (.cells #[.int .i64 a, .int .i64 b] 61)).heap[wr.heap.size]? = some (.cells #[.int .i64 a, .int .i64 b] 61 (0, 0)) := heap_alloc_new wr _
      have hB1 : Below w.heap.size w (wr.alloc (.cells #[.int .i64 a, .int .i64 b] 61)) := hB.alloc hB.size _
      have HH := Lib.hid hh1; have HL := Lib.hid hln; have HB1 := Lib.hid hB1
      clear hh hh1 hln hB hB1
      have HSN2 := HSN; clear HSN
      have han : (a : Int) < n := by omega
      clear hm m1 hrow
      go_wp2_with fail
      generalize wr.alloc (.cells #[.int .i64 a, .int .i64 b] 61) = w1 at *
      have cm := maskCells_at HH.out m2
      have fm : w1.frozen? ⟨w.heap.size, a, none⟩ = false := fz HH.out
      have l0 : w1.cell? ⟨wr.heap.size, 0, none⟩ = some (.int .i64 a) := by rw [cell_of_row _ _ _ _ _ _ HL.out]; rfl
      have l1 : w1.cell? ⟨wr.heap.size, 1, none⟩ = some (.int .i64 b) := by rw [cell_of_row _ _ _ _ _ _ HL.out]; rfl
      clear m2
      go_still_tail 12, (by kernel_rfl)
      still_call ((with_any m b _ hm16 (by omega)).mono fun _ _ ⟨h1, h2⟩ => ⟨h1, h2.symm⟩)
      repeat still_step
      refine wpStill_nil ?_
      change wpList _ _ _ _ _ w1.drew
      go_wp2_with fail
      go_roundw
      case rel => exact ⟨k+1, by omega, by go_num, by rw [HSN2.out]; exact maskCells_set HH.out a _, (HB1.out.setCell (p := ⟨w.heap.size, a, none⟩) (Nat.le_refl _) _).drew⟩
      case measure => simp [intOf] <;> omega
    · obtain rfl : k = l.length := by omega
      rw [List.take_length] at hh
      have HH := Lib.hid hh; clear hh
      go_wp2_with fail
      go_ret
      exact ⟨rfl, HH.out, hB⟩
set_option maxHeartbeats 2000000 in
theorem cbes_any (n : Nat) (A : Option Addr) (cap : Nat) (l : List (Int × Int)) (w : World) (h1 : 1 ≤ n) (h8 : n ≤ 8) (hr : ReadsL w w.heap.size A l) (hl : l.length ≤ maxLen) (hin : InL n l) :
    Calls Tryd.prog 28 #[.int .i64 n, .slice A l.length cap] w fun e w' => e = .returned (.slice (some ⟨w.heap.size, 0, none⟩) n n) ∧
      w'.heap[w.heap.size]? = some (.cells (maskCells (besM n l)) 42 (0, 0)) ∧ Below w.heap.size w w' := by
  unfold maxLen at hl
  have HO := Lib.hid (out_any n A cap l w h1 h8 hr (by unfold maxLen; omega) hin)
  go_enter Tryd.func28, Tryd.ntmps28
  go_wp2_with fail
  refine HO.out.mono ?_; rintro e w0 ⟨rfl, hh0, hb0⟩
  have HH0 := Lib.hid hh0; have HB0 := Lib.hid hb0; clear hh0 hb0
  go_wp2_with fail
  go_loopw [13] (fun i wr => ∃ k : Nat, k ≤ l.length ∧ i = .int .i64 k ∧ wr.heap[w.heap.size]? = some (.cells (maskCells (besTo (outTo n l) (l.take k))) 42 (0, 0)) ∧ Below w.heap.size w wr) (fun i _ => l.length - (intOf i).toNat)
  case atStart => exact ⟨0, Nat.zero_le _, rfl, HH0.out, HB0.out⟩
  case round =>
    obtain ⟨k, hk, rfl, hh, hB⟩ := hrel
    by_cases hlt : k < l.length
    · obtain ⟨bb, o, rfl, hbl, c1, c2⟩ := ReadsL.at_ (Reads.below hr hB) hlt
      obtain ⟨a, b, ea, eb, ha, hb⟩ := hin.at_ hlt
      have hrow : Row n (besTo (outTo n l) (l.take k)) := besTo_row (outTo_row hin) (hin.take k)
      obtain ⟨m1, m2⟩ := hrow.getD hb
      have HSN : Hid (besTo (outTo n l) (l.take (k+1)) = (besTo (outTo n l) (l.take k)).set b ((besTo (outTo n l) (l.take k)).getD b 0 ||| 2 ^ a)) := by
        show _ = _
        rw [besTo_snoc _ l k hlt, ea, eb]; rfl
      rw [ea] at c1; rw [eb] at c2
      clear ea eb
      generalize hm : (besTo (outTo n l) (l.take k)).getD b 0 = m at *
      generalize besTo (outTo n l) (l.take k) = s at *
      have hgl : w.heap.size < wr.heap.size := (Array.getElem?_eq_some_iff.1 hh).1
      have hm16 : m < 65536 := Nat.lt_of_lt_of_le m1 (Nat.le_trans (Nat.pow_le_pow_right (by omega) h8) (by decide))
      have hh1 : (wr.alloc (.cells #[.int .i64 a, .int .i64 b] 61)).heap[w.heap.size]? = some (.cells (maskCells s) 42 (0, 0)) := (Below.heap_alloc wr _ _ hgl).trans hh
      have hln : (wr.alloc (.cells #[.int .i64 a, .int .i64 b] 61)).heap[wr.heap.size]? = some (.cells #[.int .i64 a, .int .i64 b] 61 (0, 0)) := heap_alloc_new wr _
      have hB1 : Below w.heap.size w (wr.alloc (.cells #[.int .i64 a, .int .i64 b] 61)) := hB.alloc hB.size _
      have HH := Lib.hid hh1; have HL := Lib.hid hln; have HB1 := Lib.hid hB1
      clear hh hh1 hln hB hB1
      have HSN2 := HSN; clear HSN
      have hbn : (b : Int) < n := by omega
      clear hm m1 hrow
      go_wp2_with fail
      generalize wr.alloc (.cells #[.int .i64 a, .int .i64 b] 61) = w1 at *
      have cm := maskCells_at HH.out m2
      have fm : w1.frozen? ⟨w.heap.size, b, none⟩ = false := fz HH.out
      have l0 : w1.cell? ⟨wr.heap.size, 0, none⟩ = some (.int .i64 a) := by rw [cell_of_row _ _ _ _ _ _ HL.out]; rfl
      have l1 : w1.cell? ⟨wr.heap.size, 1, none⟩ = some (.int .i64 b) := by rw [cell_of_row _ _ _ _ _ _ HL.out]; rfl
      clear m2
      go_still_tail 12, (by kernel_rfl)
      still_call ((with_any m a _ hm16 (by omega)).mono fun _ _ ⟨h1, h2⟩ => ⟨h1, h2.symm⟩)
      repeat still_step
      refine wpStill_nil ?_
      change wpList _ _ _ _ _ w1.drew
      go_wp2_with fail
      go_roundw
      case rel => exact ⟨k+1, by omega, by go_num, by rw [HSN2.out]; exact maskCells_set HH.out b _, (HB1.out.setCell (p := ⟨w.heap.size, b, none⟩) (Nat.le_refl _) _).drew⟩
      case measure => simp [intOf] <;> omega
    · obtain rfl : k = l.length := by omega
      rw [List.take_length] at hh
      have HH : Hid (wr.heap[w.heap.size]? = some (.cells (maskCells (besM n l)) 42 (0, 0))) := hh
      clear hh
      go_wp2_with fail
      go_ret
      exact ⟨rfl, HH.out, hB⟩
end Go.Proofs.YtecllcpjjllogaaDoor
