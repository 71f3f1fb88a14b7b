import Derived.Test.YtekfgkeimlidhaaGreatDoorL1
import Derived.Test.YtekfgkeimlidhaaGreatDoorS0
import Derived.Test.YtekfgkeimlidhaaGreatDoorMask
import Derived.StillTailTactics
import Derived.Deep.OwnRows
set_option linter.all false
set_option maxRecDepth 100000
namespace Go.Proofs.YtekfgkeimlidhaaGreatDoor
open Go.RowKit Pl
def maskCells (s : List Nat) : Array Value := (s.map fun m : Nat => Value.int .u64 (m : Int)).toArray
theorem maskCells_at {w : World} {g : Nat} {s : List Nat} {t : TypeId} (h : w.heap[g]? = some (.cells (maskCells s) t (0, 0))) {k m : Nat} (hk : s[k]? = some m) : w.cell? ⟨g, k, none⟩ = some (.int .u64 (m : Int)) := by
  rw [cell_of_row w g k _ t (0, 0) h]; simp [maskCells, hk]
theorem maskCells_set {w : World} {g : Nat} {s : List Nat} {t : TypeId} (h : w.heap[g]? = some (.cells (maskCells s) t (0, 0))) (k m : Nat) : (w.setCell ⟨g, k, none⟩ (.int .u64 (m : Int))).heap[g]? = some (.cells (maskCells (s.set k m)) t (0, 0)) := by
  simp [World.setCell, Array.getElem?_modify, h, maskCells]
theorem fz {w : World} {g o : Nat} {cs : Array Value} {t : TypeId} (h : w.heap[g]? = some (.cells cs t (0, 0))) : w.frozen? ⟨g, o, none⟩ = false := by
  simp [World.frozen?, h]
theorem set_info : (Tryz.prog.info? 48).map (fun i => (i.zero, i.size, i.bytes)) = some (some (.int .u64 0), 1, 8) := by kernel_rfl
theorem made_masks (n : Nat) : madeCells #[.int .u64 0] n = maskCells (List.replicate n 0) := by
  unfold maskCells
  apply Array.ext'
  simp only [madeCells, Array.toList_map, Array.toList_range, List.map_replicate]
  rw [List.eq_replicate_iff]
  refine ⟨by simp, fun b hb => ?_⟩
  obtain ⟨x, _, rfl⟩ := List.mem_map.1 hb
  have : x % (#[Value.int IntKind.u64 0] : Array Value).size = 0 := Nat.mod_one x
  rw [this]; rfl
end Go.Proofs.YtekfgkeimlidhaaGreatDoor
