import Derived.Test.YtnfijblmigjlhaaDoorB3
import Derived.Deep.OwnRows
import Derived.Laws.EntriesVeiled
set_option linter.all false
set_option maxRecDepth 100000
namespace Go.Proofs.YtnfijblmigjlhaaDoor
open Go.RowKit Pl
def zrow (n : Nat) : Array Value := ((List.replicate n (0:Int)).map (Value.int .i64)).toArray
theorem made_zrow (n : Nat) : madeCells #[.int .i64 0] n = zrow n := by
  unfold zrow
  apply Array.ext'
  simp only [madeCells, Array.toList_map, Array.toList_range, List.map_replicate]
  rw [List.eq_replicate_iff]
  refine ⟨by simp, fun b hb => ?_⟩
  obtain ⟨x, _, rfl⟩ := List.mem_map.1 hb
  have : x % (#[Value.int IntKind.i64 0] : Array Value).size = 0 := Nat.mod_one x
  rw [this]; rfl
theorem hnew (w : World) (o : Obj) : (w.alloc o).heap[w.heap.size]? = some o := heap_alloc_new w o
theorem hold {w : World} {k : Nat} {x : Obj} (h : w.heap[k]? = some x) (o : Obj) : (w.alloc o).heap[k]? = some x := (Below.heap_alloc w o k (Array.getElem?_eq_some_iff.1 h).1).trans h
theorem hnew' {w : World} {k : Nat} (o : Obj) (h : k = w.heap.size) : (w.alloc o).heap[k]? = some o := by subst h; exact heap_alloc_new w o
theorem ring_ok (s l : Nat) (hB : okB s l = true) (w : World) :
    Calls Tryd.prog 8 #[.int .i64 s, .int .i64 l] w fun e w' => ∃ v, e = .returned (.tuple #[v, .nilIface]) ∧
      w'.ownsRow w.heap.size 3 1 v (ringM s l).length ((ringM s l).map (Value.int .i64)) ∧ Below w.heap.size w w' := by
  simp only [okB, Bool.and_eq_true, decide_eq_true_eq] at hB
  obtain ⟨⟨⟨⟨h1, h2⟩, h3⟩, h4⟩, h5⟩ := hB
  have hE : errB s l = 0 := by unfold errB; rw [if_pos (by omega)]; exact if_neg (by simp only [Int.toNat_natCast]; omega)
  have HC : ∀ w, Hid (Calls Tryd.prog 6 #[.int .i64 s, .int .i64 l] w fun e w' => e = .returned .nilIface ∧ w = w') := fun w => (check_any s l w).mono fun e w' ⟨a, b⟩ => ⟨by rw [a, hE]; rfl, b⟩
  have ec : ((l + 1 : Nat) : Int) = (l : Int) + 1 := by omega
  have hmk : ∀ W : World, (Instr.makeSlice 22 (.int .i64 ((l : Int) + 1)) (.int .i64 ((l : Int) + 1))).run Tryd.prog W = .ok (.slice (some ⟨W.heap.size, 0, none⟩) (l+1) (l+1)) (W.alloc (.cells (zrow (l+1)) 3)) := fun W => by
    have := run_make_row' (P := Tryd.prog) 22 3 (.int .i64 0) 8 Tryd.underlying22 int_info rfl .i64 .i64 (l+1) (by omega) (by omega) W
    rw [made_zrow, ec] at this
    exact this
  clear hE ec
  obtain ⟨w6, hw6⟩ : ∃ w6 : World, w6 = (((((w.alloc (.cells #[.int .i64 s] 3)).alloc (.cells #[.int .i64 l] 3)).alloc (.cells (zrow (l+1)) 3)).alloc (.cells #[.slice (some ⟨w.heap.size + 1 + 1, 0, none⟩) (l+1) (l+1)] 22)).alloc (.cells #[.slice none 0 0] 22)).alloc (.cells #[putV w.heap.size] 40) := ⟨_, rfl⟩
  have hR : RSt w6 w.heap.size s l (List.replicate (l+1) 0) [] := by
    subst hw6
    refine ⟨?_, ?_, ?_, ?_, ⟨.slice none 0 0, ?_, World.ownsRow_nil _ _ _ _⟩, ?_⟩
    · exact hold (hold (hold (hold (hold (hnew _ _) _) _) _) _) _
    · exact hold (hold (hold (hold (hnew' _ (by simp)) _) _) _) _
    · exact hold (hold (hold (hnew' _ (by simp)) _) _) _
    · exact hold (hold (hnew' _ (by simp)) _) _
    · exact hold (hnew' _ (by simp)) _
    · exact hnew' _ (by simp)
  have hI : InR s l (List.replicate (l+1) 0) := ⟨by simp, fun x hx => by obtain ⟨_, rfl⟩ := List.mem_replicate.1 hx; omega⟩
  have HP := Lib.hid ((put_any s l h2 h4 l).at_ 1 1 1 1 w.heap.size w6 _ [] (by omega) (by omega) hR hI (by omega) (by omega) (by omega) (by omega) (by omega) (by
    have : 3 ^ l ≤ 3 ^ 6 := Nat.pow_le_pow_right (by omega) h4
    simp; omega))
  subst hw6
  clear hR hI
  unfold putV at HP
  go_enter Tryd.func8, Tryd.ntmps8
  go_wp2_with fail
  refine (HC _).out.mono ?_; rintro e w' ⟨rfl, rfl⟩
  go_wp2_with fail
  refine HP.out.mono ?_; rintro e w7 ⟨rfl, hR, hB⟩
  obtain ⟨v, ho1, ho2⟩ := hR.ho
  have c4 := cl ho1
  have HO := Lib.hid ho2
  have HB := Lib.hid hB
  clear hR ho1 ho2 hB
  go_wp2_with fail
  go_ret2
  refine ⟨v, rfl, ?_, ?_⟩
  · exact own_weak HO.out (by omega)
  · exact ((((((Below.refl _ _).alloc (Nat.le_refl _) _).alloc (by simp) _).alloc (by simp; omega) _).alloc (by simp; omega) _).alloc (by simp; omega) _).alloc (by simp; omega) _ |>.trans HB.out
end Go.Proofs.YtnfijblmigjlhaaDoor
