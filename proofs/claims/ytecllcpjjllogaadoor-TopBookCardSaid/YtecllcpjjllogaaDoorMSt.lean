import Derived.Test.YtecllcpjjllogaaDoorBox
/- rows of sets: stores, make; lines appended -/
set_option linter.all false
set_option maxRecDepth 100000
namespace Go.Proofs.YtecllcpjjllogaaDoor
open Go.RowKit
theorem ownM_form {W : World} {B n cap : Nat} {A : Option Addr} {l : List Nat} (h : Ow.ok W B (owM (.slice A n cap) l)) (hl : 0 < l.length) : ∃ g, A = some ⟨g, 0, none⟩ ∧ n = l.length ∧ B ≤ g ∧ g < W.heap.size ∧
    (∀ k x, l[k]? = some x → W.cell? ⟨g, k, none⟩ = some (.int .u64 ((x : Nat) : Int))) ∧ ∀ k, W.frozen? ⟨g, k, none⟩ = false := by
  rcases h.2 with ⟨h1, h2⟩ | ⟨g, cap', cur, e1, h2, h3, h4, h5, h6, h7⟩
  · have : (owM (.slice A n cap) l).n = l.length := rfl
    omega
  · have e1' : Value.slice A n cap = .slice (some ⟨g, 0, none⟩) l.length cap' := e1
    injection e1' with ea en ec
    subst ea; subst en; subst ec
    refine ⟨g, rfl, rfl, h2, (Array.getElem?_eq_some_iff.1 h3).1, fun k x hx => ?_, fun k => by simp [World.frozen?, h3]⟩
    have := World.ownsRow.cells h (g := g) rfl k (.int .u64 ((x : Nat) : Int)) (by show (maskV l)[k]? = _; simp [maskV, hx])
    rwa [show ((⟨g, 0, none⟩ : Addr).add k) = ⟨g, k, none⟩ from by unfold Addr.add; split <;> simp_all] at this
theorem HP.setM {W : World} {B n cap : Nat} {its1 its2 : List It} {A : Option Addr} {l : List Nat} (h : HP W B (its1 ++ .fl (owM (.slice A n cap) l) :: its2)) {i : Int} {x : Nat} (hi : 0 ≤ i ∧ i < (l.length : Int)) :
    ∃ g, A = some ⟨g, 0, none⟩ ∧ W.frozen? ⟨g, i.toNat, none⟩ = false ∧ (∃ u, W.cell? ⟨g, i.toNat, none⟩ = some u) ∧
      HP (W.setCell ⟨g, i.toNat, none⟩ (.int .u64 ((x : Nat) : Int))) B (its1 ++ .fl (owM (.slice A n cap) (l.set i.toNat x)) :: its2) ∧ Below B W (W.setCell ⟨g, i.toNat, none⟩ (.int .u64 ((x : Nat) : Int))) := by
  obtain ⟨g, rfl, rfl, hB, hg, hc, hf⟩ := ownM_form (l := l) (A := A) (n := n) (cap := cap) (h.get (o := owM (.slice A n cap) l) (by simp)) (by omega)
  obtain ⟨M1, M2, h1, h2⟩ := h.getAt
  obtain ⟨h3, h4⟩ := OA.set h1 (k := i.toNat) (u := .int .u64 ((x : Nat) : Int)) (show i.toNat < l.length by omega) rfl rfl
  refine ⟨g, rfl, hf _, ⟨_, hc i.toNat l[i.toNat] (List.getElem?_eq_getElem (by omega))⟩, h2 _ _ ?_, h4⟩
  have e : owM (.slice (some ⟨g, 0, none⟩) l.length cap) (l.set i.toNat x) = ⟨42, 1, .slice (some ⟨g, 0, none⟩) l.length cap, l.length, (maskV l).set i.toNat (.int .u64 ((x : Nat) : Int))⟩ := by
    unfold owM maskV; rw [List.length_set, List.map_set]
  rw [e]; exact h3
/-- a row of n empty sets -/
def mkM (n : Int) : Option (List Nat) := if 0 ≤ n ∧ n < 1000000000 then some (List.replicate n.toNat 0) else none
theorem mkM_some {n : Int} {r : List Nat} (h : mkM n = some r) : (0 ≤ n ∧ n < 1000000000) ∧ List.replicate n.toNat 0 = r := s_of h
theorem run_makeM {n : Int} (h : 0 ≤ n ∧ n < 1000000000) (W : World) : (Instr.makeSlice 67 (.int .i64 n) (.int .i64 n)).run Tryd.prog W =
    .ok (.slice (some ⟨W.heap.size, 0, none⟩) n.toNat n.toNat) (W.alloc (.cells (Array.replicate n.toNat (Value.int .u64 0)) 42)) := by
  obtain ⟨k, rfl⟩ := Int.eq_ofNat_of_zero_le h.1
  have := run_make_row' (P := Tryd.prog) 67 42 (.int .u64 0) 8 Tryd.underlying67 set_info rfl .i64 .i64 k (by omega) (by omega) W
  rw [Int.toNat_natCast, this]
  congr 3
  apply Array.ext'
  simp only [madeCells, Array.toList_map, Array.toList_range, Array.toList_replicate]
  rw [List.eq_replicate_iff]
  refine ⟨by simp, fun b hb => ?_⟩
  obtain ⟨x, _, rfl⟩ := List.mem_map.1 hb
  have : x % (#[Value.int IntKind.u64 0] : Array Value).size = 0 := Nat.mod_one x
  rw [this]; rfl
theorem mkM_ok (W : World) {n : Int} (h : 0 ≤ n ∧ n < 1000000000) : (owM (.slice (some ⟨W.heap.size, 0, none⟩) n.toNat n.toNat) (List.replicate n.toNat 0)).ok (W.alloc (.cells (Array.replicate n.toNat (Value.int .u64 0)) 42)) W.heap.size := by
  have := own_lit (w := W) (base := W.heap.size) (n := n.toNat) (e := 42) (Array.replicate n.toNat (Value.int .u64 0)) 1 (by simp) (Nat.le_refl _) (by unfold maxLen; omega)
  simpa [Ow.ok, owM, maskV, List.map_replicate] using this
theorem run_appL (W : World) (t ot : TypeId) (ht : Tryd.prog.underlying t = some (.slice 61))
    {B : Nat} {e' : TypeId} {L1 L2 : List It} {v : Value} {l : List (Int × Int)} {y z : Int} (h : HP W B (L1 ++ .fl (owL v l) :: L2)) (hlen : l.length < 1000000000) (hB : B ≤ W.heap.size) :
    ∃ v' w', (Builtin.append_ #[t, t] ot #[v, .slice (some ⟨W.heap.size, 0, none⟩) 1 1]).run Tryd.prog (W.alloc (.cells #[Value.int .i64 y, Value.int .i64 z] e')) = .ok v' w' ∧
      HP w' B (L1 ++ .fl (owL v' (l ++ [(y, z)])) :: L2) ∧ Below B W w' ∧ NC W w' := by
  obtain ⟨i0, hi0, hz0, hz1, hz2⟩ := info_parts line_info
  obtain ⟨M1, M2, h1, h2⟩ := h.getAt
  obtain ⟨v', w', hrun, hown, hg, hblk, hb, hn⟩ := run_app1 (e' := e') W t ot B 61 i0 _ 2 16 ht hi0 hz0 hz1 hz2 rfl (by omega) v l.length (lineCells l) (h1.get (o := owL v l) (by simp)) [.int .i64 y, .int .i64 z] rfl (by simp [Value.oneCell']) (by omega) (by omega) hB
  refine ⟨v', w', hrun, h2 _ _ (h1.upd hg ?_ ?_), hb, hn⟩
  · show w'.ownsRow B 61 2 v' (l ++ [(y, z)]).length (lineCells (l ++ [(y, z)]))
    rw [List.length_append]
    have e : lineCells (l ++ [(y, z)]) = lineCells l ++ [.int .i64 y, .int .i64 z] := by simp [lineCells]
    rw [e]; exact hown
  · rcases hblk with e | e
    · exact .inl e
    · exact .inr ⟨_, e, by omega⟩
end Go.Proofs.YtecllcpjjllogaaDoor
