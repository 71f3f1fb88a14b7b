import Derived.Test.YthmfgnpkbcbkcaaDoorBP
import Derived.Test.YthmfgnpkbcbkcaaDoorBL
import Derived.Test.YthmfgnpkbcbkcaaDoorBF
import Derived.Test.YthmfgnpkbcbkcaaDoorAl
import Derived.Test.YthmfgnpkbcbkcaaDoorEv2
import Derived.Test.YthmfgnpkbcbkcaaDoorErr
import Derived.Test.YthmfgnpkbcbkcaaDoorGL
/- books: what they keep -/
set_option linter.all false
set_option maxRecDepth 100000
namespace Go.Proofs.YthmfgnpkbcbkcaaDoor
open Go.RowKit Pl
/-- the mask of a point -/
def mk (b : BkT) (k : Nat) : Nat := b.1.getD k 0
structure BInv (b : BkT) : Prop where
  len : b.1.length = 8
  lt : ∀ k, k < 8 → mk b k < 256
  sym : ∀ i j, i < 8 → j < 8 → (mk b i).testBit j = (mk b j).testBit i
  irr : ∀ i, i < 8 → (mk b i).testBit i = false
  many0 : 0 ≤ b.2.2
  many1 : b.2.2 ≤ 60
  txt : b.2.1.size ≤ 100 * b.2.2.toNat
theorem BInv.ok {b : BkT} (h : BInv b) : okB b := by
  refine ⟨fun m hm => ?_, by have := h.txt; have := h.many0; have := h.many1; omega, h.many0, h.many1⟩
  obtain ⟨k, hk, e⟩ := List.getElem_of_mem hm
  have h1 : b.1.getD k 0 < 256 := h.lt k (by rw [← h.len]; exact hk)
  rw [List.getD_eq_getElem?_getD, List.getElem?_eq_getElem hk] at h1
  simpa [e] using h1
theorem line_size {word : ByteArray} {i j : Int} (hw : word.size = 1) (hi : 0 ≤ i ∧ i ≤ 7) (hj : 0 ≤ j ∧ j ≤ 7) : (lineW (dnW word [i, j])).size ≤ 100 := by
  have d1 := dec_le hi.1 (k := 1) (by omega) (by omega)
  have d2 := dec_le hj.1 (k := 1) (by omega) (by omega)
  have hm := Nat.mod_lt (bsm (dnW word [i, j]).data.toList 0) (show 0 < 9973 by omega)
  have d3 := dec_le (n := ((bsm (dnW word [i, j]).data.toList 0 % 9973 : Nat) : Int)) (by omega) (k := 4) (by omega) (by omega)
  have hd : (dnW word [i, j]).size ≤ 5 := by
    rw [dnW, dnW, dnW]
    simp only [ByteArray.size_append, one_size]; omega
  unfold lineW
  simp only [ByteArray.size_append, one_size]; omega
theorem getD_set2 {l : List Nat} (hl : l.length = 8) {i j : Nat} (hi : i < 8) (hj : j < 8) (x y : Nat) (k : Nat) (hk : k < 8) :
    ((l.set i x).set j y).getD k 0 = if k = j then y else if k = i then x else l.getD k 0 := by
  rw [List.getD_eq_getElem?_getD, List.getElem?_set, List.getElem?_set, List.getD_eq_getElem?_getD]
  by_cases e1 : j = k
  · subst e1; simp [hl, hj]
  · by_cases e2 : i = k
    · subst e2; simp [hl, hi, e1, Ne.symm e1]
    · simp [e1, e2, Ne.symm e1, Ne.symm e2]
theorem wthB_bit (m : Nat) (i k : Nat) : (wthB m (i : Int)).testBit k = (m.testBit k || decide (k = i)) := by
  unfold wthB
  rw [Int.toNat_natCast, Nat.testBit_or, Nat.testBit_two_pow]
  by_cases h : i = k
  · subst h; simp
  · simp [h, Ne.symm h]
theorem wtoB_bit (m : Nat) (i k : Nat) : (wtoB m (i : Int)).testBit k = (m.testBit k && !decide (k = i)) := by
  unfold wtoB
  rw [Int.toNat_natCast, ndiff_testBit, Nat.testBit_two_pow]
  by_cases h : i = k
  · subst h; simp
  · simp [h, Ne.symm h]
theorem lt256 {m : Nat} (h : ∀ k, 8 ≤ k → m.testBit k = false) : m < 256 := by
  apply Nat.lt_of_not_le
  intro hle
  obtain ⟨k, h1, h2⟩ := Nat.exists_ge_and_testBit_of_ge_two_pow (n := 8) (x := m) hle
  rw [h k h1] at h2; cases h2
theorem bit256 {m k : Nat} (h : m < 256) (hk : 8 ≤ k) : m.testBit k = false := Nat.testBit_lt_two_pow (Nat.lt_of_lt_of_le h (by have := Nat.pow_le_pow_right (show 0 < 2 by omega) hk; omega))
theorem mk_join {b : BkT} (h : BInv b) {i j : Nat} (hi : i < 8) (hj : j < 8) (k : Nat) (hk : k < 8) : mk (joinB b i j) k = if k = j then wthB (mk b j) i else if k = i then wthB (mk b i) j else mk b k := by
  unfold mk joinB
  rw [Int.toNat_natCast, Int.toNat_natCast]
  exact getD_set2 h.len hi hj _ _ k hk
theorem mk_cut {b : BkT} (h : BInv b) {i j : Nat} (hi : i < 8) (hj : j < 8) (k : Nat) (hk : k < 8) : mk (cutB b i j) k = if k = j then wtoB (mk b j) i else if k = i then wtoB (mk b i) j else mk b k := by
  unfold mk cutB
  rw [Int.toNat_natCast, Int.toNat_natCast]
  exact getD_set2 h.len hi hj _ _ k hk
theorem join_bit {b : BkT} (h : BInv b) {i j : Nat} (hi : i < 8) (hj : j < 8) (hne : i ≠ j) (k x : Nat) (hk : k < 8) : (mk (joinB b i j) k).testBit x = ((mk b k).testBit x || decide ((k = i ∧ x = j) ∨ (k = j ∧ x = i))) := by
  rw [mk_join h hi hj k hk]
  by_cases e1 : k = j
  · subst e1; rw [if_pos rfl, wthB_bit]; congr 1; exact decide_eq_decide.2 ⟨fun q => .inr ⟨rfl, q⟩, fun q => q.elim (fun q => absurd q.1.symm hne) (·.2)⟩
  · rw [if_neg e1]
    by_cases e2 : k = i
    · subst e2; rw [if_pos rfl, wthB_bit]; congr 1; exact decide_eq_decide.2 ⟨fun q => .inl ⟨rfl, q⟩, fun q => q.elim (·.2) (fun q => absurd q.1 e1)⟩
    · rw [if_neg e2, decide_eq_false (by omega), Bool.or_false]
theorem cut_bit {b : BkT} (h : BInv b) {i j : Nat} (hi : i < 8) (hj : j < 8) (hne : i ≠ j) (k x : Nat) (hk : k < 8) : (mk (cutB b i j) k).testBit x = ((mk b k).testBit x && !decide ((k = i ∧ x = j) ∨ (k = j ∧ x = i))) := by
  rw [mk_cut h hi hj k hk]
  by_cases e1 : k = j
  · subst e1; rw [if_pos rfl, wtoB_bit]; congr 2; exact decide_eq_decide.2 ⟨fun q => .inr ⟨rfl, q⟩, fun q => q.elim (fun q => absurd q.1.symm hne) (·.2)⟩
  · rw [if_neg e1]
    by_cases e2 : k = i
    · subst e2; rw [if_pos rfl, wtoB_bit]; congr 2; exact decide_eq_decide.2 ⟨fun q => .inl ⟨rfl, q⟩, fun q => q.elim (·.2) (fun q => absurd q.1 e1)⟩
    · rw [if_neg e2, decide_eq_false (by omega)]; simp
theorem join_inv {b : BkT} (h : BInv b) {i j : Nat} (hi : i < 8) (hj : j < 8) (hne : i ≠ j) (hm : b.2.2 ≠ 60) : BInv (joinB b i j) := by
  have h0 := h.many0; have h1 := h.many1
  refine ⟨by show ((b.1.set _ _).set _ _).length = 8; rw [List.length_set, List.length_set]; exact h.len, fun k hk => lt256 fun x hx => ?_, fun x y hx hy => ?_, fun x hx => ?_, by show 0 ≤ b.2.2 + 1; omega, by show b.2.2 + 1 ≤ 60; omega, ?_⟩
  · rw [join_bit h hi hj hne k x hk, bit256 (h.lt k hk) hx, decide_eq_false (by omega)]; rfl
  · rw [join_bit h hi hj hne x y hx, join_bit h hi hj hne y x hy, h.sym x y hx hy]
    congr 1; exact decide_eq_decide.2 ⟨fun q => by omega, fun q => by omega⟩
  · rw [join_bit h hi hj hne x x hx, h.irr x hx, decide_eq_false (by omega)]; rfl
  · show (b.2.1 ++ lineW _).size ≤ 100 * (b.2.2 + 1).toNat
    have := line_size (word := (⟨#[106]⟩ : ByteArray)) rfl (i := (i : Int)) (j := (j : Int)) (by omega) (by omega)
    have := h.txt
    rw [ByteArray.size_append]; omega
theorem cut_inv {b : BkT} (h : BInv b) {i j : Nat} (hi : i < 8) (hj : j < 8) (hne : i ≠ j) (hm : b.2.2 ≠ 60) : BInv (cutB b i j) := by
  have h0 := h.many0; have h1 := h.many1
  refine ⟨by show ((b.1.set _ _).set _ _).length = 8; rw [List.length_set, List.length_set]; exact h.len, fun k hk => lt256 fun x hx => ?_, fun x y hx hy => ?_, fun x hx => ?_, by show 0 ≤ b.2.2 + 1; omega, by show b.2.2 + 1 ≤ 60; omega, ?_⟩
  · rw [cut_bit h hi hj hne k x hk, bit256 (h.lt k hk) hx]; rfl
  · rw [cut_bit h hi hj hne x y hx, cut_bit h hi hj hne y x hy, h.sym x y hx hy]
    congr 2; exact decide_eq_decide.2 ⟨fun q => by omega, fun q => by omega⟩
  · rw [cut_bit h hi hj hne x x hx, h.irr x hx]; rfl
  · show (b.2.1 ++ lineW _).size ≤ 100 * (b.2.2 + 1).toNat
    have := line_size (word := (⟨#[99]⟩ : ByteArray)) rfl (i := (i : Int)) (j := (j : Int)) (by omega) (by omega)
    have := h.txt
    rw [ByteArray.size_append]; omega
theorem new_inv : BInv newB := ⟨rfl, by decide, fun i j hi hj => by
  have e : ∀ k, k < 8 → mk newB k = 0 := by decide
  rw [e i hi, e j hj]; simp, by decide, by decide, by decide, by decide⟩
theorem bkE_zero {i j : Int} (h : bkE i j = 0) : ∃ a b : Nat, i = a ∧ j = b ∧ a < 8 ∧ b < 8 ∧ a ≠ b := by
  unfold bkE at h
  split at h
  · rename_i q
    split at h
    · cases h
    · exact ⟨i.toNat, j.toNat, by omega, by omega, by omega, by omega, by omega⟩
  · cases h
theorem hasB_mkT {b : BkT} {x y : Nat} (h : hasB b.1 x y = true) : (mk b x).testBit y = true := h
theorem hasB_mkF {b : BkT} {x y : Nat} (h : ¬ hasB b.1 x y = true) : (mk b x).testBit y = false := by
  have h' : ¬ (mk b x).testBit y = true := h
  simpa using h'
/-- what joining gives -/
theorem join_ev {b : BkT} (h : BInv b) (i j : Int) : ∃ e b', mJoin b i j = some (e, b') ∧ BInv b' ∧ (e ≠ 0 → b' = b) ∧ (e = 0 → ∃ x y : Nat, i = x ∧ j = y ∧ x < 8 ∧ y < 8 ∧ x ≠ y ∧ (mk b x).testBit y = false ∧ b.2.2 ≠ 60 ∧ b' = joinB b x y) := by
  unfold mJoin
  rw [if_pos h.ok]
  by_cases c1 : bkE i j = 0
  · rw [if_pos c1]
    obtain ⟨x, y, rfl, rfl, hx, hy, hne⟩ := bkE_zero c1
    by_cases c2 : hasB b.1 x y = true
    · rw [if_pos c2]; exact ⟨6, b, rfl, h, fun _ => rfl, fun q => by cases q⟩
    · rw [if_neg c2]
      by_cases c3 : b.2.2 = 60
      · rw [if_pos c3]; exact ⟨4, b, rfl, h, fun _ => rfl, fun q => by cases q⟩
      · rw [if_neg c3]
        exact ⟨0, _, rfl, join_inv h hx hy hne c3, fun q => absurd rfl q, fun _ => ⟨x, y, rfl, rfl, hx, hy, hne, hasB_mkF c2, c3, rfl⟩⟩
  · rw [if_neg c1]; exact ⟨_, b, rfl, h, fun _ => rfl, fun q => absurd q c1⟩
theorem cut_ev {b : BkT} (h : BInv b) (i j : Int) : ∃ e b', mCut b i j = some (e, b') ∧ BInv b' ∧ (e ≠ 0 → b' = b) ∧ (e = 0 → ∃ x y : Nat, i = x ∧ j = y ∧ x < 8 ∧ y < 8 ∧ x ≠ y ∧ (mk b x).testBit y = true ∧ b.2.2 ≠ 60 ∧ b' = cutB b x y) := by
  unfold mCut
  rw [if_pos h.ok]
  by_cases c1 : bkE i j = 0
  · rw [if_pos c1]
    obtain ⟨x, y, rfl, rfl, hx, hy, hne⟩ := bkE_zero c1
    by_cases c2 : hasB b.1 x y = true
    · rw [if_pos c2]
      by_cases c3 : b.2.2 = 60
      · rw [if_pos c3]; exact ⟨4, b, rfl, h, fun _ => rfl, fun q => by cases q⟩
      · rw [if_neg c3]
        exact ⟨0, _, rfl, cut_inv h hx hy hne c3, fun q => absurd rfl q, fun _ => ⟨x, y, rfl, rfl, hx, hy, hne, hasB_mkT c2, c3, rfl⟩⟩
    · rw [if_neg c2]; exact ⟨5, b, rfl, h, fun _ => rfl, fun q => by cases q⟩
  · rw [if_neg c1]; exact ⟨_, b, rfl, h, fun _ => rfl, fun q => absurd q c1⟩
end Go.Proofs.YthmfgnpkbcbkcaaDoor
