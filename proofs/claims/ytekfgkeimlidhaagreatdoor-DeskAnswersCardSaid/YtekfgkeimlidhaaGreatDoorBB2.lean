import Derived.Test.YtekfgkeimlidhaaGreatDoorBF
import Derived.Test.YtekfgkeimlidhaaGreatDoorAl
import Derived.Test.YtekfgkeimlidhaaGreatDoorEv2
import Derived.Test.YtekfgkeimlidhaaGreatDoorErr
/- books: what they keep -/
set_option linter.all false
set_option maxRecDepth 100000
namespace Go.Proofs.YtekfgkeimlidhaaGreatDoor
open Go.RowKit Pl
/-- the mask of a point -/
def mk (b : BkT) (k : Nat) : Nat := b.1.getD k 0
structure BInv (b : BkT) : Prop where
  len : b.1.length = 8
  lt : ∀ k, k < 8 → mk b k < 256
  sym : ∀ i j, i < 8 → j < 8 → (mk b i).testBit j = (mk b j).testBit i
  irr : ∀ i, i < 8 → (mk b i).testBit i = false
  many0 : 0 ≤ b.2.2
  many1 : b.2.2 ≤ 60
  txt : b.2.1.size ≤ 100 * b.2.2.toNat
theorem BInv.ok {b : BkT} (h : BInv b) : okB b := by
  refine ⟨fun m hm => ?_, by have := h.txt; have := h.many0; have := h.many1; omega, h.many0, h.many1⟩
  obtain ⟨k, hk, e⟩ := List.getElem_of_mem hm
  have h1 : b.1.getD k 0 < 256 := h.lt k (by rw [← h.len]; exact hk)
  rw [List.getD_eq_getElem?_getD, List.getElem?_eq_getElem hk] at h1
  simpa [e] using h1
theorem line_size {word : ByteArray} {i j : Int} (hw : word.size = 1) (hi : 0 ≤ i ∧ i ≤ 7) (hj : 0 ≤ j ∧ j ≤ 7) : (lineW (dnW word [i, j])).size ≤ 100 := by
  have d1 := dec_le hi.1 (k := 1) (by omega) (by omega)
  have d2 := dec_le hj.1 (k := 1) (by omega) (by omega)
  have hm := Nat.mod_lt (bsm (dnW word [i, j]).data.toList 0) (show 0 < 9973 by omega)
  have d3 := dec_le (n := ((bsm (dnW word [i, j]).data.toList 0 % 9973 : Nat) : Int)) (by omega) (k := 4) (by omega) (by omega)
  have hd : (dnW word [i, j]).size ≤ 5 := by
    rw [dnW, dnW, dnW]
    simp only [ByteArray.size_append, one_size]; omega
  unfold lineW
  simp only [ByteArray.size_append, one_size]; omega
theorem getD_set2 {l : List Nat} (hl : l.length = 8) {i j : Nat} (hi : i < 8) (hj : j < 8) (x y : Nat) (k : Nat) (hk : k < 8) :
    ((l.set i x).set j y).getD k 0 = if k = j then y else if k = i then x else l.getD k 0 := by
  rw [List.getD_eq_getElem?_getD, List.getElem?_set, List.getElem?_set, List.getD_eq_getElem?_getD]
  by_cases e1 : j = k
  · subst e1; simp [hl, hj]
  · by_cases e2 : i = k
    · subst e2; simp [hl, hi, e1, Ne.symm e1]
    · simp [e1, e2, Ne.symm e1, Ne.symm e2]
theorem wthB_bit (m : Nat) (i k : Nat) : (wthB m (i : Int)).testBit k = (m.testBit k || decide (k = i)) := by
  unfold wthB
  rw [Int.toNat_natCast, Nat.testBit_or, Nat.testBit_two_pow]
  by_cases h : i = k
  · subst h; simp
  · simp [h, Ne.symm h]
theorem wtoB_bit (m : Nat) (i k : Nat) : (wtoB m (i : Int)).testBit k = (m.testBit k && !decide (k = i)) := by
  unfold wtoB
  rw [Int.toNat_natCast, ndiff_testBit, Nat.testBit_two_pow]
  by_cases h : i = k
  · subst h; simp
  · simp [h, Ne.symm h]
theorem lt256 {m : Nat} (h : ∀ k, 8 ≤ k → m.testBit k = false) : m < 256 := by
  apply Nat.lt_of_not_le
  intro hle
  obtain ⟨k, h1, h2⟩ := Nat.exists_ge_and_testBit_of_ge_two_pow (n := 8) (x := m) hle
  rw [h k h1] at h2; cases h2
theorem bit256 {m k : Nat} (h : m < 256) (hk : 8 ≤ k) : m.testBit k = false := Nat.testBit_lt_two_pow (Nat.lt_of_lt_of_le h (by have := Nat.pow_le_pow_right (show 0 < 2 by omega) hk; omega))
theorem mk_join {b : BkT} (h : BInv b) {i j : Nat} (hi : i < 8) (hj : j < 8) (k : Nat) (hk : k < 8) : mk (joinB b i j) k = if k = j then wthB (mk b j) i else if k = i then wthB (mk b i) j else mk b k := by
  unfold mk joinB
  rw [Int.toNat_natCast, Int.toNat_natCast]
  exact getD_set2 h.len hi hj _ _ k hk
theorem mk_cut {b : BkT} (h : BInv b) {i j : Nat} (hi : i < 8) (hj : j < 8) (k : Nat) (hk : k < 8) : mk (cutB b i j) k = if k = j then wtoB (mk b j) i else if k = i then wtoB (mk b i) j else mk b k := by
  unfold mk cutB
  rw [Int.toNat_natCast, Int.toNat_natCast]
  exact getD_set2 h.len hi hj _ _ k hk
theorem join_bit {b : BkT} (h : BInv b) {i j : Nat} (hi : i < 8) (hj : j < 8) (hne : i ≠ j) (k x : Nat) (hk : k < 8) : (mk (joinB b i j) k).testBit x = ((mk b k).testBit x || decide ((k = i ∧ x = j) ∨ (k = j ∧ x = i))) := by
  rw [mk_join h hi hj k hk]
  by_cases e1 : k = j
  · subst e1; rw [if_pos rfl, wthB_bit]; congr 1; exact decide_eq_decide.2 ⟨fun q => .inr ⟨rfl, q⟩, fun q => q.elim (fun q => absurd q.1.symm hne) (·.2)⟩
  · rw [if_neg e1]
    by_cases e2 : k = i
    · subst e2; rw [if_pos rfl, wthB_bit]; congr 1; exact decide_eq_decide.2 ⟨fun q => .inl ⟨rfl, q⟩, fun q => q.elim (·.2) (fun q => absurd q.1 e1)⟩
    · rw [if_neg e2, decide_eq_false (by omega), Bool.or_false]
theorem cut_bit {b : BkT} (h : BInv b) {i j : Nat} (hi : i < 8) (hj : j < 8) (hne : i ≠ j) (k x : Nat) (hk : k < 8) : (mk (cutB b i j) k).testBit x = ((mk b k).testBit x && !decide ((k = i ∧ x = j) ∨ (k = j ∧ x = i))) := by
  rw [mk_cut h hi hj k hk]
  by_cases e1 : k = j
  · subst e1; rw [if_pos rfl, wtoB_bit]; congr 2; exact decide_eq_decide.2 ⟨fun q => .inr ⟨rfl, q⟩, fun q => q.elim (fun q => absurd q.1.symm hne) (·.2)⟩
  · rw [if_neg e1]
    by_cases e2 : k = i
    · subst e2; rw [if_pos rfl, wtoB_bit]; congr 2; exact decide_eq_decide.2 ⟨fun q => .inl ⟨rfl, q⟩, fun q => q.elim (·.2) (fun q => absurd q.1 e1)⟩
    · rw [if_neg e2, decide_eq_false (by omega)]; simp
theorem join_inv {b : BkT} (h : BInv b) {i j : Nat} (hi : i < 8) (hj : j < 8) (hne : i ≠ j) (hm : b.2.2 ≠ 60) : BInv (joinB b i j) := by
  have h0 := h.many0; have h1 := h.many1
  refine ⟨by show ((b.1.set _ _).set _ _).length = 8; rw [List.length_set, List.length_set]; exact h.len, fun k hk => lt256 fun x hx => ?_, fun x y hx hy => ?_, fun x hx => ?_, by show 0 ≤ b.2.2 + 1; omega, by show b.2.2 + 1 ≤ 60; omega, ?_⟩
  · rw [join_bit h hi hj hne k x hk, bit256 (h.lt k hk) hx, decide_eq_false (by omega)]; rfl
  · rw [join_bit h hi hj hne x y hx, join_bit h hi hj hne y x hy, h.sym x y hx hy]
    congr 1; exact decide_eq_decide.2 ⟨fun q => by omega, fun q => by omega⟩
  · rw [join_bit h hi hj hne x x hx, h.irr x hx, decide_eq_false (by omega)]; rfl
  · show (b.2.1 ++ lineW _).size ≤ 100 * (b.2.2 + 1).toNat
    have := line_size (word := (⟨#[106]⟩ : ByteArray)) rfl (i := (i : Int)) (j := (j : Int)) (by omega) (by omega)
    have := h.txt
    rw [ByteArray.size_append]; omega
theorem cut_inv {b : BkT} (h : BInv b) {i j : Nat} (hi : i < 8) (hj : j < 8) (hne : i ≠ j) (hm : b.2.2 ≠ 60) : BInv (cutB b i j) := by
  have h0 := h.many0; have h1 := h.many1
  refine ⟨by show ((b.1.set _ _).set _ _).length = 8; rw [List.length_set, List.length_set]; exact h.len, fun k hk => lt256 fun x hx => ?_, fun x y hx hy => ?_, fun x hx => ?_, by show 0 ≤ b.2.2 + 1; omega, by show b.2.2 + 1 ≤ 60; omega, ?_⟩
  · rw [cut_bit h hi hj hne k x hk, bit256 (h.lt k hk) hx]; rfl
  · rw [cut_bit h hi hj hne x y hx, cut_bit h hi hj hne y x hy, h.sym x y hx hy]
    congr 2; exact decide_eq_decide.2 ⟨fun q => by omega, fun q => by omega⟩
  · rw [cut_bit h hi hj hne x x hx, h.irr x hx]; rfl
  · show (b.2.1 ++ lineW _).size ≤ 100 * (b.2.2 + 1).toNat
    have := line_size (word := (⟨#[99]⟩ : ByteArray)) rfl (i := (i : Int)) (j := (j : Int)) (by omega) (by omega)
    have := h.txt
    rw [ByteArray.size_append]; omega
theorem new_inv : BInv newB := ⟨rfl, by decide, fun i j hi hj => by
  have e : ∀ k, k < 8 → mk newB k = 0 := by decide
  rw [e i hi, e j hj]; simp, by decide, by decide, by decide, by decide⟩
theorem bkE_zero {i j : Int} (h : bkE i j = 0) : ∃ a b : Nat, i = a ∧ j = b ∧ a < 8 ∧ b < 8 ∧ a ≠ b := by
  unfold bkE at h
  split at h
  · rename_i q
    split at h
    · cases h
    · exact ⟨i.toNat, j.toNat, by omega, by omega, by omega, by omega, by omega⟩
  · cases h
theorem hasB_mkT {b : BkT} {x y : Nat} (h : hasB b.1 x y = true) : (mk b x).testBit y = true := h
theorem hasB_mkF {b : BkT} {x y : Nat} (h : ¬ hasB b.1 x y = true) : (mk b x).testBit y = false := by
  have h' : ¬ (mk b x).testBit y = true := h
  simpa using h'
/-- what joining gives -/
theorem join_ev {b : BkT} (h : BInv b) (i j : Int) : ∃ e b', mJoin b i j = some (e, b') ∧ BInv b' ∧ (e ≠ 0 → b' = b) ∧ (e = 0 → ∃ x y : Nat, i = x ∧ j = y ∧ x < 8 ∧ y < 8 ∧ x ≠ y ∧ (mk b x).testBit y = false ∧ b.2.2 ≠ 60 ∧ b' = joinB b x y) := by
  unfold mJoin
  rw [if_pos h.ok]
  by_cases c1 : bkE i j = 0
  · rw [if_pos c1]
    obtain ⟨x, y, rfl, rfl, hx, hy, hne⟩ := bkE_zero c1
    by_cases c2 : hasB b.1 x y = true
    · rw [if_pos c2]; exact ⟨6, b, rfl, h, fun _ => rfl, fun q => by cases q⟩
    · rw [if_neg c2]
      by_cases c3 : b.2.2 = 60
      · rw [if_pos c3]; exact ⟨4, b, rfl, h, fun _ => rfl, fun q => by cases q⟩
      · rw [if_neg c3]
        exact ⟨0, _, rfl, join_inv h hx hy hne c3, fun q => absurd rfl q, fun _ => ⟨x, y, rfl, rfl, hx, hy, hne, hasB_mkF c2, c3, rfl⟩⟩
  · rw [if_neg c1]; exact ⟨_, b, rfl, h, fun _ => rfl, fun q => absurd q c1⟩
theorem cut_ev {b : BkT} (h : BInv b) (i j : Int) : ∃ e b', mCut b i j = some (e, b') ∧ BInv b' ∧ (e ≠ 0 → b' = b) ∧ (e = 0 → ∃ x y : Nat, i = x ∧ j = y ∧ x < 8 ∧ y < 8 ∧ x ≠ y ∧ (mk b x).testBit y = true ∧ b.2.2 ≠ 60 ∧ b' = cutB b x y) := by
  unfold mCut
  rw [if_pos h.ok]
  by_cases c1 : bkE i j = 0
  · rw [if_pos c1]
    obtain ⟨x, y, rfl, rfl, hx, hy, hne⟩ := bkE_zero c1
    by_cases c2 : hasB b.1 x y = true
    · rw [if_pos c2]
      by_cases c3 : b.2.2 = 60
      · rw [if_pos c3]; exact ⟨4, b, rfl, h, fun _ => rfl, fun q => by cases q⟩
      · rw [if_neg c3]
        exact ⟨0, _, rfl, cut_inv h hx hy hne c3, fun q => absurd rfl q, fun _ => ⟨x, y, rfl, rfl, hx, hy, hne, hasB_mkT c2, c3, rfl⟩⟩
    · rw [if_neg c2]; exact ⟨5, b, rfl, h, fun _ => rfl, fun q => by cases q⟩
  · rw [if_neg c1]; exact ⟨_, b, rfl, h, fun _ => rfl, fun q => absurd q c1⟩
end Go.Proofs.YtekfgkeimlidhaaGreatDoor
/- books: what their functions give; BookBack -/
set_option linter.all false
set_option maxRecDepth 100000
namespace Go.Proofs.YtekfgkeimlidhaaGreatDoor
open Go.RowKit Pl
/-- a row: the lines from a point to those from it on -/
def upM (m i : Nat) : Nat := ndiff m (2 ^ i - 1)
def rowB (ms : List Nat) (i : Nat) : List (Int × Int) := (memb (upM (ms.getD i 0) i)).map fun j : Nat => ((i : Int), (j : Int))
def linesOf (ms : List Nat) : List (Int × Int) := (List.range 8).flatMap (rowB ms)
theorem bl_L2 (F : Nat) (i : Int) : ∀ (xs : List Nat) (acc : List (Int × Int)), acc.length + xs.length < 1000000 → brambleweir_book_Book_Lines_L2 F i xs acc = some (acc ++ xs.map fun x : Nat => (i, (x : Int)))
  | [], acc, _ => by rw [brambleweir_book_Book_Lines_L2_n]; simp
  | x :: xs, acc, h => by
    rw [List.length_cons] at h
    have ha : app acc (i, (x : Int)) = some (acc ++ [(i, (x : Int))]) := by unfold app; rw [if_pos (by omega)]
    rw [brambleweir_book_Book_Lines_L2_c, ha, Option.bind_some, bl_L2 F i xs _ (by rw [List.length_append]; simp; omega), List.append_assoc]; rfl
theorem row_len (ms : List Nat) (i : Nat) : (rowB ms i).length ≤ 16 := by unfold rowB; rw [List.length_map]; exact memb_len _
theorem bl_L1 {ms : List Nat} (hl : ms.length = 8) (hm : ∀ k, k < 8 → ms.getD k 0 < 256) (F : Nat) : ∀ (g j : Nat) (acc : List (Int × Int)), 8 < j + g → j ≤ 8 → acc.length ≤ 16 * j →
    brambleweir_book_Book_Lines_L1 F ms g (j : Int) acc = some (acc ++ (List.range' j (8 - j)).flatMap (rowB ms))
  | 0, j, acc, h, hj, _ => by omega
  | g+1, j, acc, h, hj, ha => by
    rw [brambleweir_book_Book_Lines_L1_s, hl]
    by_cases c : j < 8
    · have h1 : ix ms (j : Int) = some (ms.getD j 0) := ix_at 0 (by omega)
      have h2 : sBelow (j : Int) = some (2 ^ j - 1) := by unfold sBelow; rw [if_pos (by omega), Int.toNat_natCast]
      have hm' := hm j c
      have hp : 2 ^ j ≤ 2 ^ 8 := Nat.pow_le_pow_right (by omega) (by omega)
      have h3 : sNot (ms.getD j 0) (2 ^ j - 1) = some (upM (ms.getD j 0) j) := by unfold sNot upM; rw [if_pos (by omega)]
      have hu : upM (ms.getD j 0) j < 65536 := by have := ndiff_le (ms.getD j 0) (2 ^ j - 1); unfold upM; omega
      have h4 : sEach (upM (ms.getD j 0) j) = some (memb (upM (ms.getD j 0) j)) := by unfold sEach; rw [if_pos hu]
      have hr := row_len ms j
      have hml := memb_len (upM (ms.getD j 0) j)
      rw [if_pos (by omega), h1, Option.bind_some, h2, Option.bind_some, h3, Option.bind_some, h4, Option.bind_some, bl_L2 F _ _ _ (by omega), Option.bind_some, w64n (by omega),
        bl_L1 hl hm F g (j+1) _ (by omega) (by omega) (by rw [List.length_append, List.length_map]; omega), show 8 - j = (8 - (j+1)) + 1 by omega, List.range'_succ, List.flatMap_cons, ← List.append_assoc]; rfl
    · have : j = 8 := by omega
      subst this
      rw [if_neg (by omega)]; simp
theorem lines_ev {b : BkT} (h : BInv b) : brambleweir_book_Book_Lines 300 b.1 = some (linesOf b.1) := by
  unfold brambleweir_book_Book_Lines
  rw [show brambleweir_book_Book_Lines_L1 300 b.1 300 0 [] = _ from bl_L1 h.len h.lt 300 300 0 [] (by omega) (by omega) (by simp), Option.bind_some, List.nil_append, Nat.sub_zero, ← List.range_eq_range']; rfl
theorem sum8 (f : Nat → Nat) : ((List.range 8).map f).sum = f 0 + f 1 + f 2 + f 3 + f 4 + f 5 + f 6 + f 7 := by
  simp [List.range_succ]; omega
theorem linesOf_len (ms : List Nat) : (linesOf ms).length = ((List.range 8).map fun i => (memb (upM (ms.getD i 0) i)).length).sum := by
  unfold linesOf
  rw [List.length_flatMap]
  congr 1
  refine List.map_congr_left fun i _ => ?_
  unfold rowB; rw [List.length_map]
theorem linesOf_le (ms : List Nat) : (linesOf ms).length ≤ 128 := by
  rw [linesOf_len, sum8]
  have : ∀ i, (memb (upM (ms.getD i 0) i)).length ≤ 16 := fun i => memb_len _
  have a0 := this 0; have a1 := this 1; have a2 := this 2; have a3 := this 3; have a4 := this 4; have a5 := this 5; have a6 := this 6; have a7 := this 7
  omega
theorem low_bit (i x : Nat) : (2 ^ i - 1).testBit x = decide (x < i) := by rw [Nat.testBit_two_pow_sub_one]
theorem upM_bit (m i x : Nat) : (upM m i).testBit x = (m.testBit x && decide (i ≤ x)) := by
  unfold upM
  rw [ndiff_testBit, low_bit]
  congr 1
  by_cases h : x < i
  · rw [decide_eq_true h, decide_eq_false (by omega)]; rfl
  · rw [decide_eq_false h, decide_eq_true (by omega)]; rfl
theorem up_more {m m' i j : Nat} (hm : m' < 256) (hj : m'.testBit j = true) (hb : ∀ x, m'.testBit x = (m.testBit x || decide (x = j))) (h0 : m.testBit j = false) (hij : i ≤ j) : (memb (upM m' i)).length = (memb (upM m i)).length + 1 := by
  have hu : upM m' i < 65536 := by have := ndiff_le m' (2 ^ i - 1); unfold upM; omega
  have hmem : j ∈ memb (upM m' i) := (mem_memb hu).2 (by rw [upM_bit, hj, decide_eq_true hij]; rfl)
  have e : ndiff (upM m' i) (2 ^ j) = upM m i := by
    refine Nat.eq_of_testBit_eq fun x => ?_
    rw [ndiff_testBit, upM_bit, upM_bit, hb x, Nat.testBit_two_pow]
    by_cases q : x = j
    · subst q; rw [h0]; simp
    · have q' : ¬ j = x := fun e => q e.symm
      simp [q, q']
  have := memb_less hmem
  rw [e] at this; omega
theorem up_same {m m' i j : Nat} (hb : ∀ x, m'.testBit x = (m.testBit x || decide (x = j))) (hij : j < i) : upM m' i = upM m i := by
  refine Nat.eq_of_testBit_eq fun x => ?_
  rw [upM_bit, upM_bit, hb x]
  by_cases q : x = j
  · subst q; rw [decide_eq_false (show ¬ i ≤ x by omega)]; simp
  · simp [q]
theorem join_count {b : BkT} (h : BInv b) {i j : Nat} (hi : i < 8) (hj : j < 8) (hne : i ≠ j) (h0 : (mk b i).testBit j = false) (hm : b.2.2 ≠ 60) : (linesOf (joinB b i j).1).length = (linesOf b.1).length + 1 := by
  have hI := join_inv h hi hj hne hm
  have h0' : (mk b j).testBit i = false := by rw [h.sym j i hj hi]; exact h0
  have key : ∀ k, k < 8 → (memb (upM (mk (joinB b i j) k) k)).length = (memb (upM (mk b k) k)).length + if k = min i j then 1 else 0 := by
    intro k hk
    have hb := fun x => join_bit h hi hj hne k x hk
    by_cases e1 : k = i
    · subst e1
      have hb' : ∀ x, (mk (joinB b k j) k).testBit x = ((mk b k).testBit x || decide (x = j)) := fun x => by
        rw [hb x]; congr 1; exact decide_eq_decide.2 ⟨fun q => q.elim (·.2) (fun q => absurd q.1 hne), fun q => .inl ⟨rfl, q⟩⟩
      by_cases c : k ≤ j
      · rw [up_more (hI.lt k hk) (by rw [hb' j]; simp) hb' h0 c, if_pos (by omega)]
      · rw [up_same hb' (by omega), if_neg (by omega), Nat.add_zero]
    · by_cases e2 : k = j
      · subst e2
        have hb' : ∀ x, (mk (joinB b i k) k).testBit x = ((mk b k).testBit x || decide (x = i)) := fun x => by
          rw [hb x]; congr 1; exact decide_eq_decide.2 ⟨fun q => q.elim (fun q => absurd q.1 e1) (·.2), fun q => .inr ⟨rfl, q⟩⟩
        by_cases c : k ≤ i
        · rw [up_more (hI.lt k hk) (by rw [hb' i]; simp) hb' h0' c, if_pos (by omega)]
        · rw [up_same hb' (by omega), if_neg (by omega), Nat.add_zero]
      · have e : mk (joinB b i j) k = mk b k := by rw [mk_join h hi hj k hk, if_neg e2, if_neg e1]
        rw [e, if_neg (by omega), Nat.add_zero]
  rw [linesOf_len, linesOf_len, sum8, sum8]
  have key' : ∀ k, k < 8 → (memb (upM ((joinB b i j).1.getD k 0) k)).length = (memb (upM (b.1.getD k 0) k)).length + if k = min i j then 1 else 0 := key
  rw [key' 0 (by omega), key' 1 (by omega), key' 2 (by omega), key' 3 (by omega), key' 4 (by omega), key' 5 (by omega), key' 6 (by omega), key' 7 (by omega)]
  have hmin : min i j < 8 := by omega
  generalize min i j = p at hmin
  have : p = 0 ∨ p = 1 ∨ p = 2 ∨ p = 3 ∨ p = 4 ∨ p = 5 ∨ p = 6 ∨ p = 7 := by omega
  rcases this with rfl | rfl | rfl | rfl | rfl | rfl | rfl | rfl <;> simp <;> omega
theorem back_masks {b : BkT} (h : BInv b) {i j : Nat} (hi : i < 8) (hj : j < 8) (hne : i ≠ j) (h0 : (mk b i).testBit j = false) (hm : b.2.2 ≠ 60) (hI : BInv (joinB b i j)) : (cutB (joinB b i j) j i).1 = b.1 := by
  have h0' : (mk b j).testBit i = false := by rw [h.sym j i hj hi]; exact h0
  have hl : (cutB (joinB b i j) j i).1.length = 8 := by show ((((b.1.set _ _).set _ _).set _ _).set _ _).length = 8; simp only [List.length_set]; exact h.len
  refine List.ext_getElem (by rw [hl, h.len]) fun k h1 h2 => ?_
  have hk : k < 8 := by rw [← h.len]; exact h2
  have e : mk (cutB (joinB b i j) j i) k = mk b k := by
    refine Nat.eq_of_testBit_eq fun x => ?_
    rw [cut_bit hI hj hi (Ne.symm hne) k x hk, join_bit h hi hj hne k x hk]
    by_cases q : (k = i ∧ x = j) ∨ (k = j ∧ x = i)
    · rw [decide_eq_true q, decide_eq_true (show (k = j ∧ x = i) ∨ (k = i ∧ x = j) from q.symm)]
      rcases q with ⟨rfl, rfl⟩ | ⟨rfl, rfl⟩
      · rw [h0]; rfl
      · rw [h0']; rfl
    · rw [decide_eq_false q, decide_eq_false (show ¬ ((k = j ∧ x = i) ∨ (k = i ∧ x = j)) from fun e => q e.symm)]; simp
  unfold mk at e
  rw [List.getD_eq_getElem?_getD, List.getElem?_eq_getElem h1, List.getD_eq_getElem?_getD, List.getElem?_eq_getElem h2] at e
  exact e
theorem bf_L2 {b : BkT} (h : BInv b) (F : Nat) : ∀ (xs : List Nat) (acc : Nat), (∀ p ∈ xs, p < 8) → acc < 256 →
    ∃ R, brambleweir_book_Book_Far_L2 F b.1 xs acc = some R ∧ R < 256 ∧ ∀ q, R.testBit q = true ↔ acc.testBit q = true ∨ ∃ p ∈ xs, (mk b p).testBit q = true
  | [], acc, _, ha => ⟨acc, by rw [brambleweir_book_Book_Far_L2_n], ha, fun q => by simp⟩
  | p :: xs, acc, hx, ha => by
    have hp := hx p List.mem_cons_self
    have h1 : ix b.1 (p : Int) = some (mk b p) := ix_at 0 (by have := h.len; omega)
    have hlt := h.lt p hp
    have ho : sOr acc (mk b p) = some (acc ||| mk b p) := by unfold sOr; rw [if_pos (by omega)]
    have hlt2 : acc ||| mk b p < 2 ^ 8 := Nat.or_lt_two_pow (by omega) (by omega)
    obtain ⟨R, r1, r2, r3⟩ := bf_L2 h F xs (acc ||| mk b p) (fun y hy => hx y (List.mem_cons_of_mem _ hy)) hlt2
    refine ⟨R, by rw [brambleweir_book_Book_Far_L2_c, h1, Option.bind_some, ho, Option.bind_some, r1], r2, fun q => ?_⟩
    rw [r3, Nat.testBit_or, Bool.or_eq_true]
    constructor
    · rintro ((q1 | q1) | ⟨y, y1, y2⟩)
      · exact .inl q1
      · exact .inr ⟨p, List.mem_cons_self, q1⟩
      · exact .inr ⟨y, List.mem_cons_of_mem _ y1, y2⟩
    · rintro (q1 | ⟨y, y1, y2⟩)
      · exact .inl (.inl q1)
      · rcases List.mem_cons.1 y1 with rfl | y1
        · exact .inl (.inr y2)
        · exact .inr ⟨y, y1, y2⟩
theorem flt_mono {p q : Nat → Bool} : ∀ xs : List Nat, (∀ x ∈ xs, p x = true → q x = true) → (xs.filter p).length ≤ (xs.filter q).length
  | [], _ => Nat.le_refl _
  | x :: xs, h => by
    have ih := flt_mono xs fun y hy => h y (List.mem_cons_of_mem _ hy)
    cases e : p x
    · rw [List.filter_cons_of_neg (by rw [e]; decide)]
      cases e2 : q x
      · rw [List.filter_cons_of_neg (by rw [e2]; decide)]; exact ih
      · rw [List.filter_cons_of_pos e2, List.length_cons]; omega
    · rw [List.filter_cons_of_pos e, List.filter_cons_of_pos (h x List.mem_cons_self e), List.length_cons, List.length_cons]; omega
theorem memb_grow {m m' q : Nat} (hm' : m' < 65536) (hs : ∀ x, m.testBit x = true → m'.testBit x = true) (h0 : m.testBit q = false) (h1 : m'.testBit q = true) : (memb m).length + 1 ≤ (memb m').length := by
  have hmem : q ∈ memb m' := (mem_memb hm').2 h1
  have := memb_less hmem
  have h2 : (memb m).length ≤ (memb (ndiff m' (2 ^ q))).length := flt_mono _ fun x _ hx => by
    rw [ndiff_testBit, hs x hx, Nat.testBit_two_pow]
    by_cases e : q = x
    · subst e; rw [h0] at hx; cases hx
    · rw [decide_eq_false e]; rfl
  omega
theorem far_ev1 {b : BkT} (h : BInv b) {i j : Nat} (hi : i < 8) (hj : j < 8) (hne : i ≠ j) (hb : (mk b i).testBit j = true) : brambleweir_book_Book_Far 300 b.1 (i : Int) (j : Int) = some (1, 0) := by
  unfold brambleweir_book_Book_Far
  have hA : core_All 300 [(i : Int), (j : Int)] 0 7 = some true := by
    rw [core_All_ev _ _ (by simp) (by simp)]
    congr 1
    simp [allIn]; omega
  have hp : 2 ^ i ≤ 2 ^ 7 := Nat.pow_le_pow_right (by omega) (by omega)
  have hw : sWith 0 (i : Int) = some (2 ^ i) := by unfold sWith; rw [if_pos (by omega), Int.toNat_natCast, Nat.zero_or]
  have hh : sHas (2 ^ i) (j : Int) = some false := by unfold sHas; rw [if_pos (by omega), Int.toNat_natCast, Nat.testBit_two_pow, decide_eq_false hne]
  have he : sEach (2 ^ i) = some [i] := by
    unfold sEach; rw [if_pos (by omega)]
    have : ∀ k, k < 8 → memb (2 ^ k) = [k] := by decide +kernel
    rw [this i hi]
  have h1 : ix b.1 (i : Int) = some (mk b i) := ix_at 0 (by have := h.len; omega)
  have hlt := h.lt i hi
  have ho : sOr (2 ^ i) (mk b i) = some (2 ^ i ||| mk b i) := by unfold sOr; rw [if_pos (by omega)]
  have hlt2 : 2 ^ i ||| mk b i < 2 ^ 8 := Nat.or_lt_two_pow (by omega) (by omega)
  have hne2 : (2 ^ i ||| mk b i == 2 ^ i) = false := by
    rw [beq_eq_false_iff_ne]
    intro e
    have := congrArg (fun m => m.testBit j) e
    simp only [Nat.testBit_or, hb, Nat.testBit_two_pow, decide_eq_false hne] at this
    simp at this
  have hh2 : sHas (2 ^ i ||| mk b i) (j : Int) = some true := by unfold sHas; rw [if_pos (by omega), Int.toNat_natCast, Nat.testBit_or, hb, Bool.or_true]
  rw [hA, Option.bind_some, if_pos rfl, hw, Option.bind_some, show (300 : Nat) = 298 + 1 + 1 from rfl, brambleweir_book_Book_Far_L1_s, hh, Option.bind_some, if_neg (by decide), he, Option.bind_some,
    brambleweir_book_Book_Far_L2_c, h1, Option.bind_some, ho, Option.bind_some, brambleweir_book_Book_Far_L2_n, Option.bind_some, hne2, if_neg (by decide), brambleweir_book_Book_Far_L1_s, hh2, Option.bind_some, if_pos rfl]
  show (some (Sum.inr (wrap64 (((0 : Nat) : Int) + 1), (0 : Int))) : Option ((Nat × Int) ⊕ (Int × Int))).bind _ = _
  rw [w64n (by omega)]; rfl
theorem bkE_of {x y : Nat} (hx : x < 8) (hy : y < 8) (hne : x ≠ y) : bkE (x : Int) (y : Int) = 0 := by
  unfold bkE; rw [if_pos (by omega), if_neg (by omega)]
end Go.Proofs.YtekfgkeimlidhaaGreatDoor
