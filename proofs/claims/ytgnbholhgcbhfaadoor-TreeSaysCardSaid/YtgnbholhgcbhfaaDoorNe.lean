import Derived.Test.YtgnbholhgcbhfaaDoorT3
import Derived.Test.YtgnbholhgcbhfaaDoorNm
import Derived.Test.YtgnbholhgcbhfaaDoorTrEv
import Derived.Test.YtgnbholhgcbhfaaDoorEv2
/- what the tree's functions compute -/
set_option linter.all false
set_option maxRecDepth 100000
namespace Go.Proofs.YtgnbholhgcbhfaaDoor
open Go.RowKit Pl
/-! ### greatest, least -/
def mx (f : Nat → Nat) : Nat → Nat
  | 0 => 0
  | n+1 => max (mx f n) (f n)
theorem le_mx {f : Nat → Nat} {j : Nat} : ∀ {k : Nat}, j < k → f j ≤ mx f k
  | k+1, h => by
    unfold mx
    by_cases e : j = k
    · subst e; omega
    · have := le_mx (f := f) (j := j) (k := k) (by omega); omega
theorem mx_at {f : Nat → Nat} : ∀ {k : Nat}, 0 < k → ∃ j, j < k ∧ f j = mx f k
  | k+1, _ => by
    unfold mx
    by_cases c : mx f k ≤ f k
    · exact ⟨k, by omega, by omega⟩
    · have hk : 0 < k := by
        rcases Nat.eq_zero_or_pos k with e | e
        · subst e; unfold mx at c; omega
        · exact e
      obtain ⟨j, h1, h2⟩ := mx_at (f := f) hk
      exact ⟨j, by omega, by omega⟩
def mn (f : Nat → Nat) : Nat → Nat
  | 0 => 0
  | n+1 => if n = 0 then f 0 else min (mn f n) (f n)
theorem mn_le {f : Nat → Nat} {j : Nat} : ∀ {k : Nat}, j < k → mn f k ≤ f j
  | k+1, h => by
    unfold mn
    split
    · have : j = 0 := by omega
      subst this; omega
    · by_cases e : j = k
      · subst e; omega
      · have := mn_le (f := f) (j := j) (k := k) (by omega); omega
theorem mn_at {f : Nat → Nat} : ∀ {k : Nat}, 0 < k → ∃ j, j < k ∧ f j = mn f k
  | k+1, _ => by
    unfold mn
    split
    · exact ⟨0, by omega, rfl⟩
    · by_cases c : f k ≤ mn f k
      · exact ⟨k, by omega, by omega⟩
      · obtain ⟨j, h1, h2⟩ := mn_at (f := f) (k := k) (by omega)
        exact ⟨j, by omega, by omega⟩
theorem max_L1 {o : List Int} (hl : o.length < 300) : ∀ (g j : Nat) (m : Int), o.length < j + g → j ≤ o.length → m ∈ o → (∀ i, i < j → o.getD i 0 ≤ m) →
    ∃ r x, slices_Max_int_int_L1 300 o g m (j : Int) = some (r, x) ∧ r ∈ o ∧ ∀ i, i < o.length → o.getD i 0 ≤ r
  | 0, j, m, h, hj, _, _ => by omega
  | g+1, j, m, h, hj, hm, hI => by
    rw [slices_Max_int_int_L1_s]
    by_cases c : j < o.length
    · have h1 : ix o (j : Int) = some (o.getD j 0) := ix_at 0 c
      rw [if_pos (by omega), h1, Option.bind_some, w64n (by omega)]
      have hmem : o.getD j 0 ∈ o := by rw [List.getD_eq_getElem?_getD, List.getElem?_eq_getElem c]; exact List.getElem_mem c
      unfold gmax
      by_cases e : m < o.getD j 0
      · rw [if_pos e]
        exact max_L1 hl g (j+1) _ (by omega) (by omega) hmem fun i hi => by
          by_cases q : i = j
          · subst q; exact Int.le_refl _
          · have := hI i (by omega); omega
      · rw [if_neg e]
        exact max_L1 hl g (j+1) _ (by omega) (by omega) hm fun i hi => by
          by_cases q : i = j
          · subst q; omega
          · exact hI i (by omega)
    · rw [if_neg (by omega)]
      exact ⟨m, _, rfl, hm, fun i hi => hI i (by omega)⟩
theorem max_ev {o : List Int} (h0 : 0 < o.length) (hl : o.length < 300) : ∃ r, slices_Max_int_int 300 o = some r ∧ r ∈ o ∧ ∀ i, i < o.length → o.getD i 0 ≤ r := by
  have h1 : ix o 0 = some (o.getD 0 0) := ix_at (l := o) (i := 0) 0 h0
  obtain ⟨r, x, r1, r2, r3⟩ := max_L1 hl 300 1 (o.getD 0 0) (by omega) (by omega) (by rw [List.getD_eq_getElem?_getD, List.getElem?_eq_getElem h0]; exact List.getElem_mem h0) (fun i hi => by
    have : i = 0 := by omega
    subst this; exact Int.le_refl _)
  refine ⟨r, ?_, r2, r3⟩
  unfold slices_Max_int_int
  rw [if_neg (by omega), h1, Option.bind_some, show slices_Max_int_int_L1 300 o 300 (o.getD 0 0) 1 = _ from r1, Option.bind_some]
theorem min_L1 {o : List Int} (hl : o.length < 300) : ∀ (g j : Nat) (m : Int), o.length < j + g → j ≤ o.length → m ∈ o → (∀ i, i < j → m ≤ o.getD i 0) →
    ∃ r x, slices_Min_int_int_L1 300 o g m (j : Int) = some (r, x) ∧ r ∈ o ∧ ∀ i, i < o.length → r ≤ o.getD i 0
  | 0, j, m, h, hj, _, _ => by omega
  | g+1, j, m, h, hj, hm, hI => by
    rw [slices_Min_int_int_L1_s]
    by_cases c : j < o.length
    · have h1 : ix o (j : Int) = some (o.getD j 0) := ix_at 0 c
      rw [if_pos (by omega), h1, Option.bind_some, w64n (by omega)]
      have hmem : o.getD j 0 ∈ o := by rw [List.getD_eq_getElem?_getD, List.getElem?_eq_getElem c]; exact List.getElem_mem c
      unfold gmin
      by_cases e : o.getD j 0 < m
      · rw [if_pos e]
        exact min_L1 hl g (j+1) _ (by omega) (by omega) hmem fun i hi => by
          by_cases q : i = j
          · subst q; exact Int.le_refl _
          · have := hI i (by omega); omega
      · rw [if_neg e]
        exact min_L1 hl g (j+1) _ (by omega) (by omega) hm fun i hi => by
          by_cases q : i = j
          · subst q; omega
          · exact hI i (by omega)
    · rw [if_neg (by omega)]
      exact ⟨m, _, rfl, hm, fun i hi => hI i (by omega)⟩
theorem min_ev {o : List Int} (h0 : 0 < o.length) (hl : o.length < 300) : ∃ r, slices_Min_int_int 300 o = some r ∧ r ∈ o ∧ ∀ i, i < o.length → r ≤ o.getD i 0 := by
  have h1 : ix o 0 = some (o.getD 0 0) := ix_at (l := o) (i := 0) 0 h0
  obtain ⟨r, x, r1, r2, r3⟩ := min_L1 hl 300 1 (o.getD 0 0) (by omega) (by omega) (by rw [List.getD_eq_getElem?_getD, List.getElem?_eq_getElem h0]; exact List.getElem_mem h0) (fun i hi => by
    have : i = 0 := by omega
    subst this; exact Int.le_refl _)
  refine ⟨r, ?_, r2, r3⟩
  unfold slices_Min_int_int
  rw [if_neg (by omega), h1, Option.bind_some, show slices_Min_int_int_L1 300 o 300 (o.getD 0 0) 1 = _ from r1, Option.bind_some]
/-- a row of numbers given by a function -/
theorem max_fn {o : List Int} {f : Nat → Nat} {k : Nat} (hk : 0 < k) (hlen : o.length = k) (h : ∀ j, j < k → o.getD j 0 = (f j : Int)) (hl : k < 300) : slices_Max_int_int 300 o = some (mx f k : Int) := by
  obtain ⟨r, r1, r2, r3⟩ := max_ev (o := o) (by omega) (by omega)
  rw [r1]
  obtain ⟨j, hj, e⟩ := List.getElem_of_mem r2
  have hj' : o.getD j 0 = r := by rw [List.getD_eq_getElem?_getD, List.getElem?_eq_getElem hj]; exact e
  have h1 := h j (by omega)
  have h2 := le_mx (f := f) (j := j) (k := k) (by omega)
  obtain ⟨i, hi, e2⟩ := mx_at (f := f) hk
  have h3 := r3 i (by omega)
  have h4 := h i hi
  congr 1; omega
theorem min_fn {o : List Int} {f : Nat → Nat} {k : Nat} (hk : 0 < k) (hlen : o.length = k) (h : ∀ j, j < k → o.getD j 0 = (f j : Int)) (hl : k < 300) : slices_Min_int_int 300 o = some (mn f k : Int) := by
  obtain ⟨r, r1, r2, r3⟩ := min_ev (o := o) (by omega) (by omega)
  rw [r1]
  obtain ⟨j, hj, e⟩ := List.getElem_of_mem r2
  have hj' : o.getD j 0 = r := by rw [List.getD_eq_getElem?_getD, List.getElem?_eq_getElem hj]; exact e
  have h1 := h j (by omega)
  have h2 := mn_le (f := f) (j := j) (k := k) (by omega)
  obtain ⟨i, hi, e2⟩ := mn_at (f := f) hk
  have h3 := r3 i (by omega)
  have h4 := h i hi
  congr 1; omega
/-! ### how far the farthest points are -/
def ecc (k : Nat) (l : List (Int × Int)) (a : Nat) : Nat := mx (dst k l a) k
def rad (k : Nat) (l : List (Int × Int)) : Nat := mn (ecc k l) k
def diam (k : Nat) (l : List (Int × Int)) : Nat := mx (ecc k l) k
def mids (k : Nat) (l : List (Int × Int)) : List Nat := (List.range k).filter fun a => decide (ecc k l a = rad k l)
def intl (l : List Nat) : List Int := l.map fun (x : Nat) => (x : Int)
def eccs (k : Nat) (l : List (Int × Int)) : List Int := (List.range k).map fun a => (ecc k l a : Int)
section
variable {k : Nat} {l : List (Int × Int)}
theorem eccs_len : (eccs k l).length = k := by simp [eccs]
theorem eccs_at {j : Nat} (h : j < k) : (eccs k l).getD j 0 = (ecc k l j : Int) := by simp [eccs, List.getD, h]
theorem far_L1 (G : Good k l) : ∀ (g j : Nat), k < j + g → j ≤ k → tree_far_L1 300 (k : Int) l g (j : Int) ((List.range j).map fun a => (ecc k l a : Int)) = some (eccs k l)
  | 0, j, h, hj => by omega
  | g+1, j, h, hj => by
    have := G.le
    rw [tree_far_L1_s]
    by_cases c : j < k
    · obtain ⟨o, o1, o2, o3, _⟩ := far_all G c
      have hm : slices_Max_int_int 300 o = some (ecc k l j : Int) := max_fn (f := dst k l j) (by omega) o2 o3 (by omega)
      have ha : app ((List.range j).map fun a => (ecc k l a : Int)) (ecc k l j : Int) = some ((List.range (j+1)).map fun a => (ecc k l a : Int)) := by
        unfold app; rw [if_pos (by simp; omega), List.range_succ, List.map_append]; rfl
      rw [if_pos (by omega), o1, Option.bind_some, hm, Option.bind_some, ha, Option.bind_some, w64n (by omega)]
      exact far_L1 G g (j+1) (by omega) (by omega)
    · have : j = k := by omega
      subst this
      rw [if_neg (by omega)]; rfl
theorem far_ev (G : Good k l) : tree_far 300 (k : Int) l = some (eccs k l) := by
  have := G.le
  unfold tree_far
  rw [show tree_far_L1 300 (k : Int) l 300 0 [] = _ from far_L1 G 300 0 (by omega) (Nat.zero_le _), Option.bind_some]
theorem mid_L1 (hk : k ≤ 8) (r : Nat) : ∀ (g j : Nat) (v : List Int), k < j + g → j ≤ k → v.length ≤ j →
    tree_Middle_L1 300 (eccs k l) (r : Int) g (j : Int) v = some (v ++ intl ((List.range' j (k - j)).filter fun a => decide (ecc k l a = r)))
  | 0, j, v, h, hj, _ => by omega
  | g+1, j, v, h, hj, hv => by
    rw [tree_Middle_L1_s, eccs_len]
    by_cases c : j < k
    · have h1 : ix (eccs k l) (j : Int) = some ((eccs k l).getD j 0) := ix_at 0 (by rw [eccs_len]; exact c)
      rw [if_pos (by omega), h1, Option.bind_some, eccs_at c, w64n (by omega), show k - j = (k - (j+1)) + 1 by omega, List.range'_succ]
      by_cases e : ecc k l j = r
      · have ha : app v (j : Int) = some (v ++ [(j : Int)]) := by unfold app; rw [if_pos (by omega)]
        rw [if_pos (by rw [beq_iff_eq]; omega), ha, Option.bind_some, List.filter_cons_of_pos (p := fun a => decide (ecc k l a = r)) (decide_eq_true e), mid_L1 hk r g (j+1) _ (by omega) (by omega) (by rw [List.length_append]; simp; omega), List.append_assoc]; rfl
      · rw [if_neg (by rw [beq_iff_eq]; omega), List.filter_cons_of_neg (p := fun a => decide (ecc k l a = r)) (by simpa using e)]
        exact mid_L1 hk r g (j+1) v (by omega) (by omega) (by omega)
    · have : j = k := by omega
      subst this
      rw [if_neg (by omega), Nat.sub_self]; simp [intl]
theorem check_good (G : Good k l) : tree_Check 300 (k : Int) l = some 0 := by
  rw [tree_ev G.good]
  unfold errT
  rw [if_neg (by rw [G.err]; simp), Int.toNat_natCast, if_pos ⟨G.len, G.conn⟩]
theorem middle_ev (G : Good k l) : tree_Middle 300 (k : Int) l = some (intl (mids k l), (rad k l : Int), 0) := by
  have := G.le; have := G.pos
  unfold tree_Middle
  have hm : slices_Min_int_int 300 (eccs k l) = some (rad k l : Int) := min_fn (by omega) eccs_len (fun j hj => eccs_at hj) (by omega)
  have h1 := mid_L1 (l := l) G.le (rad k l) 300 0 [] (by omega) (Nat.zero_le _) (Nat.zero_le _)
  rw [List.nil_append, Nat.sub_zero, ← List.range_eq_range'] at h1
  rw [check_good G, Option.bind_some, if_neg (by decide), far_ev G, Option.bind_some, hm, Option.bind_some, show tree_Middle_L1 300 (eccs k l) (rad k l : Int) 300 0 [] = _ from h1, Option.bind_some]; rfl
theorem middle_bad {n : Int} (hg : good n l) (h : errT n l ≠ 0) : tree_Middle 300 n l = some ([], 0, errT n l) := by
  unfold tree_Middle
  rw [tree_ev hg, Option.bind_some, if_pos (by rw [bne_iff_ne]; exact h)]
theorem long_ev (G : Good k l) : tree_Long 300 (k : Int) l = some ((diam k l : Int), 0) := by
  have := G.le; have := G.pos
  unfold tree_Long
  have hm : slices_Max_int_int 300 (eccs k l) = some (diam k l : Int) := max_fn (by omega) eccs_len (fun j hj => eccs_at hj) (by omega)
  rw [check_good G, Option.bind_some, if_neg (by decide), far_ev G, Option.bind_some, hm, Option.bind_some]
theorem long_bad {n : Int} (hg : good n l) (h : errT n l ≠ 0) : tree_Long 300 n l = some (0, errT n l) := by
  unfold tree_Long
  rw [tree_ev hg, Option.bind_some, if_pos (by rw [bne_iff_ne]; exact h)]
/-! ### bytes -/
theorem lb_size (u : List UInt8) : (lb u).size = u.length := by show (u.toArray).size = _; simp
theorem lb_app (u v : List UInt8) : lb u ++ lb v = lb (u ++ v) := by
  apply ByteArray.ext
  rw [ByteArray.data_append]
  simp [lb]
theorem lb_toList (u : List UInt8) : (lb u).toList = u := by rw [ByteArray.toList_eq]; simp [lb]
theorem cat_lb {u v : List UInt8} (h : u.length + v.length < 1000000000) : sCat (lb u) (lb v) = some (lb (u ++ v)) := by
  unfold sCat; rw [lb_size, lb_size, if_pos h, lb_app]
theorem less_iff : ∀ u v : List UInt8, Go.Op.bytesLess u v = decide (u < v)
  | u, [] => by cases u <;> simp [Go.Op.bytesLess]
  | [], _ :: _ => by simp [Go.Op.bytesLess]
  | a :: u, b :: v => by
    unfold Go.Op.bytesLess
    rw [less_iff u v]
    by_cases h1 : a < b
    · simp [h1, List.cons_lt_cons_iff]
    · by_cases h2 : a = b
      · subst h2; simp [List.cons_lt_cons_iff]
      · simp [h1, h2, List.cons_lt_cons_iff]
/-! ### names -/
def adjB (k : Nat) (l : List (Int × Int)) (i j : Nat) : Bool := ((besM k l).getD i 0).testBit j
theorem adjB_iff (x y : Nat) : adjB k l x y = true ↔ Ad k l x y := Iff.rfl
theorem memb_ch (G : Good k l) (a : Nat) (f : Int) : (memb ((besM k l).getD a 0)).filter (fun x : Nat => decide ((x : Int) ≠ f)) = Nm.ch k (adjB k l) a f := by
  have hk := G.le
  have hm : memb ((besM k l).getD a 0) = (List.range k).filter fun j => adjB k l a j := by
    unfold memb
    have : List.range 16 = List.range k ++ List.range' k (16 - k) := by
      have := List.range'_append_1 (s := 0) (m := k) (n := 16 - k)
      rw [List.range_eq_range', List.range_eq_range', show (16 : Nat) = k + (16 - k) by omega, ← this, Nat.zero_add, show k + (16 - k) - k = 16 - k by omega]
    rw [this, List.filter_append]
    have h2 : (List.range' k (16 - k)).filter (fun j => ((besM k l).getD a 0).testBit j) = [] := by
      rw [List.filter_eq_nil_iff]
      intro j hj hb
      have := (ad_lt (k := k) (l := l) G.inl (i := a) (j := j) hb).2
      have := (List.mem_range'_1.1 hj).1
      omega
    rw [h2, List.append_nil]; rfl
  unfold Nm.ch
  rw [hm, List.filter_filter]
  exact List.filter_congr fun x _ => Bool.and_comm _ _
theorem name_L1 {G : List (Int × Int)} (rec : List Nat → Int → Int → Option ByteArray) (v0 : List Nat) (a : Nat) (f : Int) (g : Nat → List UInt8) : ∀ (xs : List Nat) (v : List ByteArray), v.length + xs.length < 1000 →
    (∀ x ∈ xs, (x : Int) ≠ f → rec v0 (x : Int) (a : Int) = some (lb (g x))) → tree_name_L1 300 rec v0 (a : Int) f xs v = some (v ++ ((xs.filter fun x : Nat => decide ((x : Int) ≠ f)).map fun c => lb (g c)))
  | [], v, _, _ => by rw [tree_name_L1_n]; simp
  | x :: xs, v, hl, h => by
    rw [tree_name_L1_c]
    rw [List.length_cons] at hl
    have ih := fun v' hv' => name_L1 (G := G) rec v0 a f g xs v' hv' fun y hy => h y (List.mem_cons_of_mem _ hy)
    by_cases c : (x : Int) = f
    · rw [if_neg (by rw [bne_iff_ne]; simpa using c), List.filter_cons_of_neg (p := fun x : Nat => decide ((x : Int) ≠ f)) (by simpa using c)]
      exact ih v (by omega)
    · have ha : app v (lb (g x)) = some (v ++ [lb (g x)]) := by unfold app; rw [if_pos (by omega)]
      rw [if_pos (by rw [bne_iff_ne]; exact c), h x List.mem_cons_self c, Option.bind_some, ha, Option.bind_some, List.filter_cons_of_pos (p := fun x : Nat => decide ((x : Int) ≠ f)) (by simpa using c), ih _ (by rw [List.length_append]; simp; omega), List.map_cons, List.append_assoc]; rfl
theorem name_L2 (rec : List Nat → Int → Int → Option ByteArray) {N : List (List UInt8)} (hN : N.length ≤ 100) (hb : ∀ u ∈ N, u.length ≤ 1000) : ∀ (g j : Nat) (u : List UInt8), N.length < j + g → j ≤ N.length → u.length ≤ 10 + 1000 * j →
    tree_name_L2 300 rec (N.map lb) g (j : Int) (lb u) = some (lb (u ++ (N.drop j).flatten))
  | 0, j, u, h, hj, _ => by omega
  | g+1, j, u, h, hj, hu => by
    rw [tree_name_L2_s, List.length_map]
    by_cases c : j < N.length
    · have h1 : ix (N.map lb) (j : Int) = some (lb N[j]) := by unfold ix; rw [if_pos (by omega), Int.toNat_natCast, List.getElem?_map, List.getElem?_eq_getElem c]; rfl
      have hn := hb _ (List.getElem_mem c)
      rw [if_pos (by omega), h1, Option.bind_some, cat_lb (by omega), Option.bind_some, w64n (by omega), name_L2 rec hN hb g (j+1) _ (by omega) (by omega) (by rw [List.length_append]; omega), List.append_assoc]
      rw [List.drop_eq_getElem_cons c, List.flatten_cons]
    · rw [if_neg (by omega), List.drop_eq_nil_of_le (by omega)]; simp
theorem nm_le (G : Good k l) {n a : Nat} {f : Int} (ha : a < k) (hv : Nm.val (Ad k l) f a) : (Nm.nm k (adjB k l) n a f).length ≤ 2 * k := by
  rw [Nm.nm_len]
  have hn := Nm.vs_nodup (tr_of G) adjB_iff n a f ha hv
  have := nodup_lt k _ hn fun x hx => ((Nm.vs_iff (tr_of G) adjB_iff n a f ha hv x).1 hx).1.1
  omega
theorem nameF (G : Good k l) : ∀ (n a : Nat) (f : Int), a < k → Nm.val (Ad k l) f a → (∀ x, Nm.Sb k (dst k l) f a x → dst k l a x ≤ n) → tree_name 300 (n+1) (besM k l) (a : Int) f = some (lb (Nm.nm k (adjB k l) n a f))
  | n, a, f, ha, hv, hd => by
    have hk := G.le
    have hp := Nat.pow_le_pow_right (n := 2) (by omega) hk
    have T := tr_of G
    have hbl : (besM k l).length = k := (besM_row G.inl).1
    have h1 : ix (besM k l) (a : Int) = some ((besM k l).getD a 0) := ix_at 0 (by rw [hbl]; exact ha)
    have hml := besM_lt G.inl a
    have hmm : ∀ x, x ∈ memb ((besM k l).getD a 0) → Ad k l a x := fun x hx => by
      unfold memb at hx; exact (List.mem_filter.1 hx).2
    rw [tree_name_s, h1, Option.bind_some, sEach_ev (by omega), Option.bind_some]
    have hlen : (memb ((besM k l).getD a 0)).length ≤ 16 := by
      unfold memb
      have := List.length_filter_le (fun j => ((besM k l).getD a 0).testBit j) (List.range 16)
      simpa using this
    have hchl : ∀ f', (Nm.ch k (adjB k l) a f').length ≤ 16 := fun f' => by
      rw [← memb_ch G]
      exact Nat.le_trans (List.length_filter_le _ _) hlen
    obtain ⟨g, hg, hnm, hgl⟩ : ∃ g : Nat → List UInt8, (∀ x ∈ memb ((besM k l).getD a 0), (x : Int) ≠ f → tree_name 300 n (besM k l) (x : Int) (a : Int) = some (lb (g x))) ∧
        Nm.nm k (adjB k l) n a f = 40 :: ((Nm.srt ((Nm.ch k (adjB k l) a f).map g)).flatten ++ [41]) ∧ ∀ c ∈ Nm.ch k (adjB k l) a f, (g c).length ≤ 1000 := by
      cases n with
      | zero =>
        have hno : ∀ x, Ad k l a x → (x : Int) ≠ f → False := fun x hx hf => by
          have hc : x ∈ Nm.ch k (adjB k l) a f := (Nm.ch_mem T adjB_iff).2 ⟨hx, hf⟩
          obtain ⟨c1, c2⟩ := Nm.ch_val T adjB_iff hc
          have := hd x (Nm.ch_sb T adjB_iff hv hc (Nm.sb_self T c1 c2))
          have := T.one hx; omega
        have he : Nm.ch k (adjB k l) a f = [] := List.eq_nil_iff_forall_not_mem.2 fun x hx => by
          have := (Nm.ch_mem T adjB_iff).1 hx
          exact hno x this.1 this.2
        refine ⟨fun _ => [], fun x hx hf => (hno x (hmm x hx) hf).elim, ?_, fun c hc => ?_⟩
        · rw [he]; show ([40, 41] : List UInt8) = 40 :: ((Nm.srt []).flatten ++ [41]); simp [Nm.srt]
        · rw [he] at hc; cases hc
      | succ n =>
        refine ⟨fun c => Nm.nm k (adjB k l) n c a, fun x hx hf => ?_, rfl, fun c hc => ?_⟩
        · have hc : x ∈ Nm.ch k (adjB k l) a f := (Nm.ch_mem T adjB_iff).2 ⟨hmm x hx, hf⟩
          obtain ⟨c1, c2⟩ := Nm.ch_val T adjB_iff hc
          refine nameF G n x a c1 c2 fun y hy => ?_
          have h2 := hd y (Nm.ch_sb T adjB_iff hv hc hy)
          have h3 := hy.2 a rfl
          rw [T.symd ha hy.1] at h2
          rw [T.symd c1 hy.1]; omega
        · obtain ⟨c1, c2⟩ := Nm.ch_val T adjB_iff hc
          have := nm_le G (n := n) c1 c2
          show (Nm.nm k (adjB k l) n c ((a : Nat) : Int)).length ≤ 1000
          omega
    rw [name_L1 (G := l) (tree_name 300 n) (besM k l) a f g _ [] (by rw [List.length_nil]; omega) hg, List.nil_append, memb_ch G, Option.bind_some]
    have hs : slSortS ((Nm.ch k (adjB k l) a f).map fun c => lb (g c)) = some ((Nm.srt ((Nm.ch k (adjB k l) a f).map g)).map lb) := by
      unfold slSortS
      have := hchl f
      rw [if_pos (by rw [List.length_map]; omega), List.map_map]
      have : (bl ∘ fun c => lb (g c)) = g := funext fun c => bl_lb (g c)
      rw [this]
    have hsl : (Nm.srt ((Nm.ch k (adjB k l) a f).map g)).length ≤ 16 := by
      rw [(Nm.srt_perm _).length_eq, List.length_map]; exact hchl f
    have hsb : ∀ u ∈ Nm.srt ((Nm.ch k (adjB k l) a f).map g), u.length ≤ 1000 := fun u hu => by
      obtain ⟨c, hc, rfl⟩ := List.mem_map.1 ((Nm.srt_perm _).mem_iff.1 hu)
      exact hgl c hc
    have h2 := name_L2 (tree_name 300 n) (N := Nm.srt ((Nm.ch k (adjB k l) a f).map g)) (by omega) hsb 300 0 [40] (by omega) (Nat.zero_le _) (by simp)
    rw [hs, Option.bind_some, show tree_name_L2 300 (tree_name 300 n) _ 300 0 (⟨#[40]⟩ : ByteArray) = _ from h2, Option.bind_some, List.drop_zero]
    have hfin : ([40] ++ (Nm.srt ((Nm.ch k (adjB k l) a f).map g)).flatten).length ≤ 2 * k := by
      have := nm_le G (n := n) ha hv
      rw [hnm] at this; simp at this ⊢; omega
    rw [show (⟨#[41]⟩ : ByteArray) = lb [41] from rfl, cat_lb (by simp at hfin ⊢; omega), Option.bind_some, hnm]
    simp
/-- a point's own name -/
def nmR (k : Nat) (l : List (Int × Int)) (a : Nat) : List UInt8 := Nm.nm k (adjB k l) 299 a (-1)
theorem dst_lt (G : Good k l) {a x : Nat} (ha : a < k) (hx : x < k) : dst k l a x < k := by
  have T := tr_of G
  obtain ⟨w, h1, h2⟩ := T.way_ex ha _ x rfl hx
  have hm := T.way_mem ha hx h1
  -- the points at each distance
  have key : ∀ n, ∀ v, v < k → dst k l a v = n → ∃ vs : List Nat, vs.Nodup ∧ vs.length = n + 1 ∧ ∀ y ∈ vs, y < k ∧ dst k l a y ≤ n := by
    intro n
    induction n with
    | zero => intro v hv e; exact ⟨[v], by simp, rfl, fun y hy => by rw [List.mem_singleton.1 hy]; omega⟩
    | succ n ih =>
      intro v hv e
      have hne : v ≠ a := fun q => by subst q; rw [T.zero v hv] at e; omega
      obtain ⟨u, hu1, hu2⟩ := T.down a v ha hv hne
      obtain ⟨vs, v1, v2, v3⟩ := ih u (T.lt _ _ hu1).1 (by omega)
      refine ⟨v :: vs, List.nodup_cons.2 ⟨fun hq => by have := (v3 v hq).2; omega, v1⟩, by rw [List.length_cons, v2], fun y hy => ?_⟩
      rcases List.mem_cons.1 hy with rfl | hy
      · exact ⟨hv, by omega⟩
      · have := v3 y hy; omega
  obtain ⟨vs, v1, v2, v3⟩ := key _ x hx rfl
  have := nodup_lt k vs v1 fun y hy => (v3 y hy).1
  omega
theorem name_root (G : Good k l) {a : Nat} (ha : a < k) : tree_name 300 300 (besM k l) (a : Int) (-1) = some (lb (nmR k l a)) :=
  nameF G 299 a (-1) ha (.inl rfl) fun x hx => by have := dst_lt G ha hx.1; have := G.le; omega
theorem nmR_vs (G : Good k l) {a : Nat} (ha : a < k) : (Nm.vs k (adjB k l) 299 a (-1)).Perm (List.range k) :=
  Nm.vs_root (tr_of G) adjB_iff ha fun x hx => by have := dst_lt G ha hx; have := G.le; omega
theorem nmR_len (G : Good k l) {a : Nat} (ha : a < k) : (nmR k l a).length = 2 * k ∧ (nmR k l a).count 40 = k := by
  have h := (nmR_vs G ha).length_eq
  rw [List.length_range] at h
  unfold nmR
  rw [Nm.nm_len, Nm.nm_cnt, h]; exact ⟨rfl, rfl⟩
theorem Name_L1 (G : Good k l) {ms : List Nat} (hms : ∀ a ∈ ms, a < k) (hl : ms.length ≤ 8) : ∀ (g j : Nat), ms.length < j + g → j ≤ ms.length → tree_Name_L1 300 (intl ms) (besM k l) g (j : Int) ((ms.take j).map fun a => lb (nmR k l a)) = some (ms.map fun a => lb (nmR k l a))
  | 0, j, h, hj => by omega
  | g+1, j, h, hj => by
    rw [tree_Name_L1_s]
    have hil : (intl ms).length = ms.length := by simp [intl]
    rw [hil]
    by_cases c : j < ms.length
    · have h1 : ix (intl ms) (j : Int) = some ((ms[j] : Nat) : Int) := by unfold ix intl; rw [if_pos (by omega), Int.toNat_natCast, List.getElem?_map, List.getElem?_eq_getElem c]; rfl
      have ha : app ((ms.take j).map fun a => lb (nmR k l a)) (lb (nmR k l ms[j])) = some ((ms.take (j+1)).map fun a => lb (nmR k l a)) := by
        unfold app; rw [if_pos (by simp; omega), List.take_succ_eq_append_getElem c, List.map_append]; rfl
      rw [if_pos (by omega), h1, Option.bind_some, name_root G (hms _ (List.getElem_mem c)), Option.bind_some, ha, Option.bind_some, w64n (by omega)]
      exact Name_L1 G hms hl g (j+1) (by omega) (by omega)
    · rw [if_neg (by omega), List.take_of_length_le (by omega)]
theorem cmpS_ev (u v : List UInt8) : brambleweir_tree_Name_1 300 (lb u) (lb v) = some (if u < v then -1 else if u = v then 0 else 1) := by
  unfold brambleweir_tree_Name_1 cmp_Compare_string cmp_isNaN_string
  simp only [lb_toList, beq_self_eq_true, if_true, Option.bind_some, Bool.false_eq_true, if_false, less_iff, decide_eq_true_eq]
  by_cases h : u < v
  · simp [h]
  · by_cases e : u = v
    · subst e; simp [h]
    · simp [h, e]
theorem minF_L1 {N : List (List UInt8)} (hN : N.length ≤ 100) : ∀ (g j : Nat) (m : List UInt8), N.length < j + g → j ≤ N.length → m ∈ N → (∀ i, i < j → ∀ u, N[i]? = some u → m ≤ u) →
    ∃ r x, slices_MinFunc_string_string_L1 300 (N.map lb) (fun z6 z7 => brambleweir_tree_Name_1 300 z6 z7) g (lb m) (j : Int) = some (lb r, x) ∧ r ∈ N ∧ ∀ u ∈ N, r ≤ u
  | 0, j, m, h, hj, _, _ => by omega
  | g+1, j, m, h, hj, hm, hI => by
    rw [slices_MinFunc_string_string_L1_s, List.length_map]
    by_cases c : j < N.length
    · have h1 : ix (N.map lb) (j : Int) = some (lb N[j]) := by unfold ix; rw [if_pos (by omega), Int.toNat_natCast, List.getElem?_map, List.getElem?_eq_getElem c]; rfl
      rw [if_pos (by omega), h1]
      simp only [Option.bind_some]
      rw [cmpS_ev, Option.bind_some, w64n (by omega)]
      by_cases e : N[j] < m
      · rw [if_pos e, if_pos (by decide)]
        exact minF_L1 hN g (j+1) _ (by omega) (by omega) (List.getElem_mem c) fun i hi u hu => by
          by_cases q : i = j
          · subst q; rw [List.getElem?_eq_getElem c] at hu; rw [Option.some.inj hu]; exact List.le_refl _
          · exact List.le_trans (List.le_of_lt e) (hI i (by omega) u hu)
      · have hn : ¬ ((if N[j] < m then (-1 : Int) else if N[j] = m then 0 else 1) < 0) := by
          rw [if_neg e]; split <;> decide
        rw [if_neg hn]
        exact minF_L1 hN g (j+1) _ (by omega) (by omega) hm fun i hi u hu => by
          by_cases q : i = j
          · subst q; rw [List.getElem?_eq_getElem c] at hu; rw [← Option.some.inj hu]; exact e
          · exact hI i (by omega) u hu
    · rw [if_neg (by omega)]
      refine ⟨m, _, rfl, hm, fun u hu => ?_⟩
      obtain ⟨i, hi, e⟩ := List.getElem_of_mem hu
      exact hI i (by omega) u (by rw [List.getElem?_eq_getElem hi, e])
theorem mids_mem {a : Nat} : a ∈ mids k l ↔ a < k ∧ ecc k l a = rad k l := by unfold mids; rw [List.mem_filter, List.mem_range, decide_eq_true_iff]
theorem mids_len (h : k ≤ 8) : (mids k l).length ≤ 8 := by
  unfold mids
  have := List.length_filter_le (fun a => decide (ecc k l a = rad k l)) (List.range k)
  rw [List.length_range] at this; omega
theorem mids_pos (h : 0 < k) : 0 < (mids k l).length := by
  obtain ⟨a, h1, h2⟩ := mn_at (f := ecc k l) h
  exact List.length_pos_of_mem (mids_mem.2 ⟨h1, h2⟩)
/-- the tree's name: the least of the names of its middle -/
theorem Name_ev (G : Good k l) : ∃ s, tree_Name 300 (k : Int) l = some (lb s, 0) ∧ (∃ a ∈ mids k l, s = nmR k l a) ∧ ∀ a ∈ mids k l, s ≤ nmR k l a := by
  have hk := G.le
  have hp := mids_pos (l := l) (show 0 < k from G.pos)
  have hl := mids_len (l := l) hk
  have hml : ((mids k l).map (nmR k l)).length = (mids k l).length := List.length_map ..
  have hmm : ((mids k l).map fun a => lb (nmR k l a)) = ((mids k l).map (nmR k l)).map lb := by rw [List.map_map]; rfl
  have h0 : ((mids k l).map (nmR k l))[0]? = some (nmR k l (mids k l)[0]) := by rw [List.getElem?_map, List.getElem?_eq_getElem hp]; rfl
  obtain ⟨r, x, r1, r2, r3⟩ := minF_L1 (N := (mids k l).map (nmR k l)) (by omega) 300 1 (nmR k l (mids k l)[0]) (by omega) (by omega) (List.mem_of_getElem? h0) (fun i hi u hu => by
    have : i = 0 := by omega
    subst this
    rw [h0] at hu; rw [Option.some.inj hu]; exact List.le_refl _)
  refine ⟨r, ?_, ?_, fun a ha => r3 _ (List.mem_map.2 ⟨a, ha, rfl⟩)⟩
  · unfold tree_Name
    have h1 : mBeside (k : Int) l = some (besM k l) := mBeside_ev G.good G.err
    have h2 := Name_L1 G (ms := mids k l) (fun a ha => (mids_mem.1 ha).1) (by omega) 300 0 (by omega) (Nat.zero_le _)
    rw [middle_ev G, Option.bind_some]
    dsimp only
    rw [if_neg (by decide), h1, Option.bind_some, show tree_Name_L1 300 (intl (mids k l)) (besM k l) 300 0 [] = _ from h2, Option.bind_some]
    have h3 : ix (((mids k l).map (nmR k l)).map lb) 0 = some (lb (nmR k l (mids k l)[0])) := by unfold ix; rw [if_pos (by omega), show Int.toNat 0 = 0 from rfl, List.getElem?_map, h0]; rfl
    unfold slices_MinFunc_string_string
    rw [hmm, if_neg (by rw [List.length_map, hml]; omega), h3, Option.bind_some, show slices_MinFunc_string_string_L1 300 _ _ 300 _ 1 = _ from r1, Option.bind_some, Option.bind_some]
  · obtain ⟨a, ha, e⟩ := List.mem_map.1 r2
    exact ⟨a, ha, e.symm⟩
theorem Name_bad {n : Int} (hg : good n l) (h : errT n l ≠ 0) : tree_Name 300 n l = some (⟨#[]⟩, errT n l) := by
  unfold tree_Name
  rw [middle_bad hg h, Option.bind_some]
  dsimp only
  rw [if_pos (by rw [bne_iff_ne]; exact h)]
end
/-! ### the closed fact -/
def lT : List (Int × Int) := [(0, 1), (1, 2)]
theorem goodT : Good 3 lT := by
  have hg : good ((3 : Nat) : Int) lT := by decide
  have h : tree_Check 300 ((3 : Nat) : Int) lT = some 0 := by decide +kernel
  rw [tree_ev hg] at h
  obtain ⟨k, hk, G⟩ := good_of hg (Option.some.inj h)
  have : k = 3 := by omega
  subst this; exact G
theorem midT : mids 3 lT = [1] := by decide +kernel
theorem radT : rad 3 lT = 1 := by decide +kernel
theorem chT1 : Nm.ch 3 (adjB 3 lT) 1 (-1) = [0, 2] := by decide +kernel
theorem chT0 : Nm.ch 3 (adjB 3 lT) 0 ((1 : Nat) : Int) = [] := by decide +kernel
theorem chT2 : Nm.ch 3 (adjB 3 lT) 2 ((1 : Nat) : Int) = [] := by decide +kernel
theorem srt_nil : Nm.srt [] = [] := by simp [Nm.srt]
theorem nmT : nmR 3 lT 1 = [40, 40, 41, 40, 41, 41] := by
  have h0 : Nm.nm 3 (adjB 3 lT) (297+1) 0 ((1 : Nat) : Int) = [40, 41] := by
    unfold Nm.nm; rw [chT0, List.map_nil, srt_nil]; rfl
  have h2 : Nm.nm 3 (adjB 3 lT) (297+1) 2 ((1 : Nat) : Int) = [40, 41] := by
    unfold Nm.nm; rw [chT2, List.map_nil, srt_nil]; rfl
  have hs : Nm.srt [[40, 41], [40, 41]] = [[40, 41], [40, 41]] := Nm.sorted_eq (Nm.srt_perm _) (Nm.srt_sorted _) (by simp)
  show Nm.nm 3 (adjB 3 lT) (298+1) 1 (-1) = _
  unfold Nm.nm
  rw [chT1, List.map_cons, List.map_cons, List.map_nil, show Nm.nm 3 (adjB 3 lT) 298 0 ((1 : Nat) : Int) = _ from h0, show Nm.nm 3 (adjB 3 lT) 298 2 ((1 : Nat) : Int) = _ from h2, hs]; rfl
end Go.Proofs.YtgnbholhgcbhfaaDoor
