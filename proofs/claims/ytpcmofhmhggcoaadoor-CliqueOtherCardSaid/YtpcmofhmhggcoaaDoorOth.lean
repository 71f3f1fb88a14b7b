import Derived.Test.YtpcmofhmhggcoaaDoorH5
import Derived.Test.YtpcmofhmhggcoaaDoorPl3
set_option linter.all false
set_option maxRecDepth 100000
namespace Go.Proofs.YtpcmofhmhggcoaaDoor
open Go.RowKit Go.Shelf Pl
theorem L3_in_ev (F : Nat) (n a b : Int) : L3_in F n a b = some (decide (a ≤ n ∧ n ≤ b)) := by
  unfold L3_in
  by_cases h1 : a ≤ n <;> by_cases h2 : n ≤ b <;> simp [h1, h2]
/-! ### colours -/
/-- can the points from |o| on have colours below many, d of them? -/
def canM (a : Nat → Nat → Bool) (many : Nat) : Nat → List Nat → Bool
  | 0, _ => true
  | d+1, o => (List.range' 0 many).any fun c => (List.range' 0 o.length).all (fun j => !(a o.length j && o.getD j 0 == c)) && canM a many d (o ++ [c])
theorem ix_map {o : List Nat} {j : Nat} (h : j < o.length) : ix (o.map fun (x : Nat) => (x : Int)) (j : Int) = some ((o.getD j 0 : Nat) : Int) := by
  rw [ix_nat (by simpa using h)]; simp [List.getD, h]
theorem ix_getD {l : List Nat} {j : Nat} (h : j < l.length) : ix l (j : Int) = some (l.getD j 0) := by
  rw [ix_nat h]; simp [List.getD, h]
theorem sHas_ev {m j : Nat} (hm : m < 65536) (hj : j < 64) : sHas m (j : Int) = some (m.testBit j) := by
  unfold sHas; rw [if_pos ⟨hm, by omega, by omega⟩]; rfl
theorem getD_lt {bes : List Nat} (hb : ∀ m ∈ bes, m < 65536) (i : Nat) : bes.getD i 0 < 65536 := by
  by_cases h : i < bes.length
  · simp [List.getD, h]; exact hb _ (List.getElem_mem h)
  · simp [List.getD, h]
theorem can_L2 (F : Nat) (rec : List Nat → List Int → Int → Option Bool) (bes : List Nat) (o : List Nat) (c : Nat) (hi : o.length < bes.length) (hb : ∀ m ∈ bes, m < 65536) (ho : o.length ≤ 8) :
    ∀ g j b, o.length < g + j → j ≤ o.length → color_can_L2 F rec bes (o.map fun (x : Nat) => (x : Int)) (o.length : Int) (c : Int) g (j : Int) b = some (b && (List.range' j (o.length - j)).all (fun t => !(adj bes o.length t && o.getD t 0 == c)))
  | 0, j, b, h, hj => by omega
  | g+1, j, b, h, hj => by
    rw [color_can_L2_s]
    by_cases hlt : j < o.length
    · have ih := fun b => can_L2 F rec bes o c hi hb ho g (j+1) b (by omega) (by omega)
      push_cast at ih
      rw [if_pos (by simpa using hlt), ix_map hlt, Option.bind_some, w64n (by omega), ix_getD hi]
      simp only [Option.bind_some, sHas_ev (getD_lt hb _) (show j < 64 by omega)]
      have e : o.length - j = (o.length - (j+1)) + 1 := by omega
      rw [e, List.range'_succ, List.all_cons]
      have ec : ((((o.getD j 0 : Nat) : Int)) != (c : Int)) = !(o.getD j 0 == c) := by rw [Bool.eq_iff_iff]; simp; omega
      rw [ec]
      cases b with
      | false => simp [ih]
      | true =>
        have ea : (bes.getD o.length 0).testBit j = adj bes o.length j := rfl
        rw [ea]
        cases h1 : (o.getD j 0 == c) <;> cases h2 : adj bes o.length j <;> simp [ih]
    · have : j = o.length := by omega
      rw [if_neg (by simpa using hlt), this]; simp
theorem can_L1 (F d : Nat) (rec : List Nat → List Int → Int → Option Bool) (bes : List Nat) (o : List Nat) (many : Nat) (hi : o.length < bes.length) (hb : ∀ m ∈ bes, m < 65536) (ho : o.length ≤ 8) (hF : 10 < F) (hm : many ≤ 100)
    (hr : ∀ c < many, rec bes ((o ++ [c]).map fun (x : Nat) => (x : Int)) (many : Int) = some (canM (adj bes) many d (o ++ [c]))) :
    ∀ g c, many < g + c → c ≤ many → color_can_L1 F rec bes (o.map fun (x : Nat) => (x : Int)) (many : Int) (o.length : Int) g (c : Int) =
      some (if (List.range' c (many - c)).any (fun c => (List.range' 0 o.length).all (fun j => !(adj bes o.length j && o.getD j 0 == c)) && canM (adj bes) many d (o ++ [c])) then .inr true else .inl ())
  | 0, c, h, hj => by omega
  | g+1, c, h, hj => by
    rw [color_can_L1_s]
    by_cases hlt : c < many
    · have ih := can_L1 F d rec bes o many hi hb ho hF hm hr g (c+1) (by omega) (by omega)
      have h2 := can_L2 F rec bes o c hi hb ho F 0 true (by omega) (by omega)
      rw [if_pos (by omega), show (0 : Int) = ((0 : Nat) : Int) from rfl, h2, Option.bind_some, w64n (by omega)]
      have e : many - c = (many - (c+1)) + 1 := by omega
      rw [e, List.range'_succ, List.any_cons]
      have ea : apF (o.map fun (x : Nat) => (x : Int)) (o.length : Int) (c : Int) = some ((o ++ [c]).map fun (x : Nat) => (x : Int)) := by
        unfold apF; rw [if_pos (by simp; omega)]; simp
      simp only [ea, Option.bind_some, hr c hlt, Bool.true_and, Nat.sub_zero, ih]
      generalize ((List.range' (c + 1) (many - (c + 1))).any fun c => (List.range' 0 o.length).all (fun j => !(adj bes o.length j && o.getD j 0 == c)) && canM (adj bes) many d (o ++ [c])) = R
      generalize ((List.range' 0 o.length).all fun j => !(adj bes o.length j && o.getD j 0 == c)) = x
      generalize canM (adj bes) many d (o ++ [c]) = y
      cases x <;> cases y <;> cases R <;> rfl
    · have : c = many := by omega
      rw [if_neg (by omega), this]; simp
theorem can_ev (F : Nat) (bes : List Nat) (many : Nat) (hb : ∀ m ∈ bes, m < 65536) (h8 : bes.length ≤ 8) (hF : 110 < F) (hm : many ≤ 100) :
    ∀ d' d o, d < d' → o.length + d = bes.length → color_can F d' bes (o.map fun (x : Nat) => (x : Int)) (many : Int) = some (canM (adj bes) many d o)
  | 0, d, o, h, _ => by omega
  | d'+1, 0, o, h, ho => by
    rw [color_can_s, if_pos (by simp; omega)]; rfl
  | d'+1, d+1, o, h, ho => by
    rw [color_can_s, if_neg (by simp; omega)]
    have h1 := can_L1 F d (color_can F d') bes o many (by omega) hb (by omega) (by omega) hm (fun c _ => can_ev F bes many hb h8 hF hm d' d (o ++ [c]) (by omega) (by simp; omega)) F 0 (by omega) (by omega)
    rw [List.length_map, show (0 : Int) = ((0 : Nat) : Int) from rfl, h1, Option.bind_some]
    have hcm : canM (adj bes) many (d+1) o = (List.range' 0 many).any fun c => (List.range' 0 o.length).all (fun j => !(adj bes o.length j && o.getD j 0 == c)) && canM (adj bes) many d (o ++ [c]) := rfl
    rw [hcm, Nat.sub_zero]
    generalize ((List.range' 0 many).any fun c => (List.range' 0 o.length).all (fun j => !(adj bes o.length j && o.getD j 0 == c)) && canM (adj bes) many d (o ++ [c])) = b
    cases b <;> rfl
/-- what canM tells -/
def Paint (a : Nat → Nat → Bool) (many k : Nat) (o : List Nat) (f : Nat → Nat) : Prop :=
  (∀ i < o.length, f i = o.getD i 0) ∧ ∀ i, o.length ≤ i → i < k → f i < many ∧ ∀ j < i, a i j = true → f j ≠ f i
theorem canM_iff (a : Nat → Nat → Bool) (many : Nat) : ∀ d o, canM a many d o = true ↔ ∃ f, Paint a many (o.length + d) o f
  | 0, o => by
    refine ⟨fun _ => ⟨fun i => o.getD i 0, fun i _ => rfl, fun i h1 h2 => by omega⟩, fun _ => rfl⟩
  | d+1, o => by
    unfold canM
    rw [List.any_eq_true]
    constructor
    · rintro ⟨c, hc, h⟩
      rw [Bool.and_eq_true, canM_iff a many d] at h
      obtain ⟨h1, f, hf1, hf2⟩ := h
      rw [List.length_append, List.length_singleton] at hf1 hf2
      have e1 : ∀ i < o.length, f i = o.getD i 0 := fun i hi => by rw [hf1 i (by omega)]; simp [List.getD, List.getElem?_append, hi]
      have e2 : f o.length = c := by rw [hf1 _ (by omega)]; simp [List.getD]
      refine ⟨f, e1, fun i hi hk => ?_⟩
      by_cases he : i = o.length
      · subst he
        refine ⟨by rw [e2]; simpa using hc, fun j hj ha hc' => ?_⟩
        rw [List.all_eq_true] at h1
        have := h1 j (by simp; omega)
        rw [ha, ← e1 j hj, hc', e2] at this; simp at this
      · exact hf2 i (by omega) (by omega)
    · rintro ⟨f, hf1, hf2⟩
      refine ⟨f o.length, by simpa using (hf2 _ (Nat.le_refl _) (by omega)).1, ?_⟩
      rw [Bool.and_eq_true, canM_iff a many d, List.all_eq_true]
      refine ⟨fun j hj => ?_, f, ?_, ?_⟩
      · have hj' : j < o.length := by simpa using hj
        cases ha : a o.length j
        · rfl
        · have := (hf2 _ (Nat.le_refl _) (by omega)).2 j hj' ha
          rw [← hf1 j hj']; simpa using this
      · intro i hi
        rw [List.length_append, List.length_singleton] at hi
        by_cases he : i = o.length
        · subst he; simp [List.getD]
        · rw [hf1 i (by omega)]; simp [List.getD, List.getElem?_append, show i < o.length by omega]
      · intro i hi hk
        rw [List.length_append, List.length_singleton] at hi hk
        exact hf2 i (by omega) (by omega)
/-- a proper colouring -/
def Proper (a : Nat → Nat → Bool) (many k : Nat) (f : Nat → Nat) : Prop := ∀ i < k, f i < many ∧ ∀ j < i, a i j = true → f j ≠ f i
theorem can_iff (a : Nat → Nat → Bool) (many k : Nat) : canM a many k [] = true ↔ ∃ f, Proper a many k f := by
  rw [canM_iff]
  simp only [Paint, Proper, List.length_nil, Nat.zero_add]
  exact ⟨fun ⟨f, _, h⟩ => ⟨f, fun i hi => h i (by omega) hi⟩, fun ⟨f, h⟩ => ⟨f, fun i hi => by omega, fun i _ hi => h i hi⟩⟩
def chiFrom (a : Nat → Nat → Bool) (k : Nat) : Nat → Nat → Nat
  | 0, m => m
  | g+1, m => if canM a m k [] then m else chiFrom a k g (m+1)
/-- how few colours are enough -/
def chi (a : Nat → Nat → Bool) (k : Nat) : Nat := chiFrom a k (k-1) 1
theorem can_all (a : Nat → Nat → Bool) (k : Nat) : canM a k k [] = true := (can_iff a k k).2 ⟨id, fun i hi => ⟨hi, fun j hj _ => by simp only [id]; omega⟩⟩
theorem chiFrom_spec (a : Nat → Nat → Bool) (k : Nat) : ∀ g m, g + m = k → canM a (chiFrom a k g m) k [] = true ∧ m ≤ chiFrom a k g m ∧ chiFrom a k g m ≤ k ∧ ∀ j, m ≤ j → j < chiFrom a k g m → canM a j k [] = false
  | 0, m, h => by obtain rfl : m = k := by omega
                  exact ⟨can_all a m, Nat.le_refl _, Nat.le_refl _, fun j h1 h2 => by unfold chiFrom at h2; omega⟩
  | g+1, m, h => by
    unfold chiFrom
    cases hc : canM a m k []
    · obtain ⟨h1, h2, h3, h4⟩ := chiFrom_spec a k g (m+1) (by omega)
      refine ⟨h1, by simp; omega, h3, fun j h5 h6 => ?_⟩
      by_cases e : j = m
      · rw [e]; exact hc
      · exact h4 j (by omega) (by simpa using h6)
    · exact ⟨by simpa using hc, by simp, by simp; omega, fun j h1 h2 => by simp at h2; omega⟩
theorem chi_spec (a : Nat → Nat → Bool) {k : Nat} (hk : 1 ≤ k) : canM a (chi a k) k [] = true ∧ 1 ≤ chi a k ∧ chi a k ≤ k ∧ ∀ j, 1 ≤ j → j < chi a k → canM a j k [] = false := chiFrom_spec a k (k-1) 1 (by omega)
theorem least_L1 (F : Nat) (bes : List Nat) (hb : ∀ m ∈ bes, m < 65536) (h8 : bes.length ≤ 8) (hF : 110 < F) : ∀ g' g m, g < g' → g + m = bes.length →
    color_Least_L1 F bes g' (m : Int) = some ((chiFrom (adj bes) bes.length g m : Nat) : Int)
  | 0, g, m, h, _ => by omega
  | g'+1, 0, m, h, hm => by
    rw [color_Least_L1_s]
    have := can_ev F bes m hb h8 hF (by omega) F bes.length [] (by omega) (by simp)
    rw [List.map_nil] at this
    rw [this, Option.bind_some, show bes.length = m by omega, can_all]; rfl
  | g'+1, g+1, m, h, hm => by
    rw [color_Least_L1_s]
    have := can_ev F bes m hb h8 hF (by omega) F bes.length [] (by omega) (by simp)
    rw [List.map_nil] at this
    rw [this, Option.bind_some, w64n (by omega)]
    unfold chiFrom
    cases canM (adj bes) m bes.length []
    · simpa using least_L1 F bes hb h8 hF g' g (m+1) (by omega) (by omega)
    · rfl
theorem mCheck_ev {n : Int} {l : List (Int × Int)} (hg : good n l) : mCheck n l = some (errG n l) := by unfold mCheck; rw [if_pos hg]
theorem mBeside_ev {k : Nat} {l : List (Int × Int)} (hg : good (k : Int) l) (he : errG (k : Int) l = 0) : mBeside (k : Int) l = some (besM k l) := by unfold mBeside; rw [if_pos ⟨hg, he⟩, Int.toNat_natCast]
theorem color_Least_ev {F k : Nat} {l : List (Int × Int)} (hg : good (k : Int) l) (he : errG (k : Int) l = 0) (hk1 : 1 ≤ k) (hk8 : k ≤ 8) (hin : InL k l) (hF : 110 < F) :
    color_Least F (k : Int) l = some (((chi (adj (besM k l)) k : Nat) : Int), 0) := by
  unfold color_Least
  have hr := besM_row hin
  have hp := Nat.pow_le_pow_right (n := 2) (by omega) hk8
  rw [mCheck_ev hg, mBeside_ev hg he, he]
  simp only [Option.bind_some]
  rw [if_neg (by simp)]
  have h1 := least_L1 F (besM k l) (fun m hm => by have := hr.2 m hm; omega) (by rw [hr.1]; exact hk8) hF F (k-1) 1 (by omega) (by rw [hr.1]; omega)
  have h1' : color_Least_L1 F (besM k l) F 1 = _ := h1
  rw [h1', hr.1]; rfl
theorem class_sum (f : Nat → Nat) (al : Nat) (l : List Nat) : ∀ m, (∀ c < m, (l.filter fun x => f x == c).length ≤ al) → (l.filter fun x => decide (f x < m)).length ≤ m * al
  | 0, _ => by simp
  | m+1, h => by
    have h1 := class_sum f al l m (fun c hc => h c (by omega))
    have h2 := h m (by omega)
    have h3 : (l.filter fun x => decide (f x < m+1)).length ≤ (l.filter fun x => decide (f x < m)).length + (l.filter fun x => f x == m).length := by
      clear h1 h2 h
      induction l with
      | nil => simp
      | cons x l ih =>
        simp only [List.filter_cons]
        by_cases h1 : f x < m
        · have h2 : f x < m + 1 := by omega
          have h3 : ¬ f x = m := by omega
          simp [h1, h2, h3]; omega
        · by_cases h3 : f x = m
          · have h2 : f x < m + 1 := by omega
            simp [h1, h2, h3]; omega
          · have h2 : ¬ f x < m + 1 := by omega
            simp [h1, h2, h3]; omega
    rw [Nat.succ_mul]; omega
/-! ### the other lines -/
def oth2 (a : Nat → Nat → Bool) (i b m : Nat) : List (Int × Int) := ((List.range' b m).filter fun j => !a i j).map fun (j : Nat) => ((i : Int), (j : Int))
def oth1 (a : Nat → Nat → Bool) (k i m : Nat) : List (Int × Int) := (List.range' i m).flatMap fun i => oth2 a i (i+1) (k - (i+1))
theorem oth2_len (a : Nat → Nat → Bool) (i b m : Nat) : (oth2 a i b m).length ≤ m := by
  unfold oth2; rw [List.length_map]; have := List.length_filter_le (fun j => !a i j) (List.range' b m); simpa using this
theorem oth1_len (a : Nat → Nat → Bool) (k : Nat) : ∀ m i, (oth1 a k i m).length ≤ m * k
  | 0, i => by simp [oth1]
  | m+1, i => by
    have h1 := oth1_len a k m (i+1)
    have h2 := oth2_len a i (i+1) (k - (i+1))
    unfold oth1 at h1 ⊢
    rw [List.range'_succ, List.flatMap_cons, List.length_append, Nat.succ_mul]; omega
theorem other_L2 (F k : Nat) (bes : List Nat) (i : Nat) (hi : i < bes.length) (hb : ∀ m ∈ bes, m < 65536) (hk : k ≤ 8) : ∀ g b out, k < g + b → b ≤ k → out.length + (k - b) ≤ 1000 →
    graph_Other_L2 F (k : Int) bes (i : Int) g out (b : Int) = some (out ++ oth2 (adj bes) i b (k - b), (k : Int))
  | 0, b, out, h, _, _ => by omega
  | g+1, b, out, h, hb', ho => by
    rw [graph_Other_L2_s]
    by_cases hlt : b < k
    · have e : k - b = (k - (b+1)) + 1 := by omega
      rw [if_pos (by omega), ix_getD hi, Option.bind_some, sHas_ev (getD_lt hb _) (by omega), Option.bind_some, w64n (by omega), e]
      have ea : (bes.getD i 0).testBit b = adj bes i b := rfl
      rw [ea]
      unfold oth2
      rw [List.range'_succ, List.filter_cons]
      cases h1 : adj bes i b
      · have : app out ((i : Int), (b : Int)) = some (out ++ [((i : Int), (b : Int))]) := by unfold app; rw [if_pos (by omega)]
        rw [if_neg (by simp), this, Option.bind_some, other_L2 F k bes i hi hb hk g (b+1) (out ++ [((i : Int), (b : Int))]) (by omega) (by omega) (by simp; omega)]; simp [oth2]
      · rw [if_pos rfl, other_L2 F k bes i hi hb hk g (b+1) out (by omega) (by omega) (by omega)]; simp [oth2]
    · have : b = k := by omega
      rw [if_neg (by omega), this]; simp [oth2]
theorem other_L1 (F k : Nat) (bes : List Nat) (hl : bes.length = k) (hb : ∀ m ∈ bes, m < 65536) (hk : k ≤ 8) (hF : 10 < F) : ∀ g i out, k < g + i → i ≤ k → out.length ≤ i * 8 →
    graph_Other_L1 F (k : Int) bes g (i : Int) out = some (out ++ oth1 (adj bes) k i (k - i))
  | 0, i, out, h, _, _ => by omega
  | g+1, i, out, h, hi, ho => by
    rw [graph_Other_L1_s]
    by_cases hlt : i < k
    · have e : k - i = (k - (i+1)) + 1 := by omega
      have h2 := oth2_len (adj bes) i (i+1) (k - (i+1))
      rw [if_pos (by omega), w64n (by omega), other_L2 F k bes i (by omega) hb hk F (i+1) out (by omega) (by omega) (by omega), Option.bind_some,
        other_L1 F k bes hl hb hk hF g (i+1) _ (by omega) (by omega) (by rw [List.length_append]; omega), e]
      unfold oth1
      rw [List.range'_succ, List.flatMap_cons, List.append_assoc]
    · have : i = k := by omega
      rw [if_neg (by omega), this]; simp [oth1]
/-- the other lines -/
def othL (a : Nat → Nat → Bool) (k : Nat) : List (Int × Int) := oth1 a k 0 k
theorem mem_othL (a : Nat → Nat → Bool) (k : Nat) (p : Int × Int) : p ∈ othL a k ↔ ∃ i j : Nat, p = ((i : Int), (j : Int)) ∧ i < j ∧ j < k ∧ a i j = false := by
  unfold othL oth1 oth2
  simp only [List.mem_flatMap, List.mem_map, List.mem_filter, List.mem_range'_1]
  constructor
  · rintro ⟨i, hi, j, ⟨hj, hn⟩, rfl⟩
    exact ⟨i, j, rfl, by omega, by omega, by simpa using hn⟩
  · rintro ⟨i, j, rfl, h1, h2, h3⟩
    exact ⟨i, by omega, j, ⟨by omega, by simp [h3]⟩, rfl⟩
theorem other_ev {F k : Nat} {l : List (Int × Int)} (hg : good (k : Int) l) (he : errG (k : Int) l = 0) (hk1 : 1 ≤ k) (hk8 : k ≤ 8) (hin : InL k l) (hF : 10 < F) :
    graph_Other F (k : Int) l = some (if 24 < (othL (adj (besM k l)) k).length then ([], 4) else (othL (adj (besM k l)) k, 0)) := by
  unfold graph_Other
  have hr := besM_row hin
  have hp := Nat.pow_le_pow_right (n := 2) (by omega) hk8
  rw [mCheck_ev hg, mBeside_ev hg he, he]
  simp only [Option.bind_some]
  rw [if_neg (by simp)]
  have h1 := other_L1 F k (besM k l) hr.1 (fun m hm => by have := hr.2 m hm; omega) hk8 hF F 0 [] (by omega) (by omega) (by simp)
  have h1' : graph_Other_L1 F (k : Int) (besM k l) F 0 [] = _ := h1
  rw [h1', Option.bind_some, List.nil_append, Nat.sub_zero]
  have : oth1 (adj (besM k l)) k 0 k = othL (adj (besM k l)) k := rfl
  rw [this]
  by_cases h24 : 24 < (othL (adj (besM k l)) k).length
  · rw [if_pos (by omega), if_pos h24]
  · rw [if_neg (by omega), if_neg h24]
theorem errLines_ok {n : Int} : ∀ {l : List (Int × Int)}, (∀ p ∈ l, (0 ≤ p.1 ∧ p.1 < n ∧ 0 ≤ p.2 ∧ p.2 < n) ∧ p.1 ≠ p.2) → errLines n l = 0
  | [], _ => rfl
  | q :: l, h => by
    obtain ⟨h1, h2⟩ := h q List.mem_cons_self
    unfold errLines
    rw [if_neg (by omega), if_neg h2]
    exact errLines_ok fun p hp => h p (List.mem_cons_of_mem _ hp)
theorem errG_ok {k : Nat} {l : List (Int × Int)} (h1 : 1 ≤ k) (h8 : k ≤ 8) (h24 : l.length ≤ 24) (hin : InL k l) (hne : ∀ p ∈ l, p.1 ≠ p.2) : errG (k : Int) l = 0 := by
  unfold errG
  rw [if_neg (by omega), if_neg (by omega)]
  exact errLines_ok fun p hp => ⟨by have := hin p hp; omega, hne p hp⟩
theorem othL_in (a : Nat → Nat → Bool) (k : Nat) : InL k (othL a k) := by
  intro p hp
  obtain ⟨i, j, rfl, h1, h2, _⟩ := (mem_othL a k p).1 hp
  simp only; omega
theorem othL_ne (a : Nat → Nat → Bool) (k : Nat) : ∀ p ∈ othL a k, p.1 ≠ p.2 := by
  intro p hp
  obtain ⟨i, j, rfl, h1, h2, _⟩ := (mem_othL a k p).1 hp
  simp only; omega
theorem rows_ext {k : Nat} {s t : List Nat} (hs : s.length = k) (ht : t.length = k) (h : ∀ i < k, ∀ j, (s.getD i 0).testBit j = (t.getD i 0).testBit j) : s = t := by
  refine List.ext_getElem (by omega) fun i h1 h2 => ?_
  have := h i (by omega)
  simp only [List.getD, List.getElem?_eq_getElem h1, List.getElem?_eq_getElem h2, Option.getD_some] at this
  exact Nat.eq_of_testBit_eq this
theorem othersM_len (bes : List Nat) (k : Nat) : (othersM bes k).length = bes.length := by unfold othersM; exact apTo_len bes k k
theorem bes_oth {bes : List Nat} {k : Nat} (hr : Row k bes) (hs : ∀ i j, adj bes i j = adj bes j i) : besM k (othL (adj bes) k) = othersM bes k := by
  have hin := othL_in (adj bes) k
  refine rows_ext (k := k) (besM_row hin).1 (by rw [othersM_len, hr.1]) fun i hi j => ?_
  rw [besM_bit hin, others_bit bes k hr.1 i j hi, Bool.eq_iff_iff, Bool.or_eq_true, List.any_eq_true, List.any_eq_true]
  constructor
  · rintro (⟨p, hp, h⟩ | ⟨p, hp, h⟩)
    · obtain ⟨x, y, rfl, h1, h2, h3⟩ := (mem_othL _ k p).1 hp
      simp at h
      obtain ⟨rfl, rfl⟩ := h
      have h3' : (bes.getD x 0).testBit y = false := h3
      rw [h3']; simp; omega
    · obtain ⟨x, y, rfl, h1, h2, h3⟩ := (mem_othL _ k p).1 hp
      simp at h
      obtain ⟨rfl, rfl⟩ := h
      rw [hs] at h3
      have h3' : (bes.getD y 0).testBit x = false := h3
      rw [h3']; simp; omega
  · intro h
    simp only [Bool.and_eq_true, decide_eq_true_eq, Bool.not_eq_true', decide_eq_false_iff_not] at h
    obtain ⟨⟨h1, h2⟩, h3⟩ := h
    have h3' : adj bes i j = false := h3
    rcases Nat.lt_or_ge i j with hij | hij
    · exact .inl ⟨((i : Int), (j : Int)), (mem_othL _ k _).2 ⟨i, j, rfl, hij, h1, h3'⟩, by simp⟩
    · exact .inr ⟨((j : Int), (i : Int)), (mem_othL _ k _).2 ⟨j, i, rfl, by omega, hi, by rw [hs]; exact h3'⟩, by simp⟩
theorem oth_oth {bes : List Nat} {k : Nat} (hr : Row k bes) (hl : NoLoop bes) : othersM (othersM bes k) k = bes := by
  refine rows_ext (k := k) (by rw [othersM_len, othersM_len, hr.1]) hr.1 fun i hi j => ?_
  rw [others_bit _ k (by rw [othersM_len, hr.1]) i j hi, others_bit _ k hr.1 i j hi]
  by_cases hj : j < k
  · by_cases e : i = j
    · subst e; have := hl i; rw [this]; simp
    · simp [hj, e]
  · have : (bes.getD i 0).testBit j = false := by
      refine Nat.testBit_lt_two_pow (Nat.lt_of_lt_of_le (hr.getD hi).1 (Nat.pow_le_pow_right (by omega) (by omega)))
    rw [this]; simp [hj]
theorem others_bounds {k : Nat} {bes : List Nat} (hr : Row k bes) (hs : ∀ i j, adj bes i j = adj bes j i) (h1 : 1 ≤ k) (h8 : k ≤ 8) :
    1 ≤ mostOf (wholeM (othersM bes k) 8 0 (2 ^ k - 1) 0) ∧ mostOf (wholeM (othersM bes k) 8 0 (2 ^ k - 1) 0) ≤ k := by
  constructor
  · exact clique_most (othersM bes k) (others_sym hr.1 hr.2 hs) (others_loop bes k hr.1) h8 [0] (by simp) (by simp; omega) (by intro u hu v hv hne; simp at hu hv; omega)
  · refine mostOf_le fun m hm => ?_
    have hs := whole_sub (othersM bes k) 8 0 (2 ^ k - 1) 0 m (by have := Nat.pow_le_pow_right (n := 2) (by omega) h8; omega) hm
    have h2 : (memb m).length ≤ (List.range k).length := by
      refine nodup_len_le (List.nodup_range.filter _) fun x hx => ?_
      have := memb_bit hx
      rcases hs x this with h | h
      · rw [Nat.zero_testBit] at h; cases h
      · rw [ones_bit, decide_eq_true_eq] at h; exact List.mem_range.2 h
    simpa using h2
theorem chi_apart {k : Nat} {bes : List Nat} (hr : Row k bes) (hs : ∀ i j, adj bes i j = adj bes j i) (h1 : 1 ≤ k) (h8 : k ≤ 8) :
    k ≤ chi (adj bes) k * mostOf (wholeM (othersM bes k) 8 0 (2 ^ k - 1) 0) := by
  obtain ⟨f, hf⟩ := (can_iff _ _ _).1 (chi_spec (adj bes) h1).1
  have h := class_sum f (mostOf (wholeM (othersM bes k) 8 0 (2 ^ k - 1) 0)) (List.range k) (chi (adj bes) k) (fun c hc => by
    refine clique_most (othersM bes k) (others_sym hr.1 hr.2 hs) (others_loop bes k hr.1) h8 _ (List.nodup_range.filter _) (fun x hx => by simpa using (List.mem_filter.1 hx).1) ?_
    intro u hu v hv hne
    obtain ⟨u1, u2⟩ := List.mem_filter.1 hu
    obtain ⟨v1, v2⟩ := List.mem_filter.1 hv
    have u1' : u < k := by simpa using u1
    have v1' : v < k := by simpa using v1
    have ha : adj bes u v = false := by
      cases e : adj bes u v
      · rfl
      · exfalso
        rcases Nat.lt_or_ge u v with huv | huv
        · rw [hs] at e; have := (hf v v1').2 u huv e; simp at u2 v2; omega
        · have := (hf u u1').2 v (by omega) e; simp at u2 v2; omega
    have ha' : (bes.getD u 0).testBit v = false := ha
    show ((othersM bes k).getD u 0).testBit v = true
    rw [others_bit bes k hr.1 u v u1', ha']; simp; omega)
  have e : (List.range k).filter (fun x => decide (f x < chi (adj bes) k)) = List.range k := List.filter_eq_self.2 fun x hx => by
    have : x < k := by simpa using hx
    simpa using (hf x this).1
  rw [e, List.length_range] at h; exact h
theorem mMost_ev {n : Int} {l : List (Int × Int)} (hg : good n l) : mMost n l = some (mostM n l, errG n l) := by unfold mMost; rw [if_pos hg]
theorem mApart_ev {n : Int} {l : List (Int × Int)} (hg : good n l) : mApart n l = some (apartM n l, errG n l) := by unfold mApart; rw [if_pos hg]
theorem mul_w64 {c b : Nat} (hc : c ≤ 8) (hb : b ≤ 8) : wrap64 ((c : Int) * (b : Int)) = ((c * b : Nat) : Int) := by
  have h := Nat.mul_le_mul hc hb
  rw [Int.natCast_mul, ← Int.natCast_mul, w64 (by omega) (by omega)]
theorem other_fin (F : Nat) (k : Nat) (l m : List (Int × Int)) (a b c : Nat) (big : Bool) (h1 : mMost (k : Int) l = some ((a : Int), 0)) (h2 : mApart (k : Int) l = some ((b : Int), 0)) (h3 : color_Least F (k : Int) l = some ((c : Int), 0))
    (h4 : graph_Other F (k : Int) l = some (if big then ([], 4) else (m, 0))) (h5 : big = false → mMost (k : Int) m = some ((b : Int), 0) ∧ mApart (k : Int) m = some ((a : Int), 0))
    (hb1 : 1 ≤ b) (hbk : b ≤ k) (hc1 : 1 ≤ c) (hck : c ≤ k) (hk : k ≤ 8) (hm : k ≤ c * b) : L3_CliqueOther F (k : Int) l = some true := by
  unfold L3_CliqueOther
  have i1 : decide ((1 : Int) ≤ (b : Int) ∧ (b : Int) ≤ (k : Int)) = true := by simp; omega
  have i2 : decide ((1 : Int) ≤ (c : Int) ∧ (c : Int) ≤ (k : Int)) = true := by simp; omega
  have i3 : ¬ (((c * b : Nat) : Int) < (k : Int)) := by omega
  rw [h1, h2, h3, h4]
  simp only [mFact, Option.bind_some, L3_in_ev, mul_w64 (Nat.le_trans hck hk) (Nat.le_trans hbk hk), i1, i2]
  rw [if_neg i3]
  cases big with
  | true => rfl
  | false =>
    obtain ⟨h6, h7⟩ := h5 rfl
    simp only [Bool.false_eq_true, if_false, h6, h7, Option.bind_some]
    simp
theorem other_says {n : Int} {l : List (Int × Int)} (hg : good n l) : ∃ F, L3_CliqueOther F n l = some true := by
  obtain ⟨F, hF⟩ : ∃ F : Nat, 200 < F := ⟨201, by omega⟩
  refine ⟨F, ?_⟩
  by_cases he : errG n l = 0
  · obtain ⟨k, rfl, hk1, hk8, hl24, hin, hne⟩ := errG_zero he
    have hr := besM_row hin
    have hs := besM_sym hin
    have hnl : NoLoop (besM k l) := besM_ne hin hne
    obtain ⟨c1, c2, c3, _⟩ := chi_spec (adj (besM k l)) hk1
    have hca := chi_apart hr hs hk1 hk8
    obtain ⟨b1, b2⟩ := others_bounds hr hs hk1 hk8
    have hA : apartM (k : Int) l = ((mostOf (apartsM k l) : Nat) : Int) := by unfold apartM; rw [if_pos he]; rfl
    have hM : mostM (k : Int) l = ((mostOf (cliquesM k l) : Nat) : Int) := by unfold mostM; rw [if_pos he]; rfl
    refine other_fin F k l (othL (adj (besM k l)) k) (mostOf (cliquesM k l)) (mostOf (apartsM k l)) (chi (adj (besM k l)) k) (decide (24 < (othL (adj (besM k l)) k).length))
      (by rw [mMost_ev hg, hM, he]) (by rw [mApart_ev hg, hA, he]) (color_Least_ev hg he hk1 hk8 hin (by omega)) ?_ ?_ b1 b2 c2 c3 hk8 hca
    · rw [other_ev hg he hk1 hk8 hin (by omega)]; simp
    · intro hbig
      have hm24 : (othL (adj (besM k l)) k).length ≤ 24 := by simpa using hbig
      have he2 : errG (k : Int) (othL (adj (besM k l)) k) = 0 := errG_ok hk1 hk8 hm24 (othL_in _ _) (othL_ne _ _)
      have hg2 : good (k : Int) (othL (adj (besM k l)) k) := ⟨hg.1, by unfold maxLen; omega⟩
      have e1 : besM k (othL (adj (besM k l)) k) = othersM (besM k l) k := bes_oth hr hs
      rw [mMost_ev hg2, mApart_ev hg2, he2]
      constructor
      · unfold mostM; rw [if_pos he2]
        show some (((mostOf (cliquesM k (othL (adj (besM k l)) k)) : Nat) : Int), (0 : Int)) = _
        unfold cliquesM apartsM; rw [e1]
      · unfold apartM; rw [if_pos he2]
        show some (((mostOf (apartsM k (othL (adj (besM k l)) k)) : Nat) : Int), (0 : Int)) = _
        unfold cliquesM apartsM; rw [e1, oth_oth hr hnl]
  · unfold L3_CliqueOther
    rw [mMost_ev hg]
    simp [he, mostM, mFact]
theorem cliqueOther_any (w : World) (htc : TyCell w) (n : Int) (hn : (Lit.int .i64 n).wf = true) (A : Option Addr) (cap : Nat) (l : List (Int × Int)) (hr : ReadsL w w.heap.size A l) (hl : l.length ≤ maxLen) :
    Calls Tryd.prog 4 #[.int .i64 n, .slice A l.length cap] w fun e w' => e = .returned (.bool true) ∧ Below w.heap.size w w' := by
  obtain ⟨F, h⟩ := other_says (n := n) (l := l) ⟨hn, hl⟩
  exact L3_CliqueOther_ok w htc cap hr h
end Go.Proofs.YtpcmofhmhggcoaaDoor
