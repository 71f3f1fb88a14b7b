import Derived.Test.YtlecmgdkoanghaaAl
import Derived.Test.YtlecmgdkoanghaaCn
/- plain: the least number of colours -/
set_option linter.all false
set_option maxRecDepth 100000
namespace Go.Proofs.Ytlecmgdkoanghaa
open Go.RowKit Go.Shelf Pl
/-! ### colours -/
/-- can the points from |o| on have colours below many, d of them? -/
def canM (a : Nat → Nat → Bool) (many : Nat) : Nat → List Nat → Bool
  | 0, _ => true
  | d+1, o => (List.range' 0 many).any fun c => (List.range' 0 o.length).all (fun j => !(a o.length j && o.getD j 0 == c)) && canM a many d (o ++ [c])
theorem can_L2 (F : Nat) (rec : List Nat → List Int → Int → Option Bool) (bes : List Nat) (o : List Nat) (c : Nat) (hi : o.length < bes.length) (hb : ∀ m ∈ bes, m < 65536) (ho : o.length ≤ 8) :
    ∀ g j b, o.length < g + j → j ≤ o.length → color_can_L2 F rec bes (o.map fun (x : Nat) => (x : Int)) (o.length : Int) (c : Int) g (j : Int) b = some (b && (List.range' j (o.length - j)).all (fun t => !(adj bes o.length t && o.getD t 0 == c)))
  | 0, j, b, h, hj => by omega
  | g+1, j, b, h, hj => by
    rw [color_can_L2_s]
    by_cases hlt : j < o.length
    · have ih := fun b => can_L2 F rec bes o c hi hb ho g (j+1) b (by omega) (by omega)
      push_cast at ih
      rw [if_pos (by simpa using hlt), ix_map hlt, Option.bind_some, w64n (by omega), ix_getD hi]
      simp only [Option.bind_some, sHas_ev (getD_lt hb _) (show j < 64 by omega)]
      have e : o.length - j = (o.length - (j+1)) + 1 := by omega
      rw [e, List.range'_succ, List.all_cons]
      have ec : ((((o.getD j 0 : Nat) : Int)) != (c : Int)) = !(o.getD j 0 == c) := by rw [Bool.eq_iff_iff]; simp; omega
      rw [ec]
      cases b with
      | false => simp [ih]
      | true =>
        have ea : (bes.getD o.length 0).testBit j = adj bes o.length j := rfl
        rw [ea]
        cases h1 : (o.getD j 0 == c) <;> cases h2 : adj bes o.length j <;> simp [ih]
    · have : j = o.length := by omega
      rw [if_neg (by simpa using hlt), this]; simp
theorem can_L1 (F d : Nat) (rec : List Nat → List Int → Int → Option Bool) (bes : List Nat) (o : List Nat) (many : Nat) (hi : o.length < bes.length) (hb : ∀ m ∈ bes, m < 65536) (ho : o.length ≤ 8) (hF : 10 < F) (hm : many ≤ 100)
    (hr : ∀ c < many, rec bes ((o ++ [c]).map fun (x : Nat) => (x : Int)) (many : Int) = some (canM (adj bes) many d (o ++ [c]))) :
    ∀ g c, many < g + c → c ≤ many → color_can_L1 F rec bes (o.map fun (x : Nat) => (x : Int)) (many : Int) (o.length : Int) g (c : Int) =
      some (if (List.range' c (many - c)).any (fun c => (List.range' 0 o.length).all (fun j => !(adj bes o.length j && o.getD j 0 == c)) && canM (adj bes) many d (o ++ [c])) then .inr true else .inl ())
  | 0, c, h, hj => by omega
  | g+1, c, h, hj => by
    rw [color_can_L1_s]
    by_cases hlt : c < many
    · have ih := can_L1 F d rec bes o many hi hb ho hF hm hr g (c+1) (by omega) (by omega)
      have h2 := can_L2 F rec bes o c hi hb ho F 0 true (by omega) (by omega)
      rw [if_pos (by omega), show (0 : Int) = ((0 : Nat) : Int) from rfl, h2, Option.bind_some, w64n (by omega)]
      have e : many - c = (many - (c+1)) + 1 := by omega
      rw [e, List.range'_succ, List.any_cons]
      have ea : apF (o.map fun (x : Nat) => (x : Int)) (o.length : Int) (c : Int) = some ((o ++ [c]).map fun (x : Nat) => (x : Int)) := by
        unfold apF; rw [if_pos (by simp; omega)]; simp
      simp only [ea, Option.bind_some, hr c hlt, Bool.true_and, Nat.sub_zero, ih]
      generalize ((List.range' (c + 1) (many - (c + 1))).any fun c => (List.range' 0 o.length).all (fun j => !(adj bes o.length j && o.getD j 0 == c)) && canM (adj bes) many d (o ++ [c])) = R
      generalize ((List.range' 0 o.length).all fun j => !(adj bes o.length j && o.getD j 0 == c)) = x
      generalize canM (adj bes) many d (o ++ [c]) = y
      cases x <;> cases y <;> cases R <;> rfl
    · have : c = many := by omega
      rw [if_neg (by omega), this]; simp
theorem can_ev (F : Nat) (bes : List Nat) (many : Nat) (hb : ∀ m ∈ bes, m < 65536) (h8 : bes.length ≤ 8) (hF : 110 < F) (hm : many ≤ 100) :
    ∀ d' d o, d < d' → o.length + d = bes.length → color_can F d' bes (o.map fun (x : Nat) => (x : Int)) (many : Int) = some (canM (adj bes) many d o)
  | 0, d, o, h, _ => by omega
  | d'+1, 0, o, h, ho => by
    rw [color_can_s, if_pos (by simp; omega)]; rfl
  | d'+1, d+1, o, h, ho => by
    rw [color_can_s, if_neg (by simp; omega)]
    have h1 := can_L1 F d (color_can F d') bes o many (by omega) hb (by omega) (by omega) hm (fun c _ => can_ev F bes many hb h8 hF hm d' d (o ++ [c]) (by omega) (by simp; omega)) F 0 (by omega) (by omega)
    rw [List.length_map, show (0 : Int) = ((0 : Nat) : Int) from rfl, h1, Option.bind_some]
    have hcm : canM (adj bes) many (d+1) o = (List.range' 0 many).any fun c => (List.range' 0 o.length).all (fun j => !(adj bes o.length j && o.getD j 0 == c)) && canM (adj bes) many d (o ++ [c]) := rfl
    rw [hcm, Nat.sub_zero]
    generalize ((List.range' 0 many).any fun c => (List.range' 0 o.length).all (fun j => !(adj bes o.length j && o.getD j 0 == c)) && canM (adj bes) many d (o ++ [c])) = b
    cases b <;> rfl
/-- what canM tells -/
def Paint (a : Nat → Nat → Bool) (many k : Nat) (o : List Nat) (f : Nat → Nat) : Prop :=
  (∀ i < o.length, f i = o.getD i 0) ∧ ∀ i, o.length ≤ i → i < k → f i < many ∧ ∀ j < i, a i j = true → f j ≠ f i
theorem canM_iff (a : Nat → Nat → Bool) (many : Nat) : ∀ d o, canM a many d o = true ↔ ∃ f, Paint a many (o.length + d) o f
  | 0, o => by
    refine ⟨fun _ => ⟨fun i => o.getD i 0, fun i _ => rfl, fun i h1 h2 => by omega⟩, fun _ => rfl⟩
  | d+1, o => by
    unfold canM
    rw [List.any_eq_true]
    constructor
    · rintro ⟨c, hc, h⟩
      rw [Bool.and_eq_true, canM_iff a many d] at h
      obtain ⟨h1, f, hf1, hf2⟩ := h
      rw [List.length_append, List.length_singleton] at hf1 hf2
      have e1 : ∀ i < o.length, f i = o.getD i 0 := fun i hi => by rw [hf1 i (by omega)]; simp [List.getD, List.getElem?_append, hi]
      have e2 : f o.length = c := by rw [hf1 _ (by omega)]; simp [List.getD]
      refine ⟨f, e1, fun i hi hk => ?_⟩
      by_cases he : i = o.length
      · subst he
        refine ⟨by rw [e2]; simpa using hc, fun j hj ha hc' => ?_⟩
        rw [List.all_eq_true] at h1
        have := h1 j (by simp; omega)
        rw [ha, ← e1 j hj, hc', e2] at this; simp at this
      · exact hf2 i (by omega) (by omega)
    · rintro ⟨f, hf1, hf2⟩
      refine ⟨f o.length, by simpa using (hf2 _ (Nat.le_refl _) (by omega)).1, ?_⟩
      rw [Bool.and_eq_true, canM_iff a many d, List.all_eq_true]
      refine ⟨fun j hj => ?_, f, ?_, ?_⟩
      · have hj' : j < o.length := by simpa using hj
        cases ha : a o.length j
        · rfl
        · have := (hf2 _ (Nat.le_refl _) (by omega)).2 j hj' ha
          rw [← hf1 j hj']; simpa using this
      · intro i hi
        rw [List.length_append, List.length_singleton] at hi
        by_cases he : i = o.length
        · subst he; simp [List.getD]
        · rw [hf1 i (by omega)]; simp [List.getD, List.getElem?_append, show i < o.length by omega]
      · intro i hi hk
        rw [List.length_append, List.length_singleton] at hi hk
        exact hf2 i (by omega) (by omega)
/-- a proper colouring -/
def Proper (a : Nat → Nat → Bool) (many k : Nat) (f : Nat → Nat) : Prop := ∀ i < k, f i < many ∧ ∀ j < i, a i j = true → f j ≠ f i
theorem can_iff (a : Nat → Nat → Bool) (many k : Nat) : canM a many k [] = true ↔ ∃ f, Proper a many k f := by
  rw [canM_iff]
  simp only [Paint, Proper, List.length_nil, Nat.zero_add]
  exact ⟨fun ⟨f, _, h⟩ => ⟨f, fun i hi => h i (by omega) hi⟩, fun ⟨f, h⟩ => ⟨f, fun i hi => by omega, fun i _ hi => h i hi⟩⟩
def chiFrom (a : Nat → Nat → Bool) (k : Nat) : Nat → Nat → Nat
  | 0, m => m
  | g+1, m => if canM a m k [] then m else chiFrom a k g (m+1)
/-- how few colours are enough -/
def chi (a : Nat → Nat → Bool) (k : Nat) : Nat := chiFrom a k (k-1) 1
theorem can_all (a : Nat → Nat → Bool) (k : Nat) : canM a k k [] = true := (can_iff a k k).2 ⟨id, fun i hi => ⟨hi, fun j hj _ => by simp only [id]; omega⟩⟩
theorem chiFrom_spec (a : Nat → Nat → Bool) (k : Nat) : ∀ g m, g + m = k → canM a (chiFrom a k g m) k [] = true ∧ m ≤ chiFrom a k g m ∧ chiFrom a k g m ≤ k ∧ ∀ j, m ≤ j → j < chiFrom a k g m → canM a j k [] = false
  | 0, m, h => by obtain rfl : m = k := by omega
                  exact ⟨can_all a m, Nat.le_refl _, Nat.le_refl _, fun j h1 h2 => by unfold chiFrom at h2; omega⟩
  | g+1, m, h => by
    unfold chiFrom
    cases hc : canM a m k []
    · obtain ⟨h1, h2, h3, h4⟩ := chiFrom_spec a k g (m+1) (by omega)
      refine ⟨h1, by simp; omega, h3, fun j h5 h6 => ?_⟩
      by_cases e : j = m
      · rw [e]; exact hc
      · exact h4 j (by omega) (by simpa using h6)
    · exact ⟨by simpa using hc, by simp, by simp; omega, fun j h1 h2 => by simp at h2; omega⟩
theorem chi_spec (a : Nat → Nat → Bool) {k : Nat} (hk : 1 ≤ k) : canM a (chi a k) k [] = true ∧ 1 ≤ chi a k ∧ chi a k ≤ k ∧ ∀ j, 1 ≤ j → j < chi a k → canM a j k [] = false := chiFrom_spec a k (k-1) 1 (by omega)
theorem least_L1 (F : Nat) (bes : List Nat) (hb : ∀ m ∈ bes, m < 65536) (h8 : bes.length ≤ 8) (hF : 110 < F) : ∀ g' g m, g < g' → g + m = bes.length →
    color_Least_L1 F bes g' (m : Int) = some ((chiFrom (adj bes) bes.length g m : Nat) : Int)
  | 0, g, m, h, _ => by omega
  | g'+1, 0, m, h, hm => by
    rw [color_Least_L1_s]
    have := can_ev F bes m hb h8 hF (by omega) F bes.length [] (by omega) (by simp)
    rw [List.map_nil] at this
    rw [this, Option.bind_some, show bes.length = m by omega, can_all]; rfl
  | g'+1, g+1, m, h, hm => by
    rw [color_Least_L1_s]
    have := can_ev F bes m hb h8 hF (by omega) F bes.length [] (by omega) (by simp)
    rw [List.map_nil] at this
    rw [this, Option.bind_some, w64n (by omega)]
    unfold chiFrom
    cases canM (adj bes) m bes.length []
    · simpa using least_L1 F bes hb h8 hF g' g (m+1) (by omega) (by omega)
    · rfl
theorem color_Least_ev {F k : Nat} {l : List (Int × Int)} (hg : good (k : Int) l) (he : errG (k : Int) l = 0) (hk1 : 1 ≤ k) (hk8 : k ≤ 8) (hin : InL k l) (hF : 110 < F) :
    color_Least F (k : Int) l = some (((chi (adj (besM k l)) k : Nat) : Int), 0) := by
  unfold color_Least
  have hr := besM_row hin
  have hp := Nat.pow_le_pow_right (n := 2) (by omega) hk8
  rw [mCheck_ev hg, mBeside_ev hg he, he]
  simp only [Option.bind_some]
  rw [if_neg (by simp)]
  have h1 := least_L1 F (besM k l) (fun m hm => by have := hr.2 m hm; omega) (by rw [hr.1]; exact hk8) hF F (k-1) 1 (by omega) (by rw [hr.1]; omega)
  have h1' : color_Least_L1 F (besM k l) F 1 = _ := h1
  rw [h1', hr.1]; rfl
end Go.Proofs.Ytlecmgdkoanghaa
