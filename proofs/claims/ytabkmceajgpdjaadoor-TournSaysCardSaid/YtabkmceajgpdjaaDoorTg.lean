import Derived.Test.YtabkmceajgpdjaaDoorTh
import Derived.Test.YtabkmceajgpdjaaDoorTe
import Derived.Test.YtabkmceajgpdjaaDoorC2
/- how many lines are between points; the document's Tourn -/
set_option linter.all false
set_option maxRecDepth 100000
namespace Go.Proofs.YtabkmceajgpdjaaDoor
open Go.RowKit Go.Shelf Pl To
def btwP (a b : Nat) (p : Int × Int) : Bool := (decide (p.1 = (a : Int)) && decide (p.2 = (b : Int))) || (decide (p.1 = (b : Int)) && decide (p.2 = (a : Int)))
def btw (l : List (Int × Int)) (a b : Nat) : Nat := l.countP (btwP a b)
theorem btw_L1 {l : List (Int × Int)} (hl : l.length ≤ 24) (a b : Nat) : ∀ (g j c : Nat), l.length < j + g → j ≤ l.length → c ≤ j → ∃ x : Int, R1_Between_L1 300 l (a : Int) (b : Int) g (c : Int) (j : Int) = some (((c + (l.drop j).countP (btwP a b) : Nat) : Int), x)
  | 0, j, c, h, hj, hc => by omega
  | g+1, j, c, h, hj, hc => by
    rw [R1_Between_L1_s]
    by_cases hlt : j < l.length
    · have hix := ix_nat hlt
      have hd := List.drop_eq_getElem_cons hlt
      have hcond : ((((ix l (j : Int)).bind fun y3 => if (y3.1 == (a : Int)) = true then (ix l (j : Int)).bind fun y4 => if (y4.2 == (b : Int)) = true then some true else some false else some false).bind fun b2 => if b2 = true then some true else (ix l (j : Int)).bind fun y5 => if (y5.1 == (b : Int)) = true then (ix l (j : Int)).bind fun y6 => if (y6.2 == (a : Int)) = true then some true else some false else some false)) = some (btwP a b l[j]) := by
        rw [hix]
        simp only [Option.bind_some]
        unfold btwP
        generalize l[j].1 = u
        generalize l[j].2 = v
        have e0 : ∀ x y : Int, (x == y) = decide (x = y) := fun x y => by rw [Bool.eq_iff_iff]; simp
        rw [e0 u, e0 v, e0 u, e0 v]
        generalize decide (u = (a : Int)) = p1
        generalize decide (v = (b : Int)) = p2
        generalize decide (u = (b : Int)) = p3
        generalize decide (v = (a : Int)) = p4
        cases p1 <;> cases p2 <;> cases p3 <;> cases p4 <;> rfl
      rw [if_pos (by omega), hcond, Option.bind_some, hd, List.countP_cons, w64n (by omega), w64n (by omega)]
      cases e : btwP a b l[j]
      · rw [if_neg (by decide), if_neg (by decide), Nat.add_zero]
        exact btw_L1 hl a b g (j+1) c (by omega) (by omega) (by omega)
      · rw [if_pos rfl, if_pos rfl]
        obtain ⟨y, hy⟩ := btw_L1 hl a b g (j+1) (c+1) (by omega) (by omega) (by omega)
        exact ⟨y, by rw [hy]; congr 3; omega⟩
    · have : j = l.length := by omega
      subst this
      rw [if_neg (by omega), List.drop_length]
      exact ⟨_, rfl⟩
theorem btw_ev {l : List (Int × Int)} (hl : l.length ≤ 24) (a b : Nat) : R1_Between 300 l (a : Int) (b : Int) = some ((btw l a b : Nat) : Int) := by
  unfold R1_Between
  obtain ⟨x, hx⟩ := btw_L1 hl a b 300 0 0 (by omega) (by omega) (by omega)
  rw [show R1_Between_L1 300 l (a : Int) (b : Int) 300 0 0 = _ from hx, Nat.zero_add, List.drop_zero]; rfl
/-! ### sums over pairs -/
def sR : Nat → (Nat → Nat) → Nat
  | 0, _ => 0
  | n+1, f => sR n f + f n
theorem sR_add (f g : Nat → Nat) : ∀ n, sR n (fun i => f i + g i) = sR n f + sR n g
  | 0 => rfl
  | n+1 => by rw [sR, sR, sR, sR_add f g n]; omega
theorem sR_congr {f g : Nat → Nat} : ∀ {n : Nat}, (∀ i, i < n → f i = g i) → sR n f = sR n g
  | 0, _ => rfl
  | n+1, h => by rw [sR, sR, sR_congr (fun i hi => h i (by omega)), h n (by omega)]
theorem sR_le {f g : Nat → Nat} : ∀ {n : Nat}, (∀ i, i < n → f i ≤ g i) → sR n f ≤ sR n g
  | 0, _ => Nat.le_refl _
  | n+1, h => by
    rw [sR, sR]
    have := sR_le (fun i (hi : i < n) => h i (by omega)); have := h n (by omega); omega
theorem sR_eq {f g : Nat → Nat} : ∀ {n : Nat}, (∀ i, i < n → f i ≤ g i) → sR n g ≤ sR n f → ∀ i, i < n → f i = g i
  | 0, _, _, i, hi => by omega
  | n+1, h, hs, i, hi => by
    rw [sR, sR] at hs
    have h1 := sR_le (fun i (hi : i < n) => h i (by omega))
    have h2 := h n (by omega)
    by_cases e : i = n
    · subst e; omega
    · exact sR_eq (n := n) (fun i hi => h i (by omega)) (by omega) i (by omega)
theorem sR_zero : ∀ n, sR n (fun _ => 0) = 0
  | 0 => rfl
  | n+1 => by rw [sR, sR_zero n]
theorem sR_one : ∀ n, sR n (fun _ => 1) = n
  | 0 => rfl
  | n+1 => by rw [sR, sR_one n]
theorem sR_single (m : Nat) (c : Nat) : ∀ n, sR n (fun i => if i = m then c else 0) = if m < n then c else 0
  | 0 => rfl
  | n+1 => by
    rw [sR, sR_single m c n]
    by_cases e : n = m
    · subst e; rw [if_neg (by omega), if_pos rfl, if_pos (by omega)]; omega
    · rw [if_neg e]
      by_cases h : m < n
      · rw [if_pos h, if_pos (by omega), Nat.add_zero]
      · rw [if_neg h, if_neg (by omega)]
theorem sR_id : ∀ n, 2 * sR n (fun i => i) = n * (n - 1)
  | 0 => rfl
  | 1 => rfl
  | n+2 => by
    have := sR_id (n+1)
    rw [sR, Nat.mul_add, this]
    simp only [Nat.add_sub_cancel, Nat.add_mul, Nat.mul_add]
    have e : n + 2 - 1 = n + 1 := by omega
    rw [e]
    simp only [Nat.mul_add, Nat.mul_one, Nat.add_mul, Nat.one_mul, Nat.two_mul]
    try omega
/-- all lines, by the pairs that they connect -/
theorem btw_sum {k : Nat} : ∀ {l : List (Int × Int)}, InL k l → (∀ p ∈ l, p.1 ≠ p.2) → sR k (fun a => sR a (fun b => btw l a b)) = l.length
  | [], _, _ => by
    have : (fun a => sR a (fun b => btw [] a b)) = fun _ => 0 := funext fun a => sR_zero a
    rw [this, sR_zero]; rfl
  | p :: l, hin, hne => by
    have ih := btw_sum (k := k) (l := l) (fun q hq => hin q (List.mem_cons_of_mem _ hq)) (fun q hq => hne q (List.mem_cons_of_mem _ hq))
    have e1 : ∀ a b, btw (p :: l) a b = btw l a b + (if btwP a b p = true then 1 else 0) := fun a b => by unfold btw; rw [List.countP_cons]
    have hp := hin p List.mem_cons_self
    have hnp := hne p List.mem_cons_self
    obtain ⟨x, hx⟩ := Int.eq_ofNat_of_zero_le (show 0 ≤ p.1 by omega)
    obtain ⟨y, hy⟩ := Int.eq_ofNat_of_zero_le (show 0 ≤ p.2 by omega)
    have hxy : x ≠ y := fun e => hnp (by rw [hx, hy, e])
    have e2 : ∀ a, a < k → sR a (fun b => btw (p :: l) a b) = sR a (fun b => btw l a b) + (if a = max x y then 1 else 0) := by
      intro a _
      rw [sR_congr (fun b _ => e1 a b), sR_add]
      congr 1
      have e3 : ∀ b, b < a → (if btwP a b p = true then 1 else 0) = if b = min x y then (if a = max x y then 1 else 0) else 0 := by
        intro b hb
        have e4 : btwP a b p = decide (b = min x y ∧ a = max x y) := by
          unfold btwP
          rw [hx, hy, Bool.eq_iff_iff]
          simp only [Bool.or_eq_true, Bool.and_eq_true, decide_eq_true_eq]
          omega
        rw [e4]
        by_cases c1 : b = min x y <;> by_cases c2 : a = max x y <;> simp [c1, c2]
      rw [sR_congr e3, sR_single]
      by_cases c : a = max x y
      · rw [if_pos (by omega), if_pos c]
      · rw [if_neg c, ite_self]
    rw [sR_congr e2, sR_add, ih, sR_single, if_pos (by omega), List.length_cons]
theorem btw_two {l : List (Int × Int)} {a b : Nat} (hab : a ≠ b) : btw l a b = l.countP (fun p => decide (p.1 = (a : Int)) && decide (p.2 = (b : Int))) + l.countP (fun p => decide (p.1 = (b : Int)) && decide (p.2 = (a : Int))) := by
  unfold btw
  induction l with
  | nil => rfl
  | cons p l ih =>
    rw [List.countP_cons, List.countP_cons, List.countP_cons, ih]
    unfold btwP
    have hab1 : ¬ (a : Int) = (b : Int) := by omega
    have hab2 : ¬ (b : Int) = (a : Int) := by omega
    by_cases c1 : p.1 = (a : Int)
    · have c3 : ¬ p.1 = (b : Int) := by omega
      by_cases c2 : p.2 = (b : Int) <;> simp [c1, c2, c3, hab1, hab2] <;> omega
    · by_cases c3 : p.1 = (b : Int)
      · by_cases c4 : p.2 = (a : Int) <;> simp [c1, c3, c4, hab1, hab2] <;> omega
      · simp [c1, c3]
theorem gL_cnt (l : List (Int × Int)) (a b : Nat) : gL l a b = true ↔ 1 ≤ l.countP (fun p => decide (p.1 = (a : Int)) && decide (p.2 = (b : Int))) := by
  unfold gL
  rw [goesE, List.any_eq_true]
  constructor
  · rintro ⟨p, hp, h⟩; exact List.countP_pos_iff.2 ⟨p, hp, h⟩
  · intro h
    obtain ⟨p, hp, h⟩ := List.countP_pos_iff.1 h
    exact ⟨p, hp, h⟩
/-- one line between each two points -/
def OneB (l : List (Int × Int)) (k : Nat) : Prop := ∀ a b, b < a → a < k → btw l a b = 1
theorem one_iff {k : Nat} {l : List (Int × Int)} (hin : InL k l) (hne : ∀ p ∈ l, p.1 ≠ p.2) : OneB l k ↔ Pairs l k ∧ 2 * l.length = k * (k - 1) := by
  have hsum := btw_sum hin hne
  have hid : sR k (fun a => sR a (fun _ => 1)) = sR k (fun a => a) := sR_congr fun a _ => sR_one a
  have h2 := sR_id k
  constructor
  · intro h
    refine ⟨fun a b hb ha => ?_, ?_⟩
    · have h1 := h a b hb ha
      rw [btw_two (by omega)] at h1
      intro e
      have g1 := gL_cnt l a b
      have g2 := gL_cnt l b a
      cases c : gL l a b
      · have n1 : ¬ 1 ≤ _ := fun q => by have := g1.2 q; rw [c] at this; cases this
        have n2 : ¬ 1 ≤ _ := fun q => by have := g2.2 q; rw [← e, c] at this; cases this
        omega
      · have n1 := g1.1 c
        have n2 := g2.1 (e ▸ c)
        omega
    · have : sR k (fun a => sR a (fun b => btw l a b)) = sR k (fun a => sR a (fun _ => 1)) := sR_congr fun a ha => sR_congr fun b hb => h a b hb ha
      omega
  · rintro ⟨hP, hlen⟩
    have hge : ∀ a, a < k → ∀ b, b < a → 1 ≤ btw l a b := by
      intro a ha b hb
      have := hP a b hb ha
      rw [btw_two (by omega)]
      have g1 := gL_cnt l a b
      have g2 := gL_cnt l b a
      cases c : gL l a b
      · have c2 : gL l b a = true := by
          cases c2 : gL l b a
          · rw [c, c2] at this; exact absurd rfl this
          · rfl
        have := g2.1 c2; omega
      · have := g1.1 c; omega
    have h3 := sR_eq (f := fun a => sR a (fun _ => 1)) (g := fun a => sR a (fun b => btw l a b)) (n := k) (fun a ha => sR_le (fun b hb => hge a ha b hb)) (by omega)
    intro a b hb ha
    exact (sR_eq (f := fun _ => 1) (g := fun b => btw l a b) (n := a) (fun b hb => hge a ha b hb) (by have := h3 a ha; omega) b hb).symm
section
variable {k : Nat} {l : List (Int × Int)}
theorem rt_L2 (h24 : l.length ≤ 24) (h8 : k ≤ 8) {a : Nat} (ha : a < k) : ∀ (g b : Nat), a < b + g → b ≤ a →
    (R3_Tourn_L2 300 l (a : Int) g (b : Int) = some (.inr 6) ∧ ∃ q, q < a ∧ btw l a q ≠ 1) ∨ ((∃ x, R3_Tourn_L2 300 l (a : Int) g (b : Int) = some (.inl x)) ∧ ∀ q, b ≤ q → q < a → btw l a q = 1)
  | 0, b, h, hb => by omega
  | g+1, b, h, hb => by
    rw [R3_Tourn_L2_s]
    by_cases hlt : b < a
    · rw [if_pos (by omega), btw_ev h24, Option.bind_some, w64n (by omega)]
      by_cases c : btw l a b = 1
      · rw [if_neg (by rw [bne_iff_ne]; omega)]
        rcases rt_L2 h24 h8 ha g (b+1) (by omega) (by omega) with q | ⟨q, r⟩
        · exact .inl q
        · refine .inr ⟨q, fun z h1 h2 => ?_⟩
          by_cases e : z = b
          · subst e; exact c
          · exact r z (by omega) h2
      · rw [if_pos (by rw [bne_iff_ne]; omega)]; exact .inl ⟨rfl, b, hlt, c⟩
    · rw [if_neg (by omega)]; exact .inr ⟨⟨_, rfl⟩, fun z h1 h2 => by omega⟩
theorem rt_L1 (h24 : l.length ≤ 24) (h8 : k ≤ 8) : ∀ (g a : Nat), k < a + g → a ≤ k →
    (R3_Tourn_L1 300 (k : Int) l g (a : Int) = some (.inr 6) ∧ ∃ p q, q < p ∧ p < k ∧ btw l p q ≠ 1) ∨ ((∃ x, R3_Tourn_L1 300 (k : Int) l g (a : Int) = some (.inl x)) ∧ ∀ p q, a ≤ p → q < p → p < k → btw l p q = 1)
  | 0, a, h, ha => by omega
  | g+1, a, h, ha => by
    rw [R3_Tourn_L1_s]
    by_cases hlt : a < k
    · rw [if_pos (by omega), w64n (by omega)]
      rcases rt_L2 (l := l) h24 h8 hlt 300 0 (by omega) (by omega) with ⟨q, z, z1, z2⟩ | ⟨⟨x, q⟩, r⟩
      · rw [show R3_Tourn_L2 300 l (a : Int) 300 0 = _ from q]
        exact .inl ⟨rfl, a, z, z1, hlt, z2⟩
      · rw [show R3_Tourn_L2 300 l (a : Int) 300 0 = _ from q, Option.bind_some]
        dsimp only
        rcases rt_L1 h24 h8 g (a+1) (by omega) (by omega) with q | ⟨q, s⟩
        · exact .inl q
        · refine .inr ⟨q, fun p z h1 h2 h3 => ?_⟩
          by_cases e : p = a
          · subst e; exact r z (Nat.zero_le _) h2
          · exact s p z (by omega) h2 h3
    · rw [if_neg (by omega)]; exact .inr ⟨⟨_, rfl⟩, fun p z h1 h2 h3 => by omega⟩
end
/-- the document says what Check says -/
theorem tourn3_ev {n : Int} {l : List (Int × Int)} (hg : good n l) {e : Int} (hE : CkE n l e) : R3_Tourn 300 n l = some e := by
  unfold R3_Tourn
  rw [R1_Lines_big (by omega), Option.bind_some]
  rcases hE with ⟨h1, h2⟩ | ⟨h1, h2, h3⟩
  · rw [if_pos (by rw [bne_iff_ne]; exact h1), h2]
  · obtain ⟨k, rfl, g1, g8, g24, hin, hne⟩ := errG_zero h1
    have h4 := (h3 k rfl).trans (one_iff hin hne).symm
    rw [if_neg (by simp [h1])]
    rcases rt_L1 (l := l) g24 g8 300 0 (by omega) (by omega) with ⟨q, p, z, z1, z2, z3⟩ | ⟨⟨x, q⟩, r⟩
    · rw [show R3_Tourn_L1 300 (k : Int) l 300 0 = _ from q]
      rcases h2 with rfl | rfl
      · exact absurd (h4.1 rfl p z z1 z2) z3
      · rfl
    · rw [show R3_Tourn_L1 300 (k : Int) l 300 0 = _ from q, Option.bind_some]
      dsimp only
      have := h4.2 (fun a b hb ha => r a b (Nat.zero_le _) hb ha)
      rw [this]
end Go.Proofs.YtabkmceajgpdjaaDoor
