import Derived.Test.YtabkmceajgpdjaaDoorTo
import Derived.Test.YtabkmceajgpdjaaDoorSev
import Derived.Test.YtabkmceajgpdjaaDoorB
/- what the models of tourn's functions come to -/
set_option linter.all false
set_option maxRecDepth 100000
namespace Go.Proofs.YtabkmceajgpdjaaDoor
open Go.RowKit Go.Shelf Pl To
theorem rowN_len (m : List Nat) : (rowN m).length = m.length := by unfold rowN; rw [List.length_map]
theorem mem_rowN {ws : List Nat} {b : Nat} : ((b : Int) ∈ rowN ws) ↔ b ∈ ws := by
  unfold rowN
  rw [List.mem_map]
  constructor
  · rintro ⟨x, hx, e⟩
    have : x = b := by omega
    rw [← this]; exact hx
  · intro h; exact ⟨b, h, rfl⟩
theorem memb_len16 (S : Nat) : (memb S).length ≤ 16 := by unfold memb; have := List.length_filter_le (fun i => S.testBit i) (List.range 16); simpa using this
/-- i beats j -/
def gL (l : List (Int × Int)) (i j : Nat) : Bool := goes l (i : Int) (j : Int)
theorem goesE (l : List (Int × Int)) (a b : Int) : goes l a b = l.any (fun p => decide (p.1 = a) && decide (p.2 = b)) := by
  unfold goes
  congr 1
theorem outTo_bit {n : Nat} {l : List (Int × Int)} (h : InL n l) (i j : Nat) : ((outTo n l).getD i 0).testBit j = gL l i j := by
  unfold outTo gL
  rw [fold_bit (fun p => p.1.toNat) (fun p => p.2.toNat) l _ (fun p hp => by rw [List.length_replicate]; have := h p hp; omega)]
  have e : (List.replicate n 0).getD i 0 = 0 := by
    simp only [List.getD, List.getElem?_replicate]; split <;> rfl
  rw [e, Nat.zero_testBit, Bool.false_or, goesE, Bool.eq_iff_iff, List.any_eq_true, List.any_eq_true]
  constructor
  · rintro ⟨p, hp, hq⟩
    refine ⟨p, hp, ?_⟩
    have := h p hp
    simp only [Bool.and_eq_true, decide_eq_true_eq] at hq ⊢
    omega
  · rintro ⟨p, hp, hq⟩
    refine ⟨p, hp, ?_⟩
    have := h p hp
    simp only [Bool.and_eq_true, decide_eq_true_eq] at hq ⊢
    omega
theorem gL_lt {k : Nat} {l : List (Int × Int)} (hin : InL k l) {v u : Nat} (h : gL l v u = true) : v < k ∧ u < k := by
  unfold gL at h
  rw [goesE, List.any_eq_true] at h
  obtain ⟨p, hp, hq⟩ := h
  have := hin p hp
  simp only [Bool.and_eq_true, decide_eq_true_eq] at hq
  omega
theorem gL_irr {l : List (Int × Int)} (hne : ∀ p ∈ l, p.1 ≠ p.2) (v : Nat) : gL l v v = false := by
  cases e : gL l v v
  · rfl
  · unfold gL at e
    rw [goesE, List.any_eq_true] at e
    obtain ⟨p, hp, hq⟩ := e
    simp only [Bool.and_eq_true, decide_eq_true_eq] at hq
    exact absurd (hq.1.trans hq.2.symm) (hne p hp)
/-- between each two points there is a line one way alone -/
def Pairs (l : List (Int × Int)) (k : Nat) : Prop := ∀ a b, b < a → a < k → gL l a b ≠ gL l b a
theorem tn_of {k : Nat} {l : List (Int × Int)} (hin : InL k l) (hne : ∀ p ∈ l, p.1 ≠ p.2) (h : Pairs l k) : Tn k (gL l) := by
  refine ⟨gL_irr hne, fun x y => gL_lt hin, fun x y hx hy hxy => ?_⟩
  rcases Nat.lt_or_gt_of_ne hxy with c | c
  · have := h y x c hy
    cases e1 : gL l x y <;> cases e2 : gL l y x <;> simp_all
  · have := h x y c hx
    cases e1 : gL l x y <;> cases e2 : gL l y x <;> simp_all
section
variable {k : Nat} {l : List (Int × Int)}
theorem mOut_ev (hg : good (k : Int) l) (he : errG (k : Int) l = 0) : mOut (k : Int) l = some (outTo k l) := by unfold mOut; rw [if_pos ⟨hg, he⟩, Int.toNat_natCast]
theorem ix_out (hin : InL k l) {i : Nat} (hi : i < k) : ix (outTo k l) (i : Int) = some ((outTo k l).getD i 0) := ix_getD (by rw [(outTo_row hin).1]; exact hi)
theorem out_lt (hin : InL k l) (h8 : k ≤ 8) (i : Nat) : (outTo k l).getD i 0 < 65536 := by
  have hp := Nat.pow_le_pow_right (n := 2) (by omega) h8
  exact getD_lt (fun m hm => Nat.lt_of_lt_of_le ((outTo_row hin).2 m hm) (by omega)) i
theorem ck_L2 (h8 : k ≤ 8) (hin : InL k l) {a : Nat} (ha : a < k) : ∀ (g b : Nat), a < b + g → b ≤ a →
    (tourn_Check_L2 300 (outTo k l) (a : Int) g (b : Int) = some (.inr 6) ∧ ∃ q, q < a ∧ gL l a q = gL l q a) ∨ (tourn_Check_L2 300 (outTo k l) (a : Int) g (b : Int) = some (.inl ()) ∧ ∀ q, b ≤ q → q < a → gL l a q ≠ gL l q a)
  | 0, b, h, hb => by omega
  | g+1, b, h, hb => by
    rw [tourn_Check_L2_s]
    by_cases hlt : b < a
    · rw [if_pos (by omega), ix_out hin ha, Option.bind_some, sHas_ev (out_lt hin h8 a) (by omega), Option.bind_some, ix_out hin (show b < k by omega), Option.bind_some, sHas_ev (out_lt hin h8 b) (by omega), Option.bind_some, w64n (by omega), outTo_bit hin, outTo_bit hin]
      by_cases c : gL l a b = gL l b a
      · rw [if_pos (by rw [beq_iff_eq]; exact c)]; exact .inl ⟨rfl, b, hlt, c⟩
      · rw [if_neg (by rw [beq_iff_eq]; exact c)]
        rcases ck_L2 h8 hin ha g (b+1) (by omega) (by omega) with q | ⟨q, r⟩
        · exact .inl q
        · refine .inr ⟨q, fun z h1 h2 => ?_⟩
          by_cases e : z = b
          · subst e; exact c
          · exact r z (by omega) h2
    · rw [if_neg (by omega)]; exact .inr ⟨rfl, fun z h1 h2 => by omega⟩
theorem ck_L1 (h8 : k ≤ 8) (hin : InL k l) : ∀ (g a : Nat), k < a + g → a ≤ k →
    (tourn_Check_L1 300 (k : Int) (outTo k l) g (a : Int) = some (.inr 6) ∧ ∃ p q, q < p ∧ p < k ∧ gL l p q = gL l q p) ∨ (tourn_Check_L1 300 (k : Int) (outTo k l) g (a : Int) = some (.inl ()) ∧ ∀ p q, a ≤ p → q < p → p < k → gL l p q ≠ gL l q p)
  | 0, a, h, ha => by omega
  | g+1, a, h, ha => by
    rw [tourn_Check_L1_s]
    by_cases hlt : a < k
    · rw [if_pos (by omega), w64n (by omega)]
      rcases ck_L2 (l := l) h8 hin hlt 300 0 (by omega) (by omega) with ⟨q, z, z1, z2⟩ | ⟨q, r⟩
      · rw [show tourn_Check_L2 300 (outTo k l) (a : Int) 300 0 = _ from q]
        exact .inl ⟨rfl, a, z, z1, hlt, z2⟩
      · rw [show tourn_Check_L2 300 (outTo k l) (a : Int) 300 0 = _ from q, Option.bind_some]
        dsimp only
        rcases ck_L1 h8 hin g (a+1) (by omega) (by omega) with q | ⟨q, s⟩
        · exact .inl q
        · refine .inr ⟨q, fun p z h1 h2 h3 => ?_⟩
          by_cases e : p = a
          · subst e; exact r z (Nat.zero_le _) h2
          · exact s p z (by omega) h2 h3
    · rw [if_neg (by omega)]; exact .inr ⟨rfl, fun p z h1 h2 h3 => by omega⟩
/-- what Check tells -/
def CkE (n : Int) (l : List (Int × Int)) (e : Int) : Prop :=
  (errG n l ≠ 0 ∧ e = errG n l) ∨ (errG n l = 0 ∧ (e = 0 ∨ e = 6) ∧ ∀ k : Nat, n = k → (e = 0 ↔ Pairs l k ∧ 2 * l.length = k * (k - 1)))
theorem half_ev : ∀ k : Nat, k ≤ 8 → wrap64 (Int.tdiv (wrap64 ((k : Int) * (wrap64 ((k : Int) - 1)))) 2) = ((k * (k - 1) / 2 : Nat) : Int) := by decide +kernel
theorem half_even : ∀ k : Nat, k ≤ 8 → 2 * (k * (k - 1) / 2) = k * (k - 1) := by decide
theorem check_ev {n : Int} {l : List (Int × Int)} (hg : good n l) : ∃ e, tourn_Check 300 n l = some e ∧ CkE n l e := by
  unfold tourn_Check
  rw [mCheck_ev hg, Option.bind_some]
  by_cases he : errG n l = 0
  · obtain ⟨k, rfl, h1, h8, h24, hin, hne⟩ := errG_zero he
    rw [if_neg (by simp [he]), mOut_ev hg he, Option.bind_some, half_ev k h8]
    have h2 := half_even k h8
    rcases ck_L1 (l := l) h8 hin 300 0 (by omega) (by omega) with ⟨q, p, z, z1, z2, z3⟩ | ⟨q, r⟩
    · rw [show tourn_Check_L1 300 (k : Int) (outTo k l) 300 0 = _ from q]
      refine ⟨6, rfl, .inr ⟨he, .inr rfl, fun k' e => ?_⟩⟩
      obtain rfl : k = k' := by omega
      constructor
      · intro h; exact absurd h (by decide)
      · rintro ⟨h, _⟩; exact absurd z3 (h p z z1 z2)
    · rw [show tourn_Check_L1 300 (k : Int) (outTo k l) 300 0 = _ from q, Option.bind_some]
      dsimp only
      have hP : Pairs l k := fun a b h3 h4 => r a b (Nat.zero_le _) h3 h4
      by_cases c : l.length = k * (k - 1) / 2
      · rw [if_neg (by rw [bne_iff_ne]; omega)]
        refine ⟨0, rfl, .inr ⟨he, .inl rfl, fun k' e => ?_⟩⟩
        obtain rfl : k = k' := by omega
        exact ⟨fun _ => ⟨hP, by omega⟩, fun _ => rfl⟩
      · rw [if_pos (by rw [bne_iff_ne]; omega)]
        refine ⟨6, rfl, .inr ⟨he, .inr rfl, fun k' e => ?_⟩⟩
        obtain rfl : k = k' := by omega
        constructor
        · intro h; exact absurd h (by decide)
        · rintro ⟨_, h⟩; omega
  · rw [if_pos (by rw [bne_iff_ne]; exact he)]
    exact ⟨_, rfl, .inl ⟨he, rfl⟩⟩
/-- where Check tells nothing -/
theorem ck_zero {n : Int} {l : List (Int × Int)} (h : CkE n l 0) : ∃ k : Nat, n = k ∧ 1 ≤ k ∧ k ≤ 8 ∧ l.length ≤ 24 ∧ InL k l ∧ errG n l = 0 ∧ Tn k (gL l) ∧ Pairs l k ∧ 2 * l.length = k * (k - 1) := by
  rcases h with ⟨h1, h2⟩ | ⟨h1, _, h2⟩
  · exact absurd h2.symm h1
  · obtain ⟨k, rfl, g1, g8, g24, hin, hne⟩ := errG_zero h1
    obtain ⟨p1, p2⟩ := (h2 k rfl).1 rfl
    exact ⟨k, rfl, g1, g8, g24, hin, h1, tn_of hin hne p1, p1, p2⟩
/-! ### Row -/
theorem ins_put {out : List Nat} {p : Nat → Bool} {x : Nat} : insAt (rowN out) ((out.findIdx p : Nat) : Int) (x : Int) = rowN (put p x out) := by
  rw [put_eq]; unfold insAt rowN
  rw [Int.toNat_natCast, List.map_append, List.map_cons, List.map_take, List.map_drop]
theorem row_L1 (h8 : k ≤ 8) (hin : InL k l) : ∀ (g j : Nat), k < j + g → j ≤ k → tourn_Row_L1 300 (k : Int) (outTo k l) g (j : Int) (rowN (rowT (gL l) j)) = some (rowN (rowT (gL l) k))
  | 0, j, h, hj => by omega
  | g+1, j, h, hj => by
    rw [tourn_Row_L1_s]
    by_cases hlt : j < k
    · have hperm := rowT_perm (gL l) j
      have hlen : (rowT (gL l) j).length = j := by rw [hperm.length_eq, List.length_range]
      have hmem : ∀ y ∈ rowT (gL l) j, y < j := fun y hy => List.mem_range.1 (hperm.mem_iff.1 hy)
      have hp : ∀ x ∈ rowN (rowT (gL l) j), sHas ((outTo k l).getD j 0) x = some (gL l j x.toNat) := by
        intro x hx
        obtain ⟨y, hy, rfl⟩ := List.mem_map.1 hx
        have := hmem y hy
        rw [sHas_ev (out_lt hin h8 j) (by omega), outTo_bit hin, Int.toNat_natCast]
      have hfi : (rowN (rowT (gL l) j)).findIdx (fun x : Int => gL l j x.toNat) = (rowT (gL l) j).findIdx (gL l j) := by
        unfold rowN; rw [List.findIdx_map]; rfl
      have hany : (rowN (rowT (gL l) j)).any (fun x : Int => gL l j x.toNat) = (rowT (gL l) j).any (gL l j) := by
        unfold rowN; rw [List.any_map]; rfl
      rw [if_pos (by omega), ix_out hin hlt, Option.bind_some]
      unfold slIdxM
      rw [slIdxF_ev hp (by rw [rowN_len]; omega), Option.bind_some, hany, hfi, w64n (by omega)]
      have hle : (rowT (gL l) j).findIdx (gL l j) ≤ (rowT (gL l) j).length := List.findIdx_le_length
      have ih := row_L1 h8 hin g (j+1) (by omega) (by omega)
      by_cases c : (rowT (gL l) j).any (gL l j) = true
      · rw [if_pos c, if_neg (by omega)]
        have hi : slIns (rowN (rowT (gL l) j)) (((rowT (gL l) j).findIdx (gL l j) : Nat) : Int) (j : Int) = some (rowN (rowT (gL l) (j+1))) := by
          unfold slIns; rw [if_pos (by rw [rowN_len]; omega), ins_put]; rfl
        rw [hi, Option.bind_some]; exact ih
      · rw [if_neg c, if_pos (by omega)]
        have hnone : (rowT (gL l) j).findIdx (gL l j) = (rowT (gL l) j).length := by
          rw [List.findIdx_eq_length]
          intro x hx
          cases e : gL l j x
          · rfl
          · exact absurd (List.any_eq_true.2 ⟨x, hx, e⟩) c
        have hi : slIns (rowN (rowT (gL l) j)) ((rowN (rowT (gL l) j)).length : Int) (j : Int) = some (rowN (rowT (gL l) (j+1))) := by
          unfold slIns; rw [if_pos (by rw [rowN_len]; omega), rowN_len, ← hnone, ins_put]; rfl
        rw [hi, Option.bind_some]; exact ih
    · have : j = k := by omega
      subst this
      rw [if_neg (by omega)]
theorem row_ev {n : Int} {l : List (Int × Int)} (hg : good n l) {e : Int} (hc : tourn_Check 300 n l = some e) (hE : CkE n l e) :
    (e ≠ 0 ∧ tourn_Row 300 n l = some ([], e)) ∨ (e = 0 ∧ ∀ k : Nat, n = k → tourn_Row 300 n l = some (rowN (rowT (gL l) k), 0)) := by
  unfold tourn_Row
  rw [hc, Option.bind_some]
  by_cases h : e = 0
  · subst h
    obtain ⟨k, rfl, h1, h8, h24, hin, he, _⟩ := ck_zero hE
    refine .inr ⟨rfl, fun k' ek => ?_⟩
    obtain rfl : k = k' := by omega
    rw [if_neg (by decide), mOut_ev hg he, Option.bind_some, show tourn_Row_L1 300 (k : Int) (outTo k l) 300 0 [] = _ from row_L1 h8 hin 300 0 (by omega) (by omega)]; rfl
  · rw [if_pos (by rw [bne_iff_ne]; exact h)]; exact .inl ⟨h, rfl⟩
/-! ### Scores -/
/-- how many i beats -/
def sc (l : List (Int × Int)) (k i : Nat) : Nat := ((List.range k).filter (gL l i)).length
theorem outMemb (hin : InL k l) (h8 : k ≤ 8) (i : Nat) : memb ((outTo k l).getD i 0) = (List.range k).filter (gL l i) := by
  unfold memb
  have e : (fun j => ((outTo k l).getD i 0).testBit j) = gL l i := funext fun j => outTo_bit hin i j
  rw [e]
  obtain ⟨m, hm⟩ : ∃ m, 16 = k + m := ⟨16 - k, by omega⟩
  have hz : ((List.range m).map fun x => k + x).filter (gL l i) = [] := List.filter_eq_nil_iff.2 (by
    intro x hx
    obtain ⟨y, _, rfl⟩ := List.mem_map.1 hx
    intro h
    have := (gL_lt hin h).2; omega)
  rw [hm, List.range_add, List.filter_append, hz, List.append_nil]
theorem sco_L1 (h8 : k ≤ 8) (hin : InL k l) : ∀ (g j : Nat), k < j + g → j ≤ k → tourn_Scores_L1 300 (outTo k l) g (j : Int) (rowN ((List.range j).map (sc l k))) = some (rowN ((List.range k).map (sc l k)))
  | 0, j, h, hj => by omega
  | g+1, j, h, hj => by
    rw [tourn_Scores_L1_s, (outTo_row hin).1]
    by_cases hlt : j < k
    · rw [if_pos (by omega), ix_out hin hlt, Option.bind_some]
      unfold sLen
      rw [if_pos (out_lt hin h8 j), Option.bind_some, outMemb hin h8 j, w64n (by omega)]
      unfold app
      rw [if_pos (by rw [rowN_len]; simp; omega), Option.bind_some]
      have e : rowN ((List.range j).map (sc l k)) ++ [(((List.range k).filter (gL l j)).length : Int)] = rowN ((List.range (j+1)).map (sc l k)) := by
        unfold rowN; rw [List.range_succ, List.map_append, List.map_append]; rfl
      rw [e]
      exact sco_L1 h8 hin g (j+1) (by omega) (by omega)
    · have : j = k := by omega
      subst this
      rw [if_neg (by omega)]
theorem scores_ev {n : Int} {l : List (Int × Int)} (hg : good n l) {e : Int} (hc : tourn_Check 300 n l = some e) (hE : CkE n l e) :
    (e ≠ 0 ∧ tourn_Scores 300 n l = some ([], e)) ∨ (e = 0 ∧ ∀ k : Nat, n = k → tourn_Scores 300 n l = some (rowN ((List.range k).map (sc l k)), 0)) := by
  unfold tourn_Scores
  rw [hc, Option.bind_some]
  by_cases h : e = 0
  · subst h
    obtain ⟨k, rfl, h1, h8, h24, hin, he, _⟩ := ck_zero hE
    refine .inr ⟨rfl, fun k' ek => ?_⟩
    obtain rfl : k = k' := by omega
    rw [if_neg (by decide), mOut_ev hg he, Option.bind_some, show tourn_Scores_L1 300 (outTo k l) 300 0 [] = _ from sco_L1 h8 hin 300 0 (by omega) (by omega)]; rfl
  · rw [if_pos (by rw [bne_iff_ne]; exact h)]; exact .inl ⟨h, rfl⟩
/-! ### Kings -/
def ov (k : Nat) (l : List (Int × Int)) (i : Nat) : Nat := (memb ((outTo k l).getD i 0)).foldl (fun a x => a ||| (outTo k l).getD x 0) ((outTo k l).getD i 0 ||| 2 ^ i)
theorem kg_L2 (h8 : k ≤ 8) (hin : InL k l) : ∀ (xs : List Nat) (a : Nat), a < 65536 → (∀ x ∈ xs, x < k) → tourn_Kings_L2 300 (outTo k l) xs a = some (xs.foldl (fun a x => a ||| (outTo k l).getD x 0) a)
  | [], a, _, _ => by rw [tourn_Kings_L2_n]; rfl
  | x :: xs, a, ha, hx => by
    rw [tourn_Kings_L2_c, ix_out hin (hx x List.mem_cons_self), Option.bind_some]
    unfold sOr
    rw [if_pos ⟨ha, out_lt hin h8 x⟩, Option.bind_some, List.foldl_cons]
    exact kg_L2 h8 hin xs _ (Nat.or_lt_two_pow (n := 16) ha (out_lt hin h8 x)) (fun y hy => hx y (List.mem_cons_of_mem _ hy))
def isK (k : Nat) (l : List (Int × Int)) (i : Nat) : Bool := decide (ov k l i = 2 ^ k - 1)
theorem fold_or_bit (f : Nat → Nat) : ∀ (xs : List Nat) (a v : Nat), (xs.foldl (fun a x => a ||| f x) a).testBit v = true ↔ a.testBit v = true ∨ ∃ x ∈ xs, (f x).testBit v = true
  | [], a, v => by simp
  | x :: xs, a, v => by
    rw [List.foldl_cons, fold_or_bit f xs, Nat.testBit_or, Bool.or_eq_true]
    constructor
    · rintro ((h | h) | ⟨y, hy, h⟩)
      · exact .inl h
      · exact .inr ⟨x, List.mem_cons_self, h⟩
      · exact .inr ⟨y, List.mem_cons_of_mem _ hy, h⟩
    · rintro (h | ⟨y, hy, h⟩)
      · exact .inl (.inl h)
      · rcases List.mem_cons.1 hy with rfl | hy
        · exact .inl (.inr h)
        · exact .inr ⟨y, hy, h⟩
theorem ov_bit (h8 : k ≤ 8) (hin : InL k l) (i v : Nat) : (ov k l i).testBit v = true ↔ v = i ∨ gL l i v = true ∨ ∃ x, gL l i x = true ∧ gL l x v = true := by
  unfold ov
  rw [fold_or_bit, Nat.testBit_or, Bool.or_eq_true, outTo_bit hin, Nat.testBit_two_pow, decide_eq_true_eq]
  constructor
  · rintro ((h | h) | ⟨x, hx, h⟩)
    · exact .inr (.inl h)
    · exact .inl h.symm
    · rw [outMemb hin h8, List.mem_filter] at hx
      rw [outTo_bit hin] at h
      exact .inr (.inr ⟨x, hx.2, h⟩)
  · rintro (h | h | ⟨x, h1, h2⟩)
    · exact .inl (.inr h.symm)
    · exact .inl (.inl h)
    · refine .inr ⟨x, ?_, by rw [outTo_bit hin]; exact h2⟩
      rw [outMemb hin h8, List.mem_filter]
      exact ⟨List.mem_range.2 (gL_lt hin h1).2, h1⟩
theorem isK_iff (h8 : k ≤ 8) (hin : InL k l) {i : Nat} (hi : i < k) : isK k l i = true ↔ King k (gL l) i := by
  unfold isK King
  rw [decide_eq_true_eq]
  constructor
  · intro h
    refine ⟨hi, fun u hu => (ov_bit h8 hin i u).1 ?_⟩
    rw [h, Nat.testBit_two_pow_sub_one]; exact decide_eq_true hu
  · rintro ⟨_, h⟩
    refine Nat.eq_of_testBit_eq fun v => ?_
    rw [Bool.eq_iff_iff, ov_bit h8 hin, Nat.testBit_two_pow_sub_one, decide_eq_true_eq]
    constructor
    · rintro (h | h | ⟨x, _, h⟩)
      · omega
      · exact (gL_lt hin h).2
      · exact (gL_lt hin h).2
    · exact h v
theorem kg_L1 (h8 : k ≤ 8) (hin : InL k l) : ∀ (g j : Nat), k < j + g → j ≤ k → tourn_Kings_L1 300 (k : Int) (outTo k l) g (j : Int) (rowN ((List.range j).filter (isK k l))) = some (rowN ((List.range k).filter (isK k l)))
  | 0, j, h, hj => by omega
  | g+1, j, h, hj => by
    rw [tourn_Kings_L1_s]
    by_cases hlt : j < k
    · have hb : sBelow (k : Int) = some (2 ^ k - 1) := by unfold sBelow; rw [if_pos (by omega), Int.toNat_natCast]
      have hw : sWith ((outTo k l).getD j 0) (j : Int) = some ((outTo k l).getD j 0 ||| 2 ^ j) := by unfold sWith; rw [if_pos ⟨out_lt hin h8 j, by omega, by omega⟩, Int.toNat_natCast]
      have hE : sEach ((outTo k l).getD j 0) = some (memb ((outTo k l).getD j 0)) := by unfold sEach; rw [if_pos (out_lt hin h8 j)]
      have ho : (outTo k l).getD j 0 ||| 2 ^ j < 65536 := Nat.or_lt_two_pow (n := 16) (out_lt hin h8 j) (Nat.pow_lt_pow_right (by omega) (by omega))
      have ih := kg_L1 h8 hin g (j+1) (by omega) (by omega)
      have hfl := List.length_filter_le (isK k l) (List.range j)
      rw [List.length_range] at hfl
      rw [if_pos (by omega), ix_out hin hlt, Option.bind_some, hw, Option.bind_some, Option.bind_some, hE, Option.bind_some,
        kg_L2 h8 hin _ _ ho (fun x hx => by rw [outMemb hin h8, List.mem_filter] at hx; exact List.mem_range.1 hx.1), Option.bind_some, hb, Option.bind_some, w64n (by omega)]
      have hov : (memb ((outTo k l).getD j 0)).foldl (fun a x => a ||| (outTo k l).getD x 0) ((outTo k l).getD j 0 ||| 2 ^ j) = ov k l j := rfl
      rw [hov]
      rw [List.range_succ, List.filter_append] at ih
      by_cases c : ov k l j = 2 ^ k - 1
      · have hk : isK k l j = true := decide_eq_true c
        rw [if_pos (by rw [beq_iff_eq]; exact c)]
        unfold app
        rw [if_pos (by rw [rowN_len]; omega), Option.bind_some]
        rw [List.filter_cons, hk, if_pos rfl, List.filter_nil] at ih
        have e : rowN ((List.range j).filter (isK k l)) ++ [(j : Int)] = rowN ((List.range j).filter (isK k l) ++ [j]) := by unfold rowN; rw [List.map_append]; rfl
        rw [e]; exact ih
      · have hk : isK k l j = false := decide_eq_false c
        rw [if_neg (by rw [beq_iff_eq]; exact c)]
        rw [List.filter_cons, hk, if_neg (by decide), List.filter_nil, List.append_nil] at ih
        exact ih
    · have : j = k := by omega
      subst this
      rw [if_neg (by omega)]
theorem kings_ev {n : Int} {l : List (Int × Int)} (hg : good n l) {e : Int} (hc : tourn_Check 300 n l = some e) (hE : CkE n l e) :
    (e ≠ 0 ∧ tourn_Kings 300 n l = some ([], e)) ∨ (e = 0 ∧ ∀ k : Nat, n = k → tourn_Kings 300 n l = some (rowN ((List.range k).filter (isK k l)), 0)) := by
  unfold tourn_Kings
  rw [hc, Option.bind_some]
  by_cases h : e = 0
  · subst h
    obtain ⟨k, rfl, h1, h8, h24, hin, he, _⟩ := ck_zero hE
    refine .inr ⟨rfl, fun k' ek => ?_⟩
    obtain rfl : k = k' := by omega
    rw [if_neg (by decide), mOut_ev hg he, Option.bind_some, show tourn_Kings_L1 300 (k : Int) (outTo k l) 300 0 [] = _ from kg_L1 h8 hin 300 0 (by omega) (by omega)]; rfl
  · rw [if_pos (by rw [bne_iff_ne]; exact h)]; exact .inl ⟨h, rfl⟩
end
end Go.Proofs.YtabkmceajgpdjaaDoor
