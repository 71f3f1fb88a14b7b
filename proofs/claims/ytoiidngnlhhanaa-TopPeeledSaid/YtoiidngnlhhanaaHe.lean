import Derived.Test.YtoiidngnlhhanaaAl
import Derived.Test.YtoiidngnlhhanaaSev
import Derived.Test.YtoiidngnlhhanaaCh2
/- plain: points all beside which are beside each other; peeling -/
set_option linter.all false
set_option maxRecDepth 100000
namespace Go.Proofs.Ytoiidngnlhhanaa
open Go.RowKit Go.Shelf Pl
theorem rowN_map (l : List Nat) : l.map Int.ofNat = rowN l := rfl
/-- all beside a point, within a set, are beside each other -/
def simpB (a : Nat → Nat → Bool) (S v : Nat) : Bool := (memb S).all fun u => (memb S).all fun w => !(a v u && a v w && u != w) || a u w
theorem simpB_iff {a : Nat → Nat → Bool} {S v : Nat} (hS : S < 65536) : simpB a S v = true ↔ ∀ u w, S.testBit u = true → S.testBit w = true → a v u = true → a v w = true → u ≠ w → a u w = true := by
  unfold simpB
  rw [List.all_eq_true]
  constructor
  · intro h u w hu hw h1 h2 hne
    have := List.all_eq_true.1 (h u ((mem_memb hS).2 hu)) w ((mem_memb hS).2 hw)
    rw [h1, h2, bne_iff_ne.2 hne] at this
    simpa using this
  · intro h u hu
    rw [List.all_eq_true]
    intro w hw
    cases h1 : a v u
    · simp
    · cases h2 : a v w
      · simp
      · by_cases e : u = w
        · subst e; simp
        · rw [bne_iff_ne.2 e, h u w ((mem_memb hS).1 hu) ((mem_memb hS).1 hw) h1 h2 e]; rfl
theorem simple1_ev (F : Nat) {a : Nat → Nat → Bool} {bes : List Nat} (hb : ∀ v, bes.getD v 0 < 65536) (hba : ∀ v u, (bes.getD v 0).testBit u = a v u) {T j : Nat} (hT : T < 65536) (hj : j < bes.length) (hl : bes.length ≤ 16) :
    brambleweir_chordal_simple_1 F T bes (j : Int) = some (!((memb T).all fun u => u == j || a j u)) := by
  have h1 : sWithout T (j : Int) = some (ndiff T (2 ^ j)) := by unfold sWithout; rw [if_pos ⟨hT, by omega, by omega⟩, Int.toNat_natCast]
  have h2 : ndiff T (2 ^ j) < 65536 := Nat.lt_of_le_of_lt (ndiff_le _ _) hT
  have h3 : sNot (ndiff T (2 ^ j)) (bes.getD j 0) = some (ndiff (ndiff T (2 ^ j)) (bes.getD j 0)) := by unfold sNot; rw [if_pos ⟨h2, hb j⟩]
  unfold brambleweir_chordal_simple_1
  rw [h1, Option.bind_some, ix_at 0 hj, Option.bind_some, h3, Option.bind_some]
  have key : ndiff (ndiff T (2 ^ j)) (bes.getD j 0) = 0 ↔ ((memb T).all fun u => u == j || a j u) = true := by
    rw [List.all_eq_true]
    constructor
    · intro h u hu
      have hu' := (mem_memb hT).1 hu
      by_cases e : u = j
      · rw [beq_iff_eq.2 e]; rfl
      · have : (ndiff (ndiff T (2 ^ j)) (bes.getD j 0)).testBit u = false := by rw [h, Nat.zero_testBit]
        have e' : ¬ j = u := fun q => e q.symm
        rw [ndiff_testBit, ndiff_testBit, Nat.testBit_two_pow, hu', hba] at this
        simp [e'] at this
        rw [this]; simp
    · intro h
      refine Nat.eq_of_testBit_eq fun u => ?_
      rw [Nat.zero_testBit, ndiff_testBit, ndiff_testBit, Nat.testBit_two_pow, hba]
      cases hu : T.testBit u
      · rfl
      · have := h u ((mem_memb hT).2 hu)
        by_cases e : u = j
        · subst e; simp
        · rw [beq_eq_false_iff_ne.2 e, Bool.false_or] at this
          rw [this]; simp
  by_cases h : ((memb T).all fun u => u == j || a j u) = true
  · rw [if_neg (by rw [key.2 h]; decide), h]; rfl
  · rw [if_pos (bne_iff_ne.2 fun q => h (key.1 q)), Bool.eq_false_iff.2 h]; rfl
theorem simple_ev {a : Nat → Nat → Bool} {bes : List Nat} (hb : ∀ v, bes.getD v 0 < 65536) (hba : ∀ v u, (bes.getD v 0).testBit u = a v u) (hs : ∀ i j, a i j = a j i) (hk : ∀ v u, a v u = true → u < bes.length) {S v : Nat} (hS : S < 65536) (hv : v < bes.length) (hl : bes.length ≤ 16) :
    chordal_simple 300 bes (v : Int) S = some (simpB a S v) := by
  unfold chordal_simple
  have h1 : sAnd (bes.getD v 0) S = some (bes.getD v 0 &&& S) := by unfold sAnd; rw [if_pos ⟨hb v, hS⟩]
  have hT : bes.getD v 0 &&& S < 65536 := Nat.lt_of_le_of_lt Nat.and_le_right hS
  have hbit : ∀ u, (bes.getD v 0 &&& S).testBit u = (a v u && S.testBit u) := fun u => by rw [Nat.testBit_and, hba]
  obtain ⟨T, hTe⟩ : ∃ T, bes.getD v 0 &&& S = T := ⟨_, rfl⟩
  rw [hTe] at h1 hT hbit
  have h2 : sList T = some (rowN (memb T)) := by unfold sList; rw [if_pos hT]; rfl
  have hml : (memb T).length ≤ 16 := by
    unfold memb; have := List.length_filter_le (fun i => T.testBit i) (List.range 16); rwa [List.length_range] at this
  have h3 : slices_ContainsFunc_int_int 300 (rowN (memb T)) (fun z => brambleweir_chordal_simple_1 300 T bes z) = some ((rowN (memb T)).any fun z => !((memb T).all fun u => u == z.toNat || a z.toNat u)) := by
    refine slConF_ev (fun x hx => ?_) (by unfold rowN; rw [List.length_map]; omega)
    obtain ⟨j, hj, rfl⟩ := List.mem_map.1 hx
    have hjb := (mem_memb hT).1 hj
    rw [hbit, Bool.and_eq_true] at hjb
    rw [simple1_ev 300 hb hba hT (hk _ _ hjb.1) hl, Int.toNat_natCast]
  rw [ix_at 0 hv, Option.bind_some, h1, Option.bind_some, h2, Option.bind_some, h3, Option.bind_some]
  have key : ((rowN (memb T)).any fun z => !((memb T).all fun u => u == z.toNat || a z.toNat u)) = !simpB a S v := by
    rw [Bool.eq_iff_iff]
    rw [List.any_eq_true]
    constructor
    · rintro ⟨z, hz, h⟩
      obtain ⟨j, hj, rfl⟩ := List.mem_map.1 hz
      rw [Int.toNat_natCast, Bool.not_eq_true'] at h
      rw [Bool.not_eq_true']
      refine Bool.eq_false_iff.2 fun q => ?_
      rw [simpB_iff hS] at q
      have hjb := (mem_memb hT).1 hj
      rw [hbit, Bool.and_eq_true] at hjb
      refine Bool.eq_false_iff.1 h (List.all_eq_true.2 fun u hu => ?_)
      have hub := (mem_memb hT).1 hu
      rw [hbit, Bool.and_eq_true] at hub
      by_cases e : u = j
      · rw [beq_iff_eq.2 e]; rfl
      · rw [q j u hjb.2 hub.2 hjb.1 hub.1 (fun z => e z.symm)]; simp
    · intro h
      rw [Bool.not_eq_true'] at h
      refine Classical.byContradiction fun hno => Bool.eq_false_iff.1 h ((simpB_iff hS).2 fun u w hu hw h1 h2 hne => ?_)
      refine Classical.byContradiction fun huw => hno ⟨(u : Int), List.mem_map.2 ⟨u, (mem_memb hT).2 (by rw [hbit, h1, hu]; rfl), rfl⟩, ?_⟩
      rw [Int.toNat_natCast, Bool.not_eq_true']
      refine Bool.eq_false_iff.2 fun q => ?_
      have := List.all_eq_true.1 q w ((mem_memb hT).2 (by rw [hbit, h2, hw]; rfl))
      rw [beq_eq_false_iff_ne.2 (fun e => hne e.symm), Bool.false_or] at this
      exact huw this
  rw [key]
  cases simpB a S v <;> rfl
/-- peeling: time and again the least simple point -/
def peelG (a : Nat → Nat → Bool) : Nat → List Nat → Nat → Option (List Nat)
  | 0, os, _ => some os
  | g+1, os, left => if left = 0 then some os else match (memb left).find? (simpB a left) with
    | none => none
    | some v => peelG a g (os ++ [v]) (ndiff left (2 ^ v))
theorem find_idx {p : Nat → Bool} : ∀ {l : List Nat} {v : Nat}, l.find? p = some v → l.any p = true ∧ l.getD (l.findIdx p) 0 = v ∧ l.findIdx p < l.length
  | x :: l, v, h => by
    rw [List.find?_cons] at h
    rw [List.any_cons, List.findIdx_cons]
    cases hx : p x
    · rw [hx] at h
      obtain ⟨h1, h2, h3⟩ := find_idx (l := l) h
      rw [h1]
      refine ⟨rfl, ?_, by simp only [cond_false, List.length_cons]; omega⟩
      simp only [cond_false]
      exact h2
    · rw [hx] at h
      obtain rfl := Option.some.inj h
      exact ⟨rfl, rfl, by simp⟩
theorem find_none {p : Nat → Bool} {l : List Nat} (h : l.find? p = none) : l.any p = false := by
  refine Bool.eq_false_iff.2 fun q => ?_
  obtain ⟨x, hx, hp⟩ := List.any_eq_true.1 q
  exact List.find?_eq_none.1 h x hx hp
theorem any_rowN (l : List Nat) (q : Nat → Bool) : (rowN l).any (fun z => q z.toNat) = l.any q := by
  unfold rowN; rw [List.any_map]; rfl
theorem findIdx_rowN (l : List Nat) (q : Nat → Bool) : (rowN l).findIdx (fun z => q z.toNat) = l.findIdx q := by
  unfold rowN; rw [List.findIdx_map]; rfl
theorem memb_len16 (T : Nat) : (memb T).length ≤ 16 := by
  unfold memb; have := List.length_filter_le (fun i => T.testBit i) (List.range 16); rwa [List.length_range] at this
theorem peel_L1 {a : Nat → Nat → Bool} {bes : List Nat} {k : Nat} (h8 : k ≤ 8) (hbl : bes.length = k) (hb : ∀ v, bes.getD v 0 < 65536) (hba : ∀ v u, (bes.getD v 0).testBit u = a v u) (hs : ∀ i j, a i j = a j i) (hk : ∀ v u, a v u = true → u < k) : ∀ (g : Nat) (os : List Nat) (left : Nat), (memb left).length < g → left < 2 ^ k → os.length + (memb left).length ≤ 100 →
    (∃ os', peelG a g os left = some os' ∧ ∃ z, chordal_Peel_L1 300 bes g (rowN os) left = some (.inl (rowN os', z))) ∨ (peelG a g os left = none ∧ chordal_Peel_L1 300 bes g (rowN os) left = some (.inr ([], 5)))
  | 0, os, left, h, _, _ => by omega
  | g+1, os, left, h, hlt, hol => by
    have hp := Nat.pow_le_pow_right (n := 2) (by omega) h8
    have h16 : left < 65536 := by omega
    rw [chordal_Peel_L1_s]
    unfold peelG
    by_cases hz : left = 0
    · rw [if_neg (show ¬ ((left != 0) = true) by rw [hz]; decide), if_pos hz]
      exact .inl ⟨os, rfl, _, rfl⟩
    · have hml : ∀ x ∈ memb left, x < k := fun x hx => bitLt hlt ((mem_memb h16).1 hx)
      have h2 : sList left = some (rowN (memb left)) := by unfold sList; rw [if_pos h16]; rfl
      have h3 : slices_IndexFunc_int_int 300 (rowN (memb left)) (fun z => brambleweir_chordal_Peel_1 300 bes left z) = some (if (rowN (memb left)).any (fun z => simpB a left z.toNat) then (((rowN (memb left)).findIdx (fun z => simpB a left z.toNat) : Nat) : Int) else -1) := by
        refine slIdxF_ev (fun x hx => ?_) (by unfold rowN; rw [List.length_map]; have := memb_len16 left; omega)
        obtain ⟨j, hj, rfl⟩ := List.mem_map.1 hx
        unfold brambleweir_chordal_Peel_1
        rw [simple_ev hb hba hs (fun v u h => by rw [hbl]; exact hk v u h) h16 (by rw [hbl]; exact hml j hj) (by omega), Int.toNat_natCast]; rfl
      rw [if_pos (bne_iff_ne.2 hz), if_neg hz, h2, Option.bind_some, h3, Option.bind_some, any_rowN, findIdx_rowN]
      cases hf : (memb left).find? (simpB a left) with
      | none =>
        rw [find_none hf, if_neg (show ¬ (false = true) by decide), if_pos (show (-1 : Int) < 0 by decide)]
        exact .inr ⟨rfl, rfl⟩
      | some v =>
        obtain ⟨f1, f2, f3⟩ := find_idx hf
        have hvm : v ∈ memb left := List.mem_of_find?_eq_some hf
        have hless := memb_less hvm
        have hvk := hml v hvm
        rw [f1, if_pos rfl, if_neg (by omega), Option.bind_some]
        have e1 : ix (rowN (memb left)) (((memb left).findIdx (simpB a left) : Nat) : Int) = some ((v : Nat) : Int) := by
          unfold rowN
          rw [ix_map f3, f2]
        have e2 : app (rowN os) (v : Int) = some (rowN (os ++ [v])) := by
          unfold app rowN
          rw [List.length_map, if_pos (by omega), List.map_append]; rfl
        have e3 : sWithout left (v : Int) = some (ndiff left (2 ^ v)) := by unfold sWithout; rw [if_pos ⟨h16, by omega, by omega⟩, Int.toNat_natCast]
        rw [e1, Option.bind_some, e2, Option.bind_some, e3, Option.bind_some]
        exact peel_L1 h8 hbl hb hba hs hk g (os ++ [v]) _ (by omega) (Nat.lt_of_le_of_lt (ndiff_le _ _) hlt) (by rw [List.length_append, List.length_singleton]; omega)
theorem memb_full {k : Nat} (h8 : k ≤ 16) : memb (2 ^ k - 1) = List.range k := by
  have hpos := Nat.two_pow_pos k
  rw [← restM_zero (k := k) h8 (by omega)]
  unfold restM
  rw [Nat.sub_zero, ← List.range_eq_range', List.filter_eq_self]
  intro v hv
  rw [Nat.testBit_two_pow_sub_one]; exact decide_eq_true (List.mem_range.1 hv)
theorem besR {k : Nat} {l : List (Int × Int)} (h8 : k ≤ 8) (hin : InL k l) : (besM k l).length = k ∧ (∀ v, (besM k l).getD v 0 < 65536) ∧ ∀ v u, ((besM k l).getD v 0).testBit u = aL l v u := by
  have hr := besM_row hin
  have hp := Nat.pow_le_pow_right (n := 2) (by omega) h8
  exact ⟨hr.1, fun v => getD_lt (fun m hm => by have := hr.2 m hm; omega) v, fun v u => adj_besL hin v u⟩
theorem peel_ev {k : Nat} {l : List (Int × Int)} (h1 : 1 ≤ k) (h8 : k ≤ 8) (h24 : l.length ≤ 24) (hin : InL k l) (hne : ∀ p ∈ l, p.1 ≠ p.2) :
    (∃ os, peelG (aL l) 300 [] (2 ^ k - 1) = some os ∧ chordal_Peel 300 (k : Int) l = some (rowN os, 0)) ∨ (peelG (aL l) 300 [] (2 ^ k - 1) = none ∧ chordal_Peel 300 (k : Int) l = some ([], 5)) := by
  have hg : good (k : Int) l := ⟨wf8 h8, by unfold maxLen; omega⟩
  have he := errG_ok h1 h8 h24 hin hne
  obtain ⟨b1, b2, b3⟩ := besR h8 hin
  have hpos := Nat.two_pow_pos k
  have hB : sBelow (k : Int) = some (2 ^ k - 1) := by unfold sBelow; rw [if_pos (by omega), Int.toNat_natCast]
  unfold chordal_Peel
  rw [mCheck_ev hg, he, Option.bind_some, if_neg (by decide), mBeside_ev hg he, Option.bind_some, hB, Option.bind_some]
  rcases peel_L1 (a := aL l) h8 b1 b2 b3 (aL_sym l) (fun v u h => (aL_lt hin h).2) 300 [] (2 ^ k - 1) (by rw [memb_full (by omega), List.length_range]; omega) (by omega) (by rw [memb_full (by omega), List.length_range]; simp; omega) with ⟨os, q1, z, q2⟩ | ⟨q1, q2⟩
  · exact .inl ⟨os, q1, by rw [show chordal_Peel_L1 300 (besM k l) 300 [] (2 ^ k - 1) = _ from q2]; rfl⟩
  · exact .inr ⟨q1, by rw [show chordal_Peel_L1 300 (besM k l) 300 [] (2 ^ k - 1) = _ from q2]; rfl⟩
theorem peel_bad {n : Int} {l : List (Int × Int)} (hg : good n l) (he : errG n l ≠ 0) : chordal_Peel 300 n l = some ([], errG n l) := by
  unfold chordal_Peel
  rw [mCheck_ev hg, Option.bind_some, if_pos (bne_iff_ne.2 he)]
end Go.Proofs.Ytoiidngnlhhanaa
