import Derived.Test.YtcbalejnkhnppaaDoorHe
/- plain: the document's simple points and its peeling; chordal.Simple -/
set_option linter.all false
set_option maxRecDepth 100000
namespace Go.Proofs.YtcbalejnkhnppaaDoor
open Go.RowKit Go.Shelf Pl
def badP (a : Nat → Nat → Bool) (i : Nat) (xs : List Nat) (p q : Nat) : Bool := a i (xs.getD p 0) && a i (xs.getD q 0) && !a (xs.getD p 0) (xs.getD q 0)
theorem s3_L2 {l : List (Int × Int)} (hl : l.length ≤ 24) (i : Nat) {xs : List Nat} (hx : xs.length ≤ 16) {p : Nat} (hp : p < xs.length) : ∀ (g q : Nat), p < q + g → q ≤ p →
    ∃ x, R3_Simple_L2 300 l (i : Int) (rowN xs) (p : Int) g (q : Int) = some (if (List.range' q (p - q)).any (badP (aL l) i xs p) then .inr false else .inl x)
  | 0, q, h, hq => by omega
  | g+1, q, h, hq => by
    rw [R3_Simple_L2_s]
    by_cases hlt : q < p
    · have e : List.range' q (p - q) = q :: List.range' (q+1) (p - (q+1)) := by
        rw [show p - q = (p - (q+1)) + 1 by omega, List.range'_succ]
      have i1 : ix (rowN xs) (p : Int) = some ((xs.getD p 0 : Nat) : Int) := ix_map hp
      have i2 : ix (rowN xs) (q : Int) = some ((xs.getD q 0 : Nat) : Int) := ix_map (by omega)
      have b1 : ∀ x y : Nat, R1_Beside 300 l (x : Int) (y : Int) = some (aL l x y) := fun x y => R1_Beside_ev _ _ (by omega) (by omega)
      obtain ⟨x, hx'⟩ := s3_L2 hl i hx hp g (q+1) (by omega) (by omega)
      rw [if_pos (by omega), i1, i2]
      simp only [Option.bind_some]
      rw [b1, b1, b1, e, List.any_cons, w64n (by omega), hx']
      refine ⟨x, ?_⟩
      generalize (List.range' (q+1) (p - (q+1))).any (badP (aL l) i xs p) = R
      rw [show badP (aL l) i xs p q = (aL l i (xs.getD p 0) && aL l i (xs.getD q 0) && !aL l (xs.getD p 0) (xs.getD q 0)) from rfl]
      cases aL l i (xs.getD p 0) <;> cases aL l i (xs.getD q 0) <;> cases aL l (xs.getD p 0) (xs.getD q 0) <;> cases R <;> simp
    · have : q = p := by omega
      subst this
      rw [if_neg (by omega), Nat.sub_self]
      exact ⟨_, rfl⟩
theorem s3_L1 {l : List (Int × Int)} (hl : l.length ≤ 24) (i : Nat) {xs : List Nat} (hx : xs.length ≤ 16) : ∀ (g p : Nat), xs.length < p + g → p ≤ xs.length →
    ∃ x, R3_Simple_L1 300 l (i : Int) (rowN xs) g (p : Int) = some (if (List.range' p (xs.length - p)).any (fun p => (List.range' 0 p).any (badP (aL l) i xs p)) then .inr false else .inl x)
  | 0, p, h, hp => by omega
  | g+1, p, h, hp => by
    have hlen : (rowN xs).length = xs.length := by unfold rowN; rw [List.length_map]
    rw [R3_Simple_L1_s, hlen]
    by_cases hlt : p < xs.length
    · have e : List.range' p (xs.length - p) = p :: List.range' (p+1) (xs.length - (p+1)) := by
        rw [show xs.length - p = (xs.length - (p+1)) + 1 by omega, List.range'_succ]
      obtain ⟨y, hy⟩ := s3_L2 hl i hx hlt 300 0 (by omega) (by omega)
      obtain ⟨x, hx'⟩ := s3_L1 hl i hx g (p+1) (by omega) (by omega)
      rw [if_pos (by omega), show R3_Simple_L2 300 l (i : Int) (rowN xs) (p : Int) 300 0 = _ from hy, Option.bind_some, e, List.any_cons, w64n (by omega), Nat.sub_zero]
      refine ⟨x, ?_⟩
      cases (List.range' 0 p).any (badP (aL l) i xs p)
      · rw [if_neg (by decide), Bool.false_or]
        exact hx'
      · rw [if_pos rfl, Bool.true_or, if_pos rfl]
    · have : p = xs.length := by omega
      subst this
      rw [if_neg (by omega), Nat.sub_self]
      exact ⟨_, rfl⟩
theorem s3_ev {l : List (Int × Int)} (hl : l.length ≤ 24) (n : Int) (i : Nat) {S : Nat} (hS : S < 65536) : R3_Simple 300 n l (i : Int) (rowN (memb S)) = some (simpB (aL l) S i) := by
  obtain ⟨x, hx⟩ := s3_L1 hl i (memb_len16 S) 300 0 (by have := memb_len16 S; omega) (by omega)
  unfold R3_Simple
  rw [show R3_Simple_L1 300 l (i : Int) (rowN (memb S)) 300 0 = _ from hx, Option.bind_some, Nat.sub_zero]
  have key : simpB (aL l) S i = !((List.range' 0 (memb S).length).any fun p => (List.range' 0 p).any (badP (aL l) i (memb S) p)) := by
    have hget : ∀ p, p < (memb S).length → S.testBit ((memb S).getD p 0) = true := fun p hp => by
      have : (memb S).getD p 0 = (memb S)[p] := by simp [List.getD, hp]
      rw [this]; exact (mem_memb hS).1 (List.getElem_mem _)
    rw [Bool.eq_iff_iff, simpB_iff hS, Bool.not_eq_true']
    constructor
    · intro h
      refine Bool.eq_false_iff.2 fun q => ?_
      obtain ⟨p, hp, q⟩ := List.any_eq_true.1 q
      obtain ⟨r, hr, q⟩ := List.any_eq_true.1 q
      have hp' := List.mem_range'_1.1 hp
      have hr' := List.mem_range'_1.1 hr
      unfold badP at q
      rw [Bool.and_eq_true, Bool.and_eq_true, Bool.not_eq_true'] at q
      have := h _ _ (hget p (by omega)) (hget r (by omega)) q.1.1 q.1.2 (fun e => by
        have := getD_inj (membNd S) (r := p) (s := r) (by omega) (by omega) e
        omega)
      rw [q.2] at this; cases this
    · intro h u w hu hw h1 h2 hne
      obtain ⟨p, hp, ep⟩ := List.getElem_of_mem ((mem_memb hS).2 hu)
      obtain ⟨r, hr, er⟩ := List.getElem_of_mem ((mem_memb hS).2 hw)
      have ep' : (memb S).getD p 0 = u := by rw [← ep]; simp [List.getD, hp]
      have er' : (memb S).getD r 0 = w := by rw [← er]; simp [List.getD, hr]
      have hpr : p ≠ r := fun e => by subst e; exact hne (by rw [← ep', ← er'])
      have nb : ∀ p r, p < (memb S).length → r < p → badP (aL l) i (memb S) p r = false := fun p r hp hr => by
        refine Bool.eq_false_iff.2 fun q => Bool.eq_false_iff.1 h ?_
        exact List.any_eq_true.2 ⟨p, List.mem_range'_1.2 ⟨by omega, by omega⟩, List.any_eq_true.2 ⟨r, List.mem_range'_1.2 ⟨by omega, by omega⟩, q⟩⟩
      rcases Nat.lt_or_gt_of_ne hpr with q | q
      · have := nb r p hr q
        unfold badP at this
        rw [er', ep', h1, h2, aL_sym l w u] at this
        simpa using this
      · have := nb p r hp q
        unfold badP at this
        rw [er', ep', h1, h2] at this
        simpa using this
  rw [key]
  cases (List.range' 0 (memb S).length).any fun p => (List.range' 0 p).any (badP (aL l) i (memb S) p)
  · rfl
  · rfl
/-! ### the document's peeling -/
theorem p3_L2 {k left : Nat} (h8 : k ≤ 8) {gone : List Int} (hg : Gone k left gone) : ∀ (g i : Nat) (o : List Int), k < i + g → i ≤ k → o.length ≤ i →
    ∃ x, R3_Peel_L2 300 (k : Int) gone g o (i : Int) = some (o ++ rowN (restM k left i), x)
  | 0, i, o, h, hi, _ => by omega
  | g+1, i, o, h, hi, ho => by
    have hgl := hg.len
    rw [R3_Peel_L2_s]
    by_cases hlt : i < k
    · rw [if_pos (by omega), R1_Has_ev _ (by omega) (by omega), Option.bind_some, w64n (by omega), restM_step hlt]
      cases c : left.testBit i
      · rw [decide_eq_true ((hg.mem i hlt).2 c), if_pos rfl, if_neg (by decide)]
        exact p3_L2 h8 hg g (i+1) o (by omega) (by omega) (by omega)
      · rw [decide_eq_false (fun q => by rw [(hg.mem i hlt).1 q] at c; cases c), if_neg (by decide), if_pos rfl]
        obtain ⟨x, hx⟩ := p3_L2 h8 hg g (i+1) (o ++ [(i : Int)]) (by omega) (by omega) (by rw [List.length_append, List.length_singleton]; omega)
        unfold app
        rw [if_pos (by omega), Option.bind_some, hx, List.append_assoc]
        exact ⟨x, rfl⟩
    · have : i = k := by omega
      subst this
      rw [if_neg (by omega)]
      exact ⟨_, by unfold restM; rw [Nat.sub_self]; show some (o, _) = some (o ++ [], _); rw [List.append_nil]⟩
theorem p3_L3 {l : List (Int × Int)} (hl : l.length ≤ 24) (n : Int) {S : Nat} (hS : S < 65536) : ∀ (g i : Nat) (at_ : Int), i ≤ (memb S).length → i < g →
    ∃ x, R3_Peel_L3 300 n l (rowN (memb S)) g at_ ((i : Int) - 1) = some (match ((memb S).take i).find? (simpB (aL l) S) with | some v => ((v : Nat) : Int) | none => at_, x)
  | 0, i, at_, h, hg => by omega
  | g+1, 0, at_, h, hg => by
    rw [R3_Peel_L3_s, if_neg (by omega)]
    exact ⟨_, rfl⟩
  | g+1, i+1, at_, h, hg => by
    have hm := memb_len16 S
    have e1 : ((i + 1 : Nat) : Int) - 1 = (i : Int) := by omega
    have i1 : ix (rowN (memb S)) (i : Int) = some (((memb S).getD i 0 : Nat) : Int) := ix_map (by omega)
    have eg : (memb S).getD i 0 = (memb S)[i]'(by omega) := by simp [List.getD, show i < (memb S).length by omega]
    rw [R3_Peel_L3_s, e1, if_pos (by omega), i1, Option.bind_some, s3_ev hl n _ hS, Option.bind_some, w64 (by omega) (by omega), List.take_succ_eq_append_getElem (by omega), List.find?_append, ← eg]
    cases c : simpB (aL l) S ((memb S).getD i 0)
    · obtain ⟨x, hx⟩ := p3_L3 hl n hS g i at_ (by omega) (by omega)
      rw [if_neg (by decide), hx]
      refine ⟨x, ?_⟩
      rw [List.find?_cons, c]
      cases ((memb S).take i).find? (simpB (aL l) S) <;> rfl
    · obtain ⟨x, hx⟩ := p3_L3 hl n hS g i (((memb S).getD i 0 : Nat) : Int) (by omega) (by omega)
      rw [if_pos rfl, Option.bind_some, hx]
      refine ⟨x, ?_⟩
      rw [List.find?_cons, c]
      cases ((memb S).take i).find? (simpB (aL l) S) <;> rfl
theorem p3_L1 {l : List (Int × Int)} (hl : l.length ≤ 24) {k : Nat} (h8 : k ≤ 8) : ∀ (g : Nat) (os : List Nat) (left : Nat), (memb left).length < g → left < 2 ^ k → os.length + (memb left).length = k → Gone k left (rowN os) →
    R3_Peel_L1 300 (k : Int) l g (rowN os) = some (match peelG (aL l) g os left with | some os' => .inl (rowN os') | none => .inr ([], false))
  | 0, os, left, h, _, _, _ => by omega
  | g+1, os, left, h, hlt, hol, hg => by
    have hp := Nat.pow_le_pow_right (n := 2) (by omega) h8
    have h16 : left < 65536 := by omega
    have hlen : (rowN os).length = os.length := by unfold rowN; rw [List.length_map]
    rw [R3_Peel_L1_s, hlen]
    unfold peelG
    by_cases hz : left = 0
    · have hm0 : (memb left).length = 0 := by rw [hz]; rfl
      rw [if_neg (by omega), if_pos hz]
    · have hne := memb_ne h16 hz
      have hpos : 0 < (memb left).length := List.length_pos_iff.2 hne
      obtain ⟨x, hx⟩ := p3_L2 h8 hg 300 0 [] (by omega) (by omega) (by simp)
      rw [List.nil_append, restM_zero (by omega) hlt] at hx
      obtain ⟨y, hy⟩ := p3_L3 hl (k : Int) h16 300 (memb left).length (-1) (Nat.le_refl _) (by have := memb_len16 left; omega)
      rw [List.take_length] at hy
      have hml : (rowN (memb left)).length = (memb left).length := by unfold rowN; rw [List.length_map]
      have hm16 := memb_len16 left
      rw [if_pos (by omega), if_neg hz, show R3_Peel_L2 300 (k : Int) (rowN os) 300 [] 0 = _ from hx, Option.bind_some]
      dsimp only
      rw [hml, w64 (by omega) (by omega), hy, Option.bind_some]
      cases hf : (memb left).find? (simpB (aL l) left) with
      | none =>
        dsimp only
        rw [if_pos (by decide)]
      | some v =>
        have hvm : v ∈ memb left := List.mem_of_find?_eq_some hf
        have hless := memb_less hvm
        have hbit := (mem_memb h16).1 hvm
        have hap : app (rowN os) (v : Int) = some (rowN (os ++ [v])) := by
          unfold app rowN
          rw [List.length_map, if_pos (by omega), List.map_append]; rfl
        dsimp only
        rw [if_neg (show ¬ (((v : Nat) : Int) < 0) from Int.not_lt.2 (Int.natCast_nonneg v)), hap, Option.bind_some]
        refine p3_L1 hl h8 g (os ++ [v]) (ndiff left (2 ^ v)) (by omega) (Nat.lt_of_le_of_lt (ndiff_le _ _) hlt) (by rw [List.length_append, List.length_singleton]; omega) ⟨by unfold rowN; rw [List.length_map, List.length_append, List.length_singleton]; omega, fun i hi => ?_⟩
        have e1 : ((i : Int) ∈ rowN (os ++ [v])) ↔ i = v ∨ (i : Int) ∈ rowN os := by
          unfold rowN
          rw [List.map_append, List.mem_append]
          constructor
          · rintro (q | q)
            · exact .inr q
            · left; simp at q; omega
          · rintro (q | q)
            · right; simp; omega
            · exact .inl q
        rw [e1, hg.mem i hi, ndiff_testBit, Nat.testBit_two_pow]
        by_cases e : i = v
        · subst e; simp
        · have e' : ¬ v = i := fun q => e q.symm
          simp [e, e']
theorem peel3_ev {k : Nat} {l : List (Int × Int)} (h1 : 1 ≤ k) (h8 : k ≤ 8) (h24 : l.length ≤ 24) : R3_Peel 300 (k : Int) l = some (match peelG (aL l) 300 [] (2 ^ k - 1) with | some os => (rowN os, true) | none => ([], false)) := by
  have hpos := Nat.two_pow_pos k
  have e := p3_L1 h24 h8 300 [] (2 ^ k - 1) (by rw [memb_full (by omega), List.length_range]; omega) (by omega) (by rw [memb_full (by omega), List.length_range]; simp) ⟨by simp [rowN], fun i hi => by
    rw [Nat.testBit_two_pow_sub_one, decide_eq_true hi]; simp [rowN]⟩
  unfold R3_Peel
  rw [show R3_Peel_L1 300 (k : Int) l 300 [] = _ from e, Option.bind_some]
  cases peelG (aL l) 300 [] (2 ^ k - 1) <;> rfl
/-! ### chordal.Simple -/
def simps (a : Nat → Nat → Bool) (k : Nat) : List Nat := (List.range k).filter (simpB a (2 ^ k - 1))
theorem cs_L1 {k : Nat} {l : List (Int × Int)} (h8 : k ≤ 8) (hin : InL k l) : ∀ (g j : Nat) (o : List Int), k < j + g → j ≤ k → o = rowN ((List.range j).filter (simpB (aL l) (2 ^ k - 1))) →
    chordal_Simple_L1 300 (k : Int) (besM k l) g (j : Int) o = some (rowN (simps (aL l) k))
  | 0, j, o, h, hj, ho => by omega
  | g+1, j, o, h, hj, ho => by
    rw [chordal_Simple_L1_s]
    by_cases hlt : j < k
    · obtain ⟨b1, b2, b3⟩ := besR h8 hin
      have hpos := Nat.two_pow_pos k
      have hp := Nat.pow_le_pow_right (n := 2) (by omega) h8
      have hB : sBelow (k : Int) = some (2 ^ k - 1) := by unfold sBelow; rw [if_pos (by omega), Int.toNat_natCast]
      have hol : o.length ≤ j := by
        rw [ho]; unfold rowN; rw [List.length_map]; have := List.length_filter_le (simpB (aL l) (2 ^ k - 1)) (List.range j); rwa [List.length_range] at this
      rw [if_pos (by omega), hB, Option.bind_some, simple_ev b2 b3 (aL_sym l) (fun v u h => by rw [b1]; exact (aL_lt hin h).2) (by omega) (by omega) (by omega), Option.bind_some, w64n (by omega)]
      cases c : simpB (aL l) (2 ^ k - 1) j
      · rw [if_neg (by decide)]
        refine cs_L1 h8 hin g (j+1) o (by omega) (by omega) ?_
        rw [ho, List.range_succ, List.filter_append, List.filter_cons, c]; simp
      · rw [if_pos rfl]
        unfold app
        rw [if_pos (by omega), Option.bind_some]
        refine cs_L1 h8 hin g (j+1) _ (by omega) (by omega) ?_
        rw [ho, List.range_succ, List.filter_append, List.filter_cons, c]
        unfold rowN; rw [List.map_append]; rfl
    · have : j = k := by omega
      subst this
      rw [if_neg (by omega), ho]; rfl
theorem csimple_ev {k : Nat} {l : List (Int × Int)} (h1 : 1 ≤ k) (h8 : k ≤ 8) (h24 : l.length ≤ 24) (hin : InL k l) (hne : ∀ p ∈ l, p.1 ≠ p.2) : chordal_Simple 300 (k : Int) l = some (rowN (simps (aL l) k), 0) := by
  have hg : good (k : Int) l := ⟨wf8 h8, by unfold maxLen; omega⟩
  have he := errG_ok h1 h8 h24 hin hne
  unfold chordal_Simple
  rw [mCheck_ev hg, he, Option.bind_some, if_neg (by decide), mBeside_ev hg he, Option.bind_some, show chordal_Simple_L1 300 (k : Int) (besM k l) 300 0 [] = _ from cs_L1 h8 hin 300 0 [] (by omega) (by omega) rfl]; rfl
theorem csimple_bad {n : Int} {l : List (Int × Int)} (hg : good n l) (he : errG n l ≠ 0) : chordal_Simple 300 n l = some ([], errG n l) := by
  unfold chordal_Simple
  rw [mCheck_ev hg, Option.bind_some, if_pos (bne_iff_ne.2 he)]
end Go.Proofs.YtcbalejnkhnppaaDoor
