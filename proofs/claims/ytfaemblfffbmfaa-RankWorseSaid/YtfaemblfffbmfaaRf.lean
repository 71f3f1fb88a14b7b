import Derived.Test.YtfaemblfffbmfaaRe
import Derived.Test.YtfaemblfffbmfaaRw
/- RankWorse -/
set_option linter.all false
set_option maxRecDepth 100000
namespace Go.Proofs.Ytfaemblfffbmfaa
open Go.RowKit Pl
section
variable {m : Nat → Bool}
/-- 7 for what is in a, 6 for what else is in b -/
def wAB (a b i : Nat) : Int := if a.testBit i = true then 7 else if b.testBit i = true then 6 else 0
theorem sum_const (c : Int) (f : Nat → Int) : ∀ l : List Nat, (∀ i ∈ l, f i = c) → sumL f l = c * (l.length : Int)
  | [], _ => by simp [sumL]
  | i :: l, h => by
    have h1 := h i List.mem_cons_self
    have h2 := sum_const c f l fun j hj => h j (List.mem_cons_of_mem _ hj)
    simp only [sumL, List.length_cons, h1, h2]
    rw [Int.natCast_add, Int.mul_add]; simp; omega
theorem sum_split (f : Nat → Int) (p : Nat → Bool) : ∀ l : List Nat, sumL f l = sumL f (l.filter p) + sumL f (l.filter fun i => !p i)
  | [] => rfl
  | i :: l => by
    have := sum_split f p l
    cases e : p i
    · rw [List.filter_cons_of_neg (by simp [e]), List.filter_cons_of_pos (by simp [e])]; simp only [sumL]; omega
    · rw [List.filter_cons_of_pos e, List.filter_cons_of_neg (by simp [e])]; simp only [sumL]; omega
theorem len_split (p : Nat → Bool) (l : List Nat) : l.length = (l.filter p).length + (l.filter fun i => !p i).length := by
  induction l with
  | nil => rfl
  | cons i l ih =>
    cases e : p i
    · rw [List.filter_cons_of_neg (by simp [e]), List.filter_cons_of_pos (by simp [e]), List.length_cons, List.length_cons]; omega
    · rw [List.filter_cons_of_pos e, List.filter_cons_of_neg (by simp [e]), List.length_cons, List.length_cons]; omega
/-- what lies ahead in the order is taken, if it may be had with all that comes -/
theorem G_takes (hd : Down m) : ∀ (o o' : List Nat) (h a : Nat), (∀ i, h.testBit i = true → a.testBit i = true) → (∀ i ∈ o, a.testBit i = true) → m a = true → ∀ i ∈ o, (G m (o ++ o') h).testBit i = true
  | j :: o, o', h, a, h1, h2, hm, i, hi => by
    have hj := h2 j List.mem_cons_self
    have hs : m (h ||| 2 ^ j) = true := hd a _ (fun x hx => by
      rcases (or_bit h j x).1 hx with q | q
      · exact h1 x q
      · rw [q]; exact hj) hm
    have e : gr m h j = h ||| 2 ^ j := by unfold gr; rw [if_pos hs]
    show (G m (o ++ o') (gr m h j)).testBit i = true
    rw [e]
    rcases List.mem_cons.1 hi with rfl | hi
    · exact G_sub _ _ _ ((or_bit h i i).2 (.inr rfl))
    · exact G_takes hd o o' _ a (fun x hx => by
        rcases (or_bit h j x).1 hx with q | q
        · exact h1 x q
        · rw [q]; exact hj) (fun x hx => h2 x (List.mem_cons_of_mem _ hx)) hm i hi
/-- where it is not fair the worthiest first is worse -/
theorem worse {k : Nat} (hk : k ≤ 6) (hd : Down m) (h0 : m 0 = true) {a b : Nat} (ha : a < 2 ^ k) (hb : b < 2 ^ k) (hbad : Bad m a b) {ord : List Nat} (hn : ord.Nodup) (hord : ∀ x, x ∈ ord ↔ x < k) (hp : ord.Pairwise fun x y => wAB a b y ≤ wAB a b x) :
    sumL (wAB a b) (memb (G m ord 0)) < sumL (wAB a b) (memb b) := by
  obtain ⟨b1, b2, b3, b4⟩ := hbad
  have hpw := Nat.pow_le_pow_right (n := 2) (by omega) hk
  have hG : G m ord 0 < 2 ^ k := lt_bits fun j hj => by
    rcases G_from _ _ _ hj with q | q
    · rw [Nat.zero_testBit] at q; cases q
    · exact (hord j).1 q
  -- all of a is taken
  have hA : ∀ i, a.testBit i = true → (G m ord 0).testBit i = true := by
    have hmem : ∀ i, a.testBit i = true → i ∈ ord := fun i hi => (hord i).2 (bits_lt ha hi)
    -- the order begins with a
    have key : ∀ (o : List Nat), o.Pairwise (fun x y => wAB a b y ≤ wAB a b x) → ∃ o1 o2, o = o1 ++ o2 ∧ (∀ i ∈ o1, a.testBit i = true) ∧ ∀ i ∈ o2, a.testBit i = false := by
      intro o
      induction o with
      | nil => intro _; exact ⟨[], [], rfl, (fun i h => by cases h), (fun i h => by cases h)⟩
      | cons x o ih =>
        intro hp
        obtain ⟨p1, p2⟩ := List.pairwise_cons.1 hp
        cases e : a.testBit x
        · refine ⟨[], x :: o, rfl, (fun i h => by cases h), fun i hi => ?_⟩
          rcases List.mem_cons.1 hi with rfl | hi
          · exact e
          · have := p1 i hi
            cases e2 : a.testBit i
            · rfl
            · unfold wAB at this
              rw [if_pos e2, if_neg (by rw [e]; decide)] at this
              split at this <;> omega
        · obtain ⟨o1, o2, rfl, q1, q2⟩ := ih p2
          exact ⟨x :: o1, o2, rfl, fun i hi => by
            rcases List.mem_cons.1 hi with rfl | hi
            · exact e
            · exact q1 i hi, q2⟩
    obtain ⟨o1, o2, rfl, q1, q2⟩ := key ord hp
    intro i hi
    rcases List.mem_append.1 (hmem i hi) with q | q
    · exact G_takes hd o1 o2 0 a (fun x hx => by rw [Nat.zero_testBit] at hx; cases hx) q1 b2 i q
    · have := q2 i q; rw [hi] at this; cases this
  -- nothing else of b is taken
  have hB : ∀ i, b.testBit i = true → a.testBit i = false → (G m ord 0).testBit i = false := fun i hi hni => by
    cases e : (G m ord 0).testBit i
    · rfl
    · have := hd (G m ord 0) (a ||| 2 ^ i) (fun x hx => by
        rcases (or_bit a i x).1 hx with q | q
        · exact hA x q
        · rw [q]; exact e) (G_may ord 0 h0)
      rw [b4 i hi hni] at this; cases this
  have s1 : sumL (wAB a b) (memb (G m ord 0)) = 7 * ((memb a).length : Int) := by
    rw [sum_split (wAB a b) (fun i => a.testBit i)]
    have e1 : sumL (wAB a b) ((memb (G m ord 0)).filter fun i => a.testBit i) = 7 * (((memb (G m ord 0)).filter fun i => a.testBit i).length : Int) := sum_const 7 _ _ fun i hi => by
      unfold wAB; rw [if_pos (List.mem_filter.1 hi).2]
    have e2 : sumL (wAB a b) ((memb (G m ord 0)).filter fun i => !a.testBit i) = 0 * (((memb (G m ord 0)).filter fun i => !a.testBit i).length : Int) := sum_const 0 _ _ fun i hi => by
      obtain ⟨h1, h2⟩ := List.mem_filter.1 hi
      have h1 := (mem_memb (by omega)).1 h1
      have h2 : a.testBit i = false := by simpa using h2
      unfold wAB
      rw [if_neg (by rw [h2]; decide), if_neg]
      intro h3
      have := hB i h3 h2; rw [h1] at this; cases this
    have e3 : ((memb (G m ord 0)).filter fun i => a.testBit i).length = (memb a).length := len_ext ((nd_memb _).filter _) (nd_memb _) fun x => by
      rw [List.mem_filter, mem_memb (by omega), mem_memb (by omega)]
      exact ⟨fun h => h.2, fun h => ⟨hA x h, h⟩⟩
    rw [e1, e2, e3]; omega
  have s2 : sumL (wAB a b) (memb b) = 7 * (((memb b).filter fun i => a.testBit i).length : Int) + 6 * (((memb b).filter fun i => !a.testBit i).length : Int) := by
    rw [sum_split (wAB a b) (fun i => a.testBit i)]
    have e1 : sumL (wAB a b) ((memb b).filter fun i => a.testBit i) = 7 * (((memb b).filter fun i => a.testBit i).length : Int) := sum_const 7 _ _ fun i hi => by
      unfold wAB; rw [if_pos (List.mem_filter.1 hi).2]
    have e2 : sumL (wAB a b) ((memb b).filter fun i => !a.testBit i) = 6 * (((memb b).filter fun i => !a.testBit i).length : Int) := sum_const 6 _ _ fun i hi => by
      obtain ⟨h1, h2⟩ := List.mem_filter.1 hi
      have h1 := (mem_memb (by omega)).1 h1
      have h2 : a.testBit i = false := by simpa using h2
      unfold wAB
      rw [if_neg (by rw [h2]; decide), if_pos h1]
    rw [e1, e2]
  have hsp := len_split (fun i => a.testBit i) (memb b)
  have hlb : (memb b).length ≤ 6 := by
    have := nodup_len_le' (nd_memb b) (l' := List.range k) fun x hx => List.mem_range.2 (bits_lt hb ((mem_memb (by omega)).1 hx))
    rw [List.length_range] at this; omega
  rw [s1, s2]; omega
end
section
variable {F k : Nat} {n : Int} {l : List (List Int)}
theorem members_ev {s : Nat} (hs : s < 256) : R3_Members 300 (s : Int) = some (membI s) := R3_Members_ev s hs
theorem hasI {s i : Nat} (hs : s < 256) : R1_Has 300 (membI s) (i : Int) = some (s.testBit i) := by
  have hm := mb16 s
  have hml : (membI s).length ≤ 16 := by unfold membI; rw [List.length_map]; exact hm
  rw [R1_Has_ev _ (by omega) (by omega)]
  congr 1
  rw [Bool.eq_iff_iff, decide_eq_true_eq, ← mem_memb (by omega : s < 65536)]
  unfold membI
  constructor
  · intro q; obtain ⟨x, hx, e⟩ := List.mem_map.1 q; have e : (x : Int) = (i : Int) := e; have : x = i := by omega
    rw [← this]; exact hx
  · intro q; exact List.mem_map.2 ⟨i, q, rfl⟩
theorem ww_L3 (h6 : k ≤ 6) {a b : Nat} (ha : a < 256) (hb : b < 256) : ∀ (g j : Nat), k < j + g → j ≤ k →
    ∃ x, L4_RankWorse_L3 300 (k : Int) (membI a) (membI b) g ((List.range j).map (wAB a b)) (j : Int) = some ((List.range k).map (wAB a b), x)
  | 0, j, h, hj => by omega
  | g+1, j, h, hj => by
    rw [L4_RankWorse_L3_s]
    by_cases c : j < k
    · have happ : ∀ v : Int, v = wAB a b j → app ((List.range j).map (wAB a b)) v = some ((List.range (j+1)).map (wAB a b)) := fun v hv => by
        unfold app
        rw [if_pos (by rw [List.length_map, List.length_range]; omega), List.range_succ, List.map_append, hv]; rfl
      have ih := ww_L3 h6 ha hb g (j+1) (by omega) (by omega)
      rw [if_pos (by omega), hasI hb, Option.bind_some, w64n (by omega), hasI ha, Option.bind_some, Option.bind_some]
      cases eb : b.testBit j <;> cases ea : a.testBit j
      · rw [if_neg (by decide), if_neg (by decide), happ 0 (by unfold wAB; rw [ea, eb]; rfl), Option.bind_some]; exact ih
      · rw [if_neg (by decide), if_pos rfl, happ 7 (by unfold wAB; rw [ea]; rfl), Option.bind_some]; exact ih
      · rw [if_pos rfl, if_neg (by decide), happ 6 (by unfold wAB; rw [ea, eb]; rfl), Option.bind_some]; exact ih
      · rw [if_pos rfl, if_pos rfl, happ 7 (by unfold wAB; rw [ea]; rfl), Option.bind_some]; exact ih
    · have : j = k := by omega
      subst this
      rw [if_neg (by omega)]; exact ⟨_, rfl⟩
theorem wof_AB {a b i : Nat} (hi : i < k) : wof ((List.range k).map (wAB a b)) i = wAB a b i := by
  unfold wof; simp [List.getD, hi]
theorem all_AB {a b : Nat} : allIn ((List.range k).map (wAB a b)) 0 20 = true := List.all_eq_true.2 fun x hx => by
  obtain ⟨i, _, rfl⟩ := List.mem_map.1 hx
  refine decide_eq_true ?_
  unfold wAB; split
  · omega
  · split <;> omega
theorem sum_wof {a b s : Nat} (hs : s < 2 ^ k) (hk : k ≤ 6) : sumL (wof ((List.range k).map (wAB a b))) (memb s) = sumL (wAB a b) (memb s) := by
  have hpw := Nat.pow_le_pow_right (n := 2) (by omega) hk
  have : ∀ l : List Nat, (∀ x ∈ l, x < k) → sumL (wof ((List.range k).map (wAB a b))) l = sumL (wAB a b) l := by
    intro l
    induction l with
    | nil => intro _; rfl
    | cons x l ih =>
      intro h
      have h1 := h x List.mem_cons_self
      have h2 := ih fun y hy => h y (List.mem_cons_of_mem _ hy)
      simp only [sumL, wof_AB h1, h2]
  exact this _ fun x hx => bits_lt hs ((mem_memb (by omega)).1 hx)
variable (h1 : 1 ≤ k) (h6 : k ≤ 6) (hl : Rw k l) (h24 : l.length ≤ 24) (he : errR (k : Int) l = 0)
include h1 h6 hl h24 he
theorem pair_ev {a b : Nat} (ha : a < 2 ^ k) (hb : b < 2 ^ k) : ∃ (m : List Int) (s t : Int), rank_Greedy 300 (k : Int) l ((List.range k).map (wAB a b)) = some (m, s, 0) ∧ rank_Best 300 (k : Int) l ((List.range k).map (wAB a b)) = some (t, 0) ∧ (Bad (mayB l) a b → s < t) := by
  have hw : ((List.range k).map (wAB a b)).length = k := by simp
  have hFr : ∀ r ∈ l, r.length < 300 := fun r hr => by have := row_len h6 (hl r hr); omega
  have hLr : ∀ r ∈ l, r.length ≤ 9223372036854775807 := fun r hr => by have := row_len h6 (hl r hr); omega
  have hwe : errW (k : Int) l ((List.range k).map (wAB a b)) = 0 := by
    unfold errW
    rw [if_neg (by simp [he]), hw, if_neg (by simp), if_pos all_AB]
  have hwo : rank_worth 300 (k : Int) l ((List.range k).map (wAB a b)) = some 0 := by
    rw [worth_ev hFr (by omega) hLr (by omega) (by omega), hwe]
  obtain ⟨ord, o1, o2, o3, o4, o5⟩ := greedy_ev h1 h6 hl h24 (by omega) hwo hw all_AB
  obtain ⟨t, t1, t2, t3⟩ := best_ev h6 hl h24 (by omega) hwo hw all_AB
  refine ⟨_, _, t, o4, t1, fun hbad => ?_⟩
  have := worse h6 (may_down hl) may_zero ha hb hbad o1 o2 (o3.imp_of_mem fun {x y} hx hy h => by
    rw [wof_AB ((o2 x).1 hx), wof_AB ((o2 y).1 hy)] at h; omega)
  have h2 := t2 b hb hbad.2.2.1
  rw [sum_wof hb h6] at h2
  rw [sum_wof o5 h6]; omega
theorem ww_L2 {a : Nat} (ha : a < 2 ^ k) : ∀ (g j : Nat), 2 ^ k < j + g → j ≤ 2 ^ k →
    ∃ y, L4_RankWorse_L2 300 (k : Int) l (a : Int) g (j : Int) = some y ∧ ((∃ b, j ≤ b ∧ b < 2 ^ k ∧ Bad (mayB l) a b) → y = .inr true) ∧ (y = .inr true ∨ ∃ x, y = .inl x)
  | 0, j, h, hj => by omega
  | g+1, j, h, hj => by
    have hpw := Nat.pow_le_pow_right (n := 2) (by omega) h6
    rw [L4_RankWorse_L2_s, R3_Power_ev k (by omega), Option.bind_some]
    by_cases c : j < 2 ^ k
    · have next : ¬ Bad (mayB l) a j → ∃ y, L4_RankWorse_L2 300 (k : Int) l (a : Int) g ((j+1 : Nat) : Int) = some y ∧ ((∃ b, j ≤ b ∧ b < 2 ^ k ∧ Bad (mayB l) a b) → y = .inr true) ∧ (y = .inr true ∨ ∃ x, y = .inl x) := fun hnb => by
        obtain ⟨y, y1, y2, y3⟩ := ww_L2 ha g (j+1) (by omega) (by omega)
        refine ⟨y, y1, fun ⟨b, b1, b2, b3⟩ => y2 ⟨b, ?_, b2, b3⟩, y3⟩
        by_cases e : b = j
        · subst e; exact absurd b3 hnb
        · omega
      have hma := mb16 a; have hmj := mb16 j
      have hMa : R3_May 300 l (membI a) = some (mayB l a) := mayR_ev (F := 300) (ms := memb a) h6 hl h24 (by omega) (by omega) fun i => mem_memb (by omega)
      have hMj : R3_May 300 l (membI j) = some (mayB l j) := mayR_ev (F := 300) (ms := memb j) h6 hl h24 (by omega) (by omega) fun i => mem_memb (by omega)
      have la : (membI a).length = (memb a).length := by unfold membI; rw [List.length_map]
      have lj : (membI j).length = (memb j).length := by unfold membI; rw [List.length_map]
      obtain ⟨x, hx⟩ := ww_L3 (k := k) h6 (show a < 256 by omega) (show j < 256 by omega) 300 0 (by omega) (by omega)
      obtain ⟨mm, s, t, p1, p2, p3⟩ := pair_ev h1 h6 hl h24 he ha c
      rw [if_pos (by omega), members_ev (by omega), Option.bind_some, members_ev (by omega), Option.bind_some, hMa, Option.bind_some, hMj, Option.bind_some, la, lj, w64n (by omega)]
      by_cases c1 : (memb j).length ≤ (memb a).length
      · rw [if_pos (by omega), Option.bind_some, if_pos rfl, Option.bind_some, if_pos rfl]
        exact next fun hb => by have := hb.1; omega
      · rw [if_neg (by omega)]
        cases c2 : mayB l a
        · rw [if_neg (by decide), Option.bind_some, if_pos rfl, Option.bind_some, if_pos rfl]
          exact next fun hb => by have := hb.2.1; rw [c2] at this; cases this
        · rw [if_pos rfl, Option.bind_some, if_neg (by decide)]
          cases c3 : mayB l j
          · rw [if_neg (by decide), Option.bind_some, if_pos rfl]
            exact next fun hb => by have := hb.2.2.1; rw [c3] at this; cases this
          · rw [if_pos rfl, Option.bind_some, if_neg (by decide), show L4_RankWorse_L3 300 (k : Int) (membI a) (membI j) 300 [] 0 = _ from hx, Option.bind_some]
            dsimp only
            rw [p1, Option.bind_some, p2, Option.bind_some]
            dsimp only
            rw [if_neg (by decide), if_neg (by decide), Option.bind_some, if_neg (by decide)]
            by_cases hst : s < t
            · rw [if_pos hst]
              exact ⟨_, rfl, fun _ => rfl, .inl rfl⟩
            · rw [if_neg hst]
              exact next fun hb => hst (p3 hb)
    · rw [if_neg (by omega)]
      exact ⟨_, rfl, fun ⟨b, b1, b2, _⟩ => by omega, .inr ⟨_, rfl⟩⟩
theorem ww_L1 : ∀ (g j : Nat), 2 ^ k < j + g → j ≤ 2 ^ k → (∃ a b, j ≤ a ∧ a < 2 ^ k ∧ b < 2 ^ k ∧ Bad (mayB l) a b) → L4_RankWorse_L1 300 (k : Int) l g (j : Int) = some (.inr true)
  | 0, j, h, hj, _ => by omega
  | g+1, j, h, hj, ⟨a, b, q1, q2, q3, q4⟩ => by
    have hpw := Nat.pow_le_pow_right (n := 2) (by omega) h6
    have c : j < 2 ^ k := by omega
    rw [L4_RankWorse_L1_s, R3_Power_ev k (by omega), Option.bind_some, if_pos (by omega)]
    obtain ⟨y, y1, y2, y3⟩ := ww_L2 h1 h6 hl h24 he c 300 0 (by omega) (by omega)
    rw [show L4_RankWorse_L2 300 (k : Int) l (j : Int) 300 0 = _ from y1, Option.bind_some]
    rcases y3 with rfl | ⟨x, rfl⟩
    · rfl
    · dsimp only
      rw [w64n (by omega)]
      refine ww_L1 g (j+1) (by omega) (by omega) ⟨a, b, ?_, q2, q3, q4⟩
      by_cases e : a = j
      · subst e
        have := y2 ⟨b, by omega, q3, q4⟩
        cases this
      · omega
end
theorem worse_ev {n : Int} {l : List (List Int)} (hL : ∀ r ∈ l, r.length ≤ 9223372036854775807) : ∃ F, L4_RankWorse F n l = some true := by
  by_cases h : errR n l = 0
  · refine ⟨300, ?_⟩
    obtain ⟨k, rfl, h1, h6, h24, hl⟩ := errR_zero h
    have hFr : ∀ r ∈ l, r.length < 300 := fun r hr => by have := row_len h6 (hl r hr); omega
    have hli := lists_ev (F := 300) (n := (k : Int)) hFr (by omega) hL
    rw [h] at hli
    obtain ⟨f, f1, f2⟩ := fair_ev h1 h6 hl h24 (Nat.le_refl 300) (check_zero hFr (by omega) hL h)
    unfold L4_RankWorse
    rw [fact_ev (Nat.le_refl 300), Option.bind_some, if_pos rfl, f1, Option.bind_some]
    dsimp only
    rw [if_neg (by decide)]
    cases hf : f
    · have hnf : ¬ FairP (mayB l) k := fun q => by rw [f2.2 q] at hf; cases hf
      rw [fairP_iff] at hnf
      have : ∃ a b, 0 ≤ a ∧ a < 2 ^ k ∧ b < 2 ^ k ∧ Bad (mayB l) a b := by
        apply Classical.byContradiction
        intro hno
        exact hnf fun a b ha hb hbad => hno ⟨a, b, by omega, ha, hb, hbad⟩
      have hpw := Nat.pow_le_pow_right (n := 2) (by omega) h6
      have hw := ww_L1 h1 h6 hl h24 h 300 0 (by omega) (by omega) this
      rw [if_neg (by decide), hli, Option.bind_some, if_neg (by decide), Option.bind_some, if_neg (by decide), show L4_RankWorse_L1 300 (k : Int) l 300 0 = _ from hw]; rfl
    · rw [if_pos rfl]; rfl
  · refine ⟨300 + mxL l, ?_⟩
    unfold L4_RankWorse
    rw [fact_ev (by omega), Option.bind_some, if_pos rfl, fair_bad (fun r hr => by have := mxL_lt hr; omega) (by omega) hL h, Option.bind_some]
    dsimp only
    rw [if_pos (by rw [bne_iff_ne]; exact h)]; rfl
theorem rankWorse_any (w : World) (n : Int) (hn : (Lit.int .i64 n).wf = true) (A : Option Addr) (cap : Nat) (l : List (List Int)) (hr : ReadsR w w.heap.size A l ∧ l.length ≤ maxLen ∧ ∀ r ∈ l, r.length ≤ maxLen ∧ ∀ n ∈ r, (Lit.int .i64 n).wf = true) :
    Calls Try.prog 4 #[.int .i64 n, .slice A l.length cap] w fun e w' => e = .returned (.bool true) ∧ Below w.heap.size w w' := by
  obtain ⟨F, hF⟩ := worse_ev (n := n) (l := l) fun r hr' => by have := (hr.2.2 r hr').1; unfold maxLen at this; omega
  exact L4_RankWorse_ok (F := F) w cap hr.1 hF
end Go.Proofs.Ytfaemblfffbmfaa
