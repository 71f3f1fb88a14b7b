import Derived.Test.YtcbalejnkhnppaaDoorHi
import Derived.Test.YtcbalejnkhnppaaDoorHg
import Derived.Test.YtcbalejnkhnppaaDoorHt
/- plain: ChordalTwo holds -/
set_option linter.all false
set_option maxRecDepth 100000
namespace Go.Proofs.YtcbalejnkhnppaaDoor
open Go.RowKit Go.Shelf Pl
theorem ct_fact : L3_chordalFact 300 = some true := by decide +kernel
theorem tw_L2 {l : List (Int × Int)} (hl : l.length ≤ 24) {a : Nat} (ha : a ≤ 8) : ∀ (g b : Nat) (f : Bool), a < b + g → b ≤ a → ∃ x, L3_ChordalTwo_L2 300 l (a : Int) g f (b : Int) = some (f && (List.range' b (a - b)).all (fun q => aL l a q), x)
  | 0, b, f, h, hb => by omega
  | g+1, b, f, h, hb => by
    rw [L3_ChordalTwo_L2_s]
    by_cases hlt : b < a
    · have e : List.range' b (a - b) = b :: List.range' (b+1) (a - (b+1)) := by
        rw [show a - b = (a - (b+1)) + 1 by omega, List.range'_succ]
      obtain ⟨x, hx⟩ := tw_L2 hl ha g (b+1) (f && aL l a b) (by omega) (by omega)
      have hb' : R1_Beside 300 l (a : Int) (b : Int) = some (aL l a b) := R1_Beside_ev _ _ (by omega) (by omega)
      rw [if_pos (by omega), w64n (by omega), hb', e, List.all_cons, ← Bool.and_assoc]
      refine ⟨x, ?_⟩
      cases f
      · rw [if_neg (by decide), Option.bind_some]
        exact hx
      · rw [if_pos rfl, Option.bind_some]
        rw [Bool.true_and] at hx ⊢
        cases c : aL l a b
        · rw [c] at hx; rw [if_neg (by decide), Option.bind_some]; exact hx
        · rw [c] at hx; rw [if_pos rfl, Option.bind_some]; exact hx
    · have : b = a := by omega
      subst this
      rw [if_neg (by omega), Nat.sub_self]
      exact ⟨_, by simp; rfl⟩
theorem tw_L1 {l : List (Int × Int)} (hl : l.length ≤ 24) {k : Nat} (h8 : k ≤ 8) : ∀ (g a : Nat) (f : Bool), k < a + g → a ≤ k → ∃ x, L3_ChordalTwo_L1 300 (k : Int) l g f (a : Int) = some (f && (List.range' a (k - a)).all (fun p => (List.range' 0 p).all fun q => aL l p q), x)
  | 0, a, f, h, ha => by omega
  | g+1, a, f, h, ha => by
    rw [L3_ChordalTwo_L1_s]
    by_cases hlt : a < k
    · have e : List.range' a (k - a) = a :: List.range' (a+1) (k - (a+1)) := by
        rw [show k - a = (k - (a+1)) + 1 by omega, List.range'_succ]
      obtain ⟨y, hy⟩ := tw_L2 hl (show a ≤ 8 by omega) 300 0 f (by omega) (by omega)
      obtain ⟨x, hx⟩ := tw_L1 hl h8 g (a+1) (f && (List.range' 0 a).all fun q => aL l a q) (by omega) (by omega)
      rw [if_pos (by omega), show L3_ChordalTwo_L2 300 l (a : Int) 300 f 0 = _ from hy, Option.bind_some, w64n (by omega), e, List.all_cons, ← Bool.and_assoc]
      exact ⟨x, hx⟩
    · have : a = k := by omega
      subst this
      rw [if_neg (by omega), Nat.sub_self]
      exact ⟨_, by simp; rfl⟩
theorem tw_L4 {l : List (Int × Int)} (hl : l.length ≤ 24) {m : List Nat} (hm : m.length ≤ 16) {i : Nat} (hi : i < m.length) : ∀ (g j : Nat), i < j + g → j ≤ i →
    L3_ChordalTwo_L4 300 l (rowN m) (i : Int) g (j : Int) = some (.inr true) ∨ ((∃ x, L3_ChordalTwo_L4 300 l (rowN m) (i : Int) g (j : Int) = some (.inl x)) ∧ ∀ q, j ≤ q → q < i → aL l (m.getD i 0) (m.getD q 0) = true)
  | 0, j, h, hj => by omega
  | g+1, j, h, hj => by
    rw [L3_ChordalTwo_L4_s]
    by_cases hlt : j < i
    · have i1 : ix (rowN m) (i : Int) = some ((m.getD i 0 : Nat) : Int) := ix_map hi
      have i2 : ix (rowN m) (j : Int) = some ((m.getD j 0 : Nat) : Int) := ix_map (by omega)
      have hb : R1_Beside 300 l ((m.getD i 0 : Nat) : Int) ((m.getD j 0 : Nat) : Int) = some (aL l (m.getD i 0) (m.getD j 0)) := R1_Beside_ev _ _ (by omega) (by omega)
      rw [if_pos (by omega), i1, i2, Option.bind_some, Option.bind_some, hb, Option.bind_some, w64n (by omega)]
      cases c : aL l (m.getD i 0) (m.getD j 0)
      · exact .inl rfl
      · rw [if_pos rfl]
        rcases tw_L4 hl hm hi g (j+1) (by omega) (by omega) with q | ⟨q, r⟩
        · exact .inl q
        · refine .inr ⟨q, fun z h1 h2 => ?_⟩
          by_cases e : z = j
          · subst e; exact c
          · exact r z (by omega) h2
    · rw [if_neg (by omega)]
      exact .inr ⟨⟨_, rfl⟩, fun z h1 h2 => by omega⟩
theorem tw_L3 {l : List (Int × Int)} (hl : l.length ≤ 24) {m : List Nat} (hm : m.length ≤ 16) : ∀ (g i : Nat), m.length < i + g → i ≤ m.length →
    L3_ChordalTwo_L3 300 l (rowN m) g (i : Int) = some (.inr true) ∨ ((∃ x, L3_ChordalTwo_L3 300 l (rowN m) g (i : Int) = some (.inl x)) ∧ ∀ p, i ≤ p → p < m.length → ∀ q, q < p → aL l (m.getD p 0) (m.getD q 0) = true)
  | 0, i, h, hi => by omega
  | g+1, i, h, hi => by
    have hlen : (rowN m).length = m.length := by unfold rowN; rw [List.length_map]
    rw [L3_ChordalTwo_L3_s, hlen]
    by_cases hlt : i < m.length
    · rw [if_pos (by omega), w64n (by omega)]
      rcases tw_L4 hl hm hlt 300 0 (by omega) (by omega) with q | ⟨⟨x, q⟩, r⟩
      · rw [show L3_ChordalTwo_L4 300 l (rowN m) (i : Int) 300 0 = _ from q]
        exact .inl rfl
      · rw [show L3_ChordalTwo_L4 300 l (rowN m) (i : Int) 300 0 = _ from q, Option.bind_some]
        dsimp only
        rcases tw_L3 hl hm g (i+1) (by omega) (by omega) with q | ⟨q, s⟩
        · exact .inl q
        · refine .inr ⟨q, fun p h1 h2 z hz => ?_⟩
          by_cases e : p = i
          · subst e; exact r z (Nat.zero_le _) hz
          · exact s p (by omega) h2 z hz
    · rw [if_neg (by omega)]
      exact .inr ⟨⟨_, rfl⟩, fun p h1 h2 => by omega⟩
theorem chtwo_says {n : Int} {l : List (Int × Int)} (hg : good n l) : L3_ChordalTwo 300 n l = some true := by
  unfold L3_ChordalTwo
  rw [ct_fact, Option.bind_some, if_pos rfl]
  by_cases he : errG n l = 0
  · obtain ⟨k, rfl, h1, h8, h24, hin, hne⟩ := errG_zero he
    have hpos := Nat.two_pow_pos k
    have hp := Nat.pow_le_pow_right (n := 2) (by omega) h8
    rw [csimple_ev h1 h8 h24 hin hne, Option.bind_some]
    rcases peel_ev h1 h8 h24 hin hne with ⟨os, q1, q2⟩ | ⟨q1, q2⟩
    · have P : Peels (aL l) k := (peels_iff h8).1 ⟨os, q1⟩
      have hfb : ∀ u, (2 ^ k - 1).testBit u = true ↔ u < k := fun u => by rw [Nat.testBit_two_pow_sub_one, decide_eq_true_eq]
      have hms : ∀ v, v ∈ simps (aL l) k ↔ v < k ∧ Simp (aL l) (2 ^ k - 1) v := fun v => by
        unfold simps
        rw [List.mem_filter, List.mem_range, simpB_iff (by omega)]; rfl
      have hsl : (simps (aL l) k).length ≤ k := by
        unfold simps; have := List.length_filter_le (simpB (aL l) (2 ^ k - 1)) (List.range k); rwa [List.length_range] at this
      have hrl : (rowN (simps (aL l) k)).length = (simps (aL l) k).length := by unfold rowN; rw [List.length_map]
      obtain ⟨x, hx⟩ := tw_L1 (l := l) h24 h8 300 0 true (by omega) (by omega)
      rw [q2, Option.bind_some]
      dsimp only
      rw [if_neg (by decide), if_neg (by decide), Option.bind_some, if_neg (by decide), R1_Lines_big (by omega), he, Option.bind_some, if_neg (by decide), show L3_ChordalTwo_L1 300 (k : Int) l 300 true 0 = _ from hx, Option.bind_some]
      rcases tw_L3 (l := l) h24 (m := simps (aL l) k) (by omega) 300 0 (by omega) (by omega) with q | ⟨⟨y, q⟩, r⟩
      · rw [show L3_ChordalTwo_L3 300 l (rowN (simps (aL l) k)) 300 0 = _ from q]; rfl
      · rw [show L3_ChordalTwo_L3 300 l (rowN (simps (aL l) k)) 300 0 = _ from q, Option.bind_some]
        dsimp only
        have hcomp : ∀ u w, u < k → w < k → u ≠ w → aL l u w = true := by
          rcases dirac (aL_sym l) h8 P 300 (2 ^ k - 1) (by rw [memb_full (by omega), List.length_range]; omega) (by omega) with hc | ⟨a, b, ha, hb, hab, hadj, sa, sb⟩
          · exact fun u w hu hw hne => hc u w ((hfb u).2 hu) ((hfb w).2 hw) hne
          · exfalso
            obtain ⟨p, hp1, ep⟩ := List.getElem_of_mem ((hms a).2 ⟨(hfb a).1 ha, sa⟩)
            obtain ⟨z, hz1, ez⟩ := List.getElem_of_mem ((hms b).2 ⟨(hfb b).1 hb, sb⟩)
            have ep' : (simps (aL l) k).getD p 0 = a := by rw [← ep]; simp [List.getD, hp1]
            have ez' : (simps (aL l) k).getD z 0 = b := by rw [← ez]; simp [List.getD, hz1]
            have hpz : p ≠ z := fun e => by subst e; exact hab (by rw [← ep', ← ez'])
            rcases Nat.lt_or_gt_of_ne hpz with c | c
            · have := r z (Nat.zero_le _) hz1 p c
              rw [ep', ez', aL_sym, hadj] at this; cases this
            · have := r p (Nat.zero_le _) hp1 z c
              rw [ep', ez', hadj] at this; cases this
        have hall : (List.range' 0 (k - 0)).all (fun p => (List.range' 0 p).all fun q => aL l p q) = true := by
          rw [List.all_eq_true]
          intro p hp
          rw [List.all_eq_true]
          intro q hq
          have h1 := List.mem_range'_1.1 hp
          have h2 := List.mem_range'_1.1 hq
          exact hcomp p q (by omega) (by omega) (by omega)
        have hlen : (simps (aL l) k).length = k := by
          have : simps (aL l) k = List.range k := by
            unfold simps
            rw [List.filter_eq_self]
            intro v hv
            rw [simpB_iff (by omega)]
            exact fun u w hu hw _ _ hne => hcomp u w ((hfb u).1 hu) ((hfb w).1 hw) hne
          rw [this, List.length_range]
        rw [hall, Bool.true_and, if_pos rfl, hrl, hlen, if_pos (by simp)]; rfl
    · rw [q2, Option.bind_some]
      dsimp only
      rw [if_neg (by decide), if_pos (by decide), Option.bind_some, if_pos rfl]; rfl
  · rw [csimple_bad hg he, Option.bind_some, peel_bad hg he, Option.bind_some]
    dsimp only
    rw [if_pos (bne_iff_ne.2 he), Option.bind_some, if_pos rfl, if_pos (bne_iff_ne.2 he)]; rfl
theorem chordalTwo_any (w : World) (htc : TyCell w) (n : Int) (hn : (Lit.int .i64 n).wf = true) (A : Option Addr) (cap : Nat) (l : List (Int × Int)) (hr : ReadsL w w.heap.size A l) (hl : l.length ≤ maxLen) :
    Calls Tryd.prog 5 #[.int .i64 n, .slice A l.length cap] w fun e w' => e = .returned (.bool true) ∧ Below w.heap.size w w' :=
  L3_ChordalTwo_ok w htc cap hr (chtwo_says ⟨hn, hl⟩)
end Go.Proofs.YtcbalejnkhnppaaDoor
