import Derived.Test.YtcbalejnkhnppaaDoorHi
import Derived.Test.YtcbalejnkhnppaaDoorWiE
import Derived.Test.YtcbalejnkhnppaaDoorTrEv
import Derived.Test.YtcbalejnkhnppaaDoorHl
/- plain: ChordalLess holds -/
set_option linter.all false
set_option maxRecDepth 100000
namespace Go.Proofs.YtcbalejnkhnppaaDoor
open Go.RowKit Go.Shelf Pl
theorem chordalFact_ev : L3_chordalFact 300 = some true := by decide +kernel
theorem max_ex (D : Nat → Nat) : ∀ (l : List Nat), l ≠ [] → ∃ v ∈ l, ∀ u ∈ l, D u ≤ D v
  | [], h => absurd rfl h
  | [x], _ => ⟨x, List.mem_cons_self, fun u hu => by rw [List.mem_singleton.1 hu]; exact Nat.le_refl _⟩
  | x :: y :: l, _ => by
    obtain ⟨v, hv, h⟩ := max_ex D (y :: l) (by simp)
    by_cases c : D x ≤ D v
    · exact ⟨v, List.mem_cons_of_mem _ hv, fun u hu => by
        rcases List.mem_cons.1 hu with rfl | hu
        · exact c
        · exact h u hu⟩
    · exact ⟨x, List.mem_cons_self, fun u hu => by
        rcases List.mem_cons.1 hu with rfl | hu
        · exact Nat.le_refl _
        · have := h u hu; omega⟩
theorem tree_peels {k : Nat} {l : List (Int × Int)} (G : Good k l) : Peels (aL l) k := by
  intro S hS hlt
  have h8 := G.le
  have h1 := G.pos
  have T := tr_of G
  have hp := Nat.pow_le_pow_right (n := 2) (by omega) h8
  have hm : ∀ x, x ∈ memb S ↔ S.testBit x = true := fun x => mem_memb (by omega)
  have had : ∀ u v, aL l u v = true → Ad k l u v := fun u v h => (ad_iff G.inl u v).2 (besL_iff.1 h)
  obtain ⟨v, hv, hmax⟩ := max_ex (dst k l 0) (memb S) (memb_ne (by omega) hS)
  refine ⟨v, (hm v).1 hv, fun u w hu hw h1' h2' hne => ?_⟩
  have key : ∀ u, S.testBit u = true → aL l v u = true → Ad k l u v ∧ dst k l 0 v = dst k l 0 u + 1 := fun u hu h => by
    have h3 := T.sym _ _ (had v u h)
    have h4 := hmax u ((hm u).2 hu)
    have h5 := T.diff 0 u v (by omega) h3
    have h6 := T.step 0 u v (by omega) h3
    exact ⟨h3, by omega⟩
  obtain ⟨a1, a2⟩ := key u hu h1'
  obtain ⟨b1, b2⟩ := key w hw h2'
  exact absurd (T.uniq 0 u w v (by omega) a1 b1 a2 b2) hne
theorem point_peels {k i : Nat} {l : List (Int × Int)} (h8 : k ≤ 8) (hi : i < k) (P : Peels (aL l) k) : Peels (aL (lessL (i : Int) l)) (k-1) :=
  P.emb (by omega) (upN i) (fun u hu => by unfold upN; split <;> omega) (fun u v e => by rw [← dn_up (i := i) (u := u), e, dn_up]) (fun u v _ _ => lessL_aL u v)
theorem chless_says {n : Int} {l : List (Int × Int)} (hg : good n l) (i : Int) : L3_ChordalLess 300 n l i = some true := by
  unfold L3_ChordalLess
  rw [chordalFact_ev, Option.bind_some, if_pos rfl]
  by_cases he : errG n l = 0
  · obtain ⟨k, rfl, h1, h8, h24, hin, hne⟩ := errG_zero he
    have hw : wrap64 ((k : Int) - 1) = (k : Int) - 1 := w64 (by omega) (by omega)
    rcases peel_ev h1 h8 h24 hin hne with ⟨os, q1, q2⟩ | ⟨q1, q2⟩
    · have P : Peels (aL l) k := (peels_iff h8).1 ⟨os, q1⟩
      have hb3 : (((tree_Check 300 (k : Int) l).bind fun y4 => if (y4 == 0) = true then if ((0 : Int) != 0) = true then some true else some false else some false) : Option Bool) = some false := by
        rw [tree_ev hg, Option.bind_some]
        by_cases c : (errT (k : Int) l == 0) = true
        · rw [if_pos c, if_neg (by decide)]
        · rw [if_neg c]
      rw [q2, Option.bind_some]
      dsimp only
      rw [hb3, Option.bind_some, if_neg (by decide), if_neg (by decide)]
      rcases gw_ev h1 h8 h24 hin hne i with ⟨c1, c2, c3⟩ | ⟨c1, c3⟩
      · obtain ⟨j, rfl⟩ := Int.eq_ofNat_of_zero_le c2.1
        have P' := point_peels (l := l) h8 (show j < k by omega) P
        obtain ⟨r, hr⟩ := (peels_iff (by omega)).2 P'
        have hll := lessL_len (j : Int) l
        rw [c3, Option.bind_some]
        dsimp only
        rw [if_neg (by decide), hw, show (k : Int) - 1 = ((k - 1 : Nat) : Int) by omega]
        rcases peel_ev (k := k - 1) (by omega) (by omega) (by omega) (lessL_in hin (by omega)) (lessL_ne (i := (j : Int)) hne) with ⟨os', r1, r2⟩ | ⟨r1, r2⟩
        · rw [r2, Option.bind_some]
          dsimp only
          rw [if_pos (by decide)]; rfl
        · rw [hr] at r1; cases r1
      · rw [c3, Option.bind_some]
        dsimp only
        rw [if_pos (by decide), hw, L3_in_ev]
        by_cases e : k = 1
        · rw [if_pos (by rw [beq_iff_eq]; omega)]; rfl
        · rw [if_neg (by rw [beq_iff_eq]; omega), decide_eq_false (c1.resolve_left e), Option.bind_some, if_neg (by decide)]; rfl
    · have ht : ¬ (errT (k : Int) l = 0) := fun ht => by
        obtain ⟨k', hk, G⟩ := good_of hg ht
        have : k = k' := Int.ofNat.inj hk
        subst this
        obtain ⟨r, hr⟩ := (peels_iff h8).2 (tree_peels G)
        rw [q1] at hr; cases hr
      rw [q2, Option.bind_some]
      dsimp only
      rw [tree_ev hg, Option.bind_some, if_neg (by rw [beq_iff_eq]; exact ht), Option.bind_some, if_neg (by decide), if_pos (by decide), if_pos (by decide)]; rfl
  · have ht : ¬ (errT n l = 0) := fun ht => by
      unfold errT at ht
      rw [if_pos (by simpa using he)] at ht
      exact he ht
    rw [peel_bad hg he, Option.bind_some]
    dsimp only
    rw [tree_ev hg, Option.bind_some, if_neg (by rw [beq_iff_eq]; exact ht), Option.bind_some, if_neg (by decide), if_pos (bne_iff_ne.2 he), if_pos (by decide)]; rfl
theorem chordalLess_any (w : World) (htc : TyCell w) (n : Int) (hn : (Lit.int .i64 n).wf = true) (A : Option Addr) (cap : Nat) (l : List (Int × Int)) (hr : ReadsL w w.heap.size A l) (hl : l.length ≤ maxLen) (i : Int) (_ : (Lit.int .i64 i).wf = true) :
    Calls Tryd.prog 6 #[.int .i64 n, .slice A l.length cap, .int .i64 i] w fun e w' => e = .returned (.bool true) ∧ Below w.heap.size w w' :=
  L3_ChordalLess_ok w htc cap hr (chless_says ⟨hn, hl⟩ i)
end Go.Proofs.YtcbalejnkhnppaaDoor
