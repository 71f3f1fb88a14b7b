import Derived.Test.YtoiidngnlhhanaaPl
import Derived.Test.YtoiidngnlhhanaaW1
/- TopPeeled -/
set_option linter.all false
set_option maxRecDepth 100000
namespace Go.Proofs.Ytoiidngnlhhanaa
open Go.RowKit Go.Shelf
open Pl hiding adj nodup_len_le maskOf maskOf_bit maskOf_lt memb_less
theorem peel1_ev : chordal_Peel 300 1 [] = some ([0], 0) := by decide +kernel
theorem peeled_ev {n : Int} {l : List (Int × Int)} (hg : good n l) : LT_TopPeeled 300 n l = some true := by
  unfold LT_TopPeeled
  have h0 : SE_Ints 300 [0] [0] = some true := by rw [SE_Ints_ev (by simp) (by simp), decide_eq_true rfl]
  by_cases he : errG n l = 0
  · obtain ⟨k, rfl, h1, h8, h24, hin, hne⟩ := errG_zero he
    have hp := Nat.pow_le_pow_right (n := 2) (by omega) h8
    rcases peel_ev h1 h8 h24 hin hne with ⟨os, p1, p2⟩ | ⟨_, p2⟩
    · obtain ⟨t, t1, t2, t3, t4⟩ := peelG_peo 300 [] (2 ^ k - 1) os (by omega) (by
        have := memb_full (k := k) (by omega)
        rw [this, List.length_range]; omega) p1
      rw [List.nil_append] at t1
      subst t1
      have hok : ∀ x ∈ os, x < k := fun x hx => by
        have := (t3 x).1 hx
        rw [Nat.testBit_two_pow_sub_one] at this; exact of_decide_eq_true this
      have hall : ∀ x, x < k → x ∈ os := fun x hx => (t3 x).2 (by rw [Nat.testBit_two_pow_sub_one]; exact decide_eq_true hx)
      have hol : os.length = k := by
        have a1 := nodup_len_le (l := os) (l' := List.range k) t2 (fun x hx => List.mem_range.2 (hok x hx))
        have a2 := nodup_len_le (l := List.range k) (l' := os) List.nodup_range (fun x hx => hall x (List.mem_range.1 hx))
        rw [List.length_range] at a1 a2; omega
      have hrl : os.reverse.length = k := by rw [List.length_reverse]; exact hol
      have hro : ∀ x ∈ os.reverse, x < k := fun x hx => hok x (List.mem_reverse.1 hx)
      have hrn : os.reverse.Nodup := (List.reverse_perm os).nodup_iff.2 t2
      rcases by_ev h1 h8 h24 hin hne (rowN os.reverse) with ⟨os', e1, e2, e3, e4, out, b1, G⟩ | ⟨e, _, _, hbad⟩
      · have hos : os' = os.reverse := by
          have := e1
          unfold rowN at this
          have hinj : ∀ (a b : List Nat), (a.map fun (x : Nat) => (x : Int)) = (b.map fun (x : Nat) => (x : Int)) → a = b := by
            intro a
            induction a with
            | nil => intro b h; cases b with
              | nil => rfl
              | cons y b => simp at h
            | cons x a ih => intro b h; cases b with
              | nil => simp at h
              | cons y b =>
                rw [List.map_cons, List.map_cons] at h
                injection h with h1 h2
                rw [ih b h2, show x = y by omega]
          exact (hinj _ _ this).symm
        subst hos
        have hP := painted (aL_sym l) (fun u v h => (aL_lt hin h).2) hrl hro hrn G
        obtain ⟨cs, c1, c2, c3⟩ := nats_of hP.len (fun v hv => by obtain ⟨c, h, _⟩ := hP.col v hv; exact ⟨c, h⟩)
        obtain ⟨M, m1, m2, m3⟩ := most_ev (xs := cs) (by omega) (by omega)
        obtain ⟨g1, T, g2, g3, g4⟩ := greedy_peo (aL_sym l) h1 h8 hol hok t2 t4 (fun u v h => (aL_lt hin h).2) G (M := M) (fun v hv => ⟨cs.getD v 0, c3 v hv, m3 v (by omega)⟩) (by
          obtain ⟨i, hi, e⟩ := List.getElem_of_mem m2
          refine ⟨i, by omega, ?_⟩
          rw [c3 i (by omega), ← e]; simp [List.getD, hi])
        have hadj : ∀ i j, Pl.adj (besM k l) i j = aL l i j := fun i j => adj_besL hin i j
        have hW : mostOf (cliquesM k l) = M + 1 := by
          refine most_is (besM_sym hin) (besM_ne hin hne) h8 (fun T => ∀ u v, T.testBit u = true → T.testBit v = true → u ≠ v → aL l u v = true) (fun T hT => ?_) g1 (.inr ⟨T, g2, g3, g4⟩)
          constructor
          · intro h u v hu hv hne'; rw [hadj]; exact h u v hu hv hne'
          · intro h u v hu hv hne'; rw [← hadj]; exact h u v hu hv hne'
        have hM : mostM (k : Int) l = ((M + 1 : Nat) : Int) := by unfold mostM; rw [if_pos he, Int.toNat_natCast, hW]
        have hmm : mMost (k : Int) l = some (((M + 1 : Nat) : Int), 0) := by unfold mMost; rw [if_pos hg, hM, he]
        have hMk : M < k := by
          have := (hP.col 0 (by omega))
          obtain ⟨i, hi, e⟩ := List.getElem_of_mem m2
          obtain ⟨c, h2, h3, _⟩ := hP.col i (by omega)
          rw [c3 i (by omega)] at h2
          have : cs.getD i 0 = M := by rw [← e]; simp [List.getD, hi]
          omega
        have hw : wrap64 ((M : Int) + 1) = ((M + 1 : Nat) : Int) := w64n (by omega)
        have hol2 : (out.length : Int) = (k : Int) := by rw [hP.len]
        rw [p2, Option.bind_some, peel1_ev, Option.bind_some]
        dsimp only
        rw [if_neg (by decide), h0, Option.bind_some, if_pos rfl, Option.bind_some, if_neg (by decide), if_neg (by decide), turned_ev (by omega), Option.bind_some, b1, Option.bind_some, hmm, Option.bind_some]
        dsimp only
        rw [if_pos (by decide), if_pos (by decide), Option.bind_some, if_pos rfl, hol2, if_pos (by rw [beq_iff_eq]), Option.bind_some, if_pos rfl, c1, m1, Option.bind_some, hw, if_pos (by rw [beq_iff_eq])]; rfl
      · exfalso
        have hlen : (rowN os.reverse).length = k := by rw [rowN_len]; exact hrl
        have hal : allIn (rowN os.reverse) 0 ((k : Int) - 1) = true := by
          unfold allIn
          rw [List.all_eq_true]
          intro x hx
          obtain ⟨y, hy, rfl⟩ := List.mem_map.1 hx
          have := hro y hy
          simp; omega
        have hnd : (rowN os.reverse).Nodup := by
          unfold rowN
          rw [List.Nodup, List.pairwise_map]
          exact hrn.imp fun hab e => hab (by omega)
        rcases hbad with ⟨h, _⟩ | ⟨_, h, _⟩ | ⟨_, _, h, _⟩
        · exact h hlen
        · rw [hal] at h; cases h
        · exact h hnd
    · rw [p2, Option.bind_some, peel1_ev, Option.bind_some]
      dsimp only
      rw [if_neg (by decide), h0, Option.bind_some, if_pos rfl, Option.bind_some, if_neg (by decide), if_pos (by decide)]; rfl
  · rw [peel_bad hg he, Option.bind_some, peel1_ev, Option.bind_some]
    dsimp only
    rw [if_neg (by decide), h0, Option.bind_some, if_pos rfl, Option.bind_some, if_neg (by decide), if_pos (by rw [bne_iff_ne]; exact he)]; rfl
theorem topPeeled_any (w : World) (n : Int) (hn : (Lit.int .i64 n).wf = true) (A : Option Addr) (cap : Nat) (l : List (Int × Int)) (hr : ReadsL w w.heap.size A l) (hl : l.length ≤ maxLen) :
    Calls Try.prog 3 #[.int .i64 n, .slice A l.length cap] w fun e w' => e = .returned (.bool true) ∧ Below w.heap.size w w' :=
  LT_TopPeeled_ok w cap hr (peeled_ev ⟨hn, hl⟩)
end Go.Proofs.Ytoiidngnlhhanaa
