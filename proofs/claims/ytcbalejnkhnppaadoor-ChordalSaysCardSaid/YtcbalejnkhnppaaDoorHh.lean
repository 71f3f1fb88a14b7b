import Derived.Test.YtcbalejnkhnppaaDoorHg
import Derived.Test.YtcbalejnkhnppaaDoorHs
/- plain: ChordalSays holds -/
set_option linter.all false
set_option maxRecDepth 100000
namespace Go.Proofs.YtcbalejnkhnppaaDoor
open Go.RowKit Go.Shelf Pl
theorem hs_L1 {k : Nat} (h8 : k ≤ 8) : ∀ (g j : Nat) (o : List Int), k < j + g → j ≤ k → o = rowN (List.range j) → ∃ x, L3_ChordalSays_L1 300 (k : Int) 0 g o (j : Int) = some (rowN (List.range k), x)
  | 0, j, o, h, hj, ho => by omega
  | g+1, j, o, h, hj, ho => by
    rw [L3_ChordalSays_L1_s]
    by_cases hlt : j < k
    · have hol : o.length = j := by rw [ho]; unfold rowN; rw [List.length_map, List.length_range]
      rw [if_pos (by omega), if_pos (by decide), Option.bind_some, if_pos rfl, w64n (by omega)]
      unfold app
      rw [if_pos (by omega), Option.bind_some]
      refine hs_L1 h8 g (j+1) _ (by omega) (by omega) ?_
      rw [ho, List.range_succ]; unfold rowN; rw [List.map_append]; rfl
    · have : j = k := by omega
      subst this
      rw [if_neg (by omega), Option.bind_some, if_neg (by decide)]
      exact ⟨_, by rw [ho]⟩
theorem hs_L2 {l : List (Int × Int)} (hl : l.length ≤ 24) {k : Nat} (h8 : k ≤ 8) : ∀ (g j : Nat) (o : List Int), k < j + g → j ≤ k → o = rowN ((List.range j).filter (simpB (aL l) (2 ^ k - 1))) →
    ∃ x, L3_ChordalSays_L2 300 (k : Int) l 0 (rowN (List.range k)) g o (j : Int) = some (rowN (simps (aL l) k), x)
  | 0, j, o, h, hj, ho => by omega
  | g+1, j, o, h, hj, ho => by
    rw [L3_ChordalSays_L2_s]
    by_cases hlt : j < k
    · have hpos := Nat.two_pow_pos k
      have hp := Nat.pow_le_pow_right (n := 2) (by omega) h8
      have hol : o.length ≤ j := by
        rw [ho]; unfold rowN; rw [List.length_map]; have := List.length_filter_le (simpB (aL l) (2 ^ k - 1)) (List.range j); rwa [List.length_range] at this
      have e := s3_ev hl (k : Int) j (S := 2 ^ k - 1) (by omega)
      rw [memb_full (by omega)] at e
      rw [if_pos (by omega), if_pos (by decide), Option.bind_some, if_pos rfl, w64n (by omega), e, Option.bind_some]
      cases c : simpB (aL l) (2 ^ k - 1) j
      · rw [if_neg (by decide)]
        refine hs_L2 hl h8 g (j+1) o (by omega) (by omega) ?_
        rw [ho, List.range_succ, List.filter_append, List.filter_cons, c]; simp
      · rw [if_pos rfl]
        unfold app
        rw [if_pos (by omega), Option.bind_some]
        refine hs_L2 hl h8 g (j+1) _ (by omega) (by omega) ?_
        rw [ho, List.range_succ, List.filter_append, List.filter_cons, c]
        unfold rowN; rw [List.map_append]; rfl
    · have : j = k := by omega
      subst this
      rw [if_neg (by omega), Option.bind_some, if_neg (by decide)]
      exact ⟨_, by rw [ho]; rfl⟩
theorem mErr_self (c : Int) : mErr c c = some true := by unfold mErr; rw [decide_eq_true rfl]
theorem peelG_len (a : Nat → Nat → Bool) : ∀ (g : Nat) (os : List Nat) (left : Nat) (r : List Nat), peelG a g os left = some r → r.length ≤ os.length + g
  | 0, os, left, r, h => by
    unfold peelG at h
    obtain rfl := Option.some.inj h
    exact Nat.le_refl _
  | g+1, os, left, r, h => by
    unfold peelG at h
    split at h
    · obtain rfl := Option.some.inj h; omega
    · split at h
      · cases h
      · have := peelG_len a g _ _ r h
        rw [List.length_append, List.length_singleton] at this; omega
theorem simps_len (a : Nat → Nat → Bool) (k : Nat) : (simps a k).length ≤ k := by
  unfold simps; have := List.length_filter_le (simpB a (2 ^ k - 1)) (List.range k); rwa [List.length_range] at this
theorem ints_self {l : List Int} (h : l.length < 1000) : ∃ F, SE_Ints F l l = some true := ⟨1001, by rw [SE_Ints_ev (by omega) (by omega), decide_eq_true rfl]⟩
theorem peelG_size {k : Nat} {l : List (Int × Int)} (h1 : 1 ≤ k) (h8 : k ≤ 8) (h24 : l.length ≤ 24) {os : List Nat} (h : peelG (aL l) 300 [] (2 ^ k - 1) = some os) : os.length < 300 := by
  have hpos := Nat.two_pow_pos k
  have key : ∀ (g : Nat) (os : List Nat) (left : Nat) (r : List Nat), left < 65536 → os.length + (memb left).length ≤ 16 → peelG (aL l) g os left = some r → r.length ≤ 16 := by
    intro g
    induction g with
    | zero =>
      intro os left r _ h2 h3
      unfold peelG at h3
      obtain rfl := Option.some.inj h3; omega
    | succ g ih =>
      intro os left r h1 h2 h3
      unfold peelG at h3
      split at h3
      · obtain rfl := Option.some.inj h3; omega
      · split at h3
        · cases h3
        · rename_i v hf
          have hvm : v ∈ memb left := List.mem_of_find?_eq_some hf
          have := memb_less hvm
          exact ih _ _ r (Nat.lt_of_le_of_lt (ndiff_le _ _) h1) (by rw [List.length_append, List.length_singleton]; omega) h3
  have hp := Nat.pow_le_pow_right (n := 2) (by omega) h8
  have := key 300 [] (2 ^ k - 1) os (by omega) (by rw [memb_full (by omega), List.length_range]; simp; omega) h
  omega
theorem chsays_ev {n : Int} {l : List (Int × Int)} (hg : good n l) : L3_ChordalSays 300 n l = some true := by
  unfold L3_ChordalSays
  rw [R1_Lines_big (by omega), Option.bind_some]
  by_cases he : errG n l = 0
  · obtain ⟨k, rfl, h1, h8, h24, hin, hne⟩ := errG_zero he
    obtain ⟨x, hx⟩ := hs_L1 h8 300 0 [] (by omega) (by omega) rfl
    obtain ⟨y, hy⟩ := hs_L2 h24 h8 300 0 [] (by omega) (by omega) rfl
    have hsl := simps_len (aL l) k
    have hs2 : (rowN (simps (aL l) k)).length ≤ k := by unfold rowN; rw [List.length_map]; exact hsl
    rw [he, show L3_ChordalSays_L1 300 (k : Int) 0 300 [] 0 = _ from hx, Option.bind_some]
    dsimp only
    rw [show L3_ChordalSays_L2 300 (k : Int) l 0 (rowN (List.range k)) 300 [] 0 = _ from hy, Option.bind_some, csimple_ev h1 h8 h24 hin hne, Option.bind_some]
    dsimp only
    rw [mErr_self, Option.bind_some, if_pos rfl, SE_Ints_ev (by omega) (by omega), decide_eq_true rfl, Option.bind_some, if_pos rfl, Option.bind_some, if_pos (by decide), Option.bind_some, if_pos rfl, peel3_ev h1 h8 h24, Option.bind_some]
    rcases peel_ev h1 h8 h24 hin hne with ⟨os, q1, q2⟩ | ⟨q1, q2⟩
    · have hol := peelG_size h1 h8 h24 q1
      have hrl : (rowN os).length = os.length := by unfold rowN; rw [List.length_map]
      rw [q1]
      dsimp only
      rw [if_pos rfl, Option.bind_some, q2, Option.bind_some]
      dsimp only
      rw [if_pos rfl, mErr_self, Option.bind_some, if_pos rfl, Option.bind_some, if_pos rfl, SE_Ints_ev (by omega) (by omega), decide_eq_true rfl, Option.bind_some, if_pos rfl]; rfl
    · rw [q1]
      dsimp only
      rw [if_neg (by decide), Option.bind_some, q2, Option.bind_some]
      dsimp only
      rw [if_pos rfl, mErr_self, Option.bind_some, if_pos rfl, Option.bind_some, if_pos rfl, SE_Ints_ev (by simp) (by simp), decide_eq_true rfl, Option.bind_some, if_pos rfl]; rfl
  · have hne : ¬ ((errG n l == 0) = true) := by rw [beq_iff_eq]; exact he
    have hx : ∃ x, L3_ChordalSays_L1 300 n (errG n l) 300 [] 0 = some ([], x) := by
      rw [L3_ChordalSays_L1_s]
      by_cases c : 0 < n
      · rw [if_pos c, if_neg hne, Option.bind_some, if_neg (by decide)]; exact ⟨_, rfl⟩
      · rw [if_neg c, Option.bind_some, if_neg (by decide)]; exact ⟨_, rfl⟩
    have hy : ∃ x, L3_ChordalSays_L2 300 n l (errG n l) [] 300 [] 0 = some ([], x) := by
      rw [L3_ChordalSays_L2_s]
      by_cases c : 0 < n
      · rw [if_pos c, if_neg hne, Option.bind_some, if_neg (by decide)]; exact ⟨_, rfl⟩
      · rw [if_neg c, Option.bind_some, if_neg (by decide)]; exact ⟨_, rfl⟩
    obtain ⟨x, hx⟩ := hx
    obtain ⟨y, hy⟩ := hy
    rw [hx, Option.bind_some]
    dsimp only
    rw [hy, Option.bind_some, csimple_bad hg he, Option.bind_some]
    dsimp only
    rw [mErr_self, Option.bind_some, if_pos rfl, SE_Ints_ev (by simp) (by simp), decide_eq_true rfl, Option.bind_some, if_pos rfl, Option.bind_some, if_neg hne, Option.bind_some, if_neg (by decide), Option.bind_some, peel_bad hg he, Option.bind_some]
    dsimp only
    rw [if_pos rfl, mErr_self, Option.bind_some, if_pos rfl, Option.bind_some, if_pos rfl, SE_Ints_ev (by simp) (by simp), decide_eq_true rfl, Option.bind_some, if_pos rfl]; rfl
theorem chordalSays_any (w : World) (htc : TyCell w) (n : Int) (hn : (Lit.int .i64 n).wf = true) (A : Option Addr) (cap : Nat) (l : List (Int × Int)) (hr : ReadsL w w.heap.size A l) (hl : l.length ≤ maxLen) :
    Calls Tryd.prog 4 #[.int .i64 n, .slice A l.length cap] w fun e w' => e = .returned (.bool true) ∧ Below w.heap.size w w' :=
  L3_ChordalSays_ok w htc cap hr (chsays_ev ⟨hn, hl⟩)
end Go.Proofs.YtcbalejnkhnppaaDoor
