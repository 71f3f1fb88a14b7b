import Derived.Test.YtgihnflaikmakaaDoorML
import Derived.Test.YtgihnflaikmakaaDoorF7
set_option linter.all false
set_option maxRecDepth 100000
namespace Go.Proofs.YtgihnflaikmakaaDoor
open Go.RowKit Pl
theorem filter_lt' {p q : Nat → Bool} : ∀ (l : List Nat), (∀ x, q x = true → p x = true) → (∃ x ∈ l, p x = true ∧ q x = false) → (l.filter q).length < (l.filter p).length
  | [], _, h => by obtain ⟨x, hx, _⟩ := h; cases hx
  | y :: l, h, hx => by
    rw [List.filter_cons, List.filter_cons]
    by_cases hy : ∃ x ∈ l, p x = true ∧ q x = false
    · have ih := filter_lt' l h hy
      by_cases h1 : q y = true
      · rw [if_pos h1, if_pos (h y h1), List.length_cons, List.length_cons]; omega
      · rw [if_neg h1]; split
        · rw [List.length_cons]; omega
        · exact ih
    · obtain ⟨x, hx, h1, h2⟩ := hx
      rcases List.mem_cons.1 hx with rfl | hx
      · rw [if_pos h1, if_neg (by rw [h2]; decide), List.length_cons]
        have := filter_len_le (p := q) (q := p) l h; omega
      · exact absurd ⟨x, hx, h1, h2⟩ hy
theorem mask_eq {S B : Nat} (hS : S < 65536) (hB : B < 65536) (hsub : ∀ i, S.testBit i = true → B.testBit i = true) (hlen : (memb B).length ≤ (memb S).length) : B = S := by
  refine Nat.eq_of_testBit_eq fun i => ?_
  cases hb : B.testBit i
  · cases hs : S.testBit i
    · rfl
    · have := hsub i hs; rw [hb] at this; cases this
  · cases hs : S.testBit i
    · exfalso
      have hi : i < 16 := by
        rcases Nat.lt_or_ge i 16 with h | h
        · exact h
        · rw [Nat.testBit_lt_two_pow (Nat.lt_of_lt_of_le hB (by have := Nat.pow_le_pow_right (n := 2) (by omega) h; omega))] at hb; cases hb
      have := filter_lt' (p := fun i => B.testBit i) (q := fun i => S.testBit i) (List.range 16) hsub ⟨i, List.mem_range.2 hi, hb, hs⟩
      unfold memb at hlen
      omega
    · rfl
def Vd (a b T : Nat) : Prop := T.testBit a = true ∧ T.testBit b = false
def Inv (l : List (Int × Int)) (a b k j : Nat) (best : Int) : Prop :=
  (best = -1 ∧ ∀ T < j, ¬ Vd a b T) ∨ ∃ B : Nat, best = (B : Int) ∧ B < 2 ^ k ∧ Vd a b B ∧
    ∀ T < j, Vd a b T → cut l (fun i => B.testBit i) < cut l (fun i => T.testBit i) ∨ (cut l (fun i => B.testBit i) = cut l (fun i => T.testBit i) ∧ (memb B).length ≤ (memb T).length)
theorem side_L1 {k a b : Nat} {l : List (Int × Int)} (hk : k ≤ 8) (ha : a < k) (hb : b < k) (hin : InL k l) (hl : l.length ≤ 24) : ∀ g j best, 2 ^ k < g + j → j ≤ 2 ^ k → Inv l a b k j best →
    ∃ r, R3_Side_L1 300 (k : Int) l (a : Int) (b : Int) g best (j : Int) = some (r, ((2 ^ k : Nat) : Int)) ∧ Inv l a b k (2 ^ k) r
  | 0, j, best, h, _, _ => by omega
  | g+1, j, best, h, hj, hI => by
    have hp := Nat.pow_le_pow_right (n := 2) (by omega) hk
    rw [R3_Side_L1_s, R3_Power_ev k hk, Option.bind_some]
    by_cases hlt : j < 2 ^ k
    · have hj256 : j < 256 := by omega
      rw [if_pos (by omega), R3_Member_ev j hj256 a (by omega), R3_Member_ev j hj256 b (by omega), w64n (by omega)]
      have ext : ∀ best, Inv l a b k j best → ¬ Vd a b j → Inv l a b k (j+1) best := by
        intro best hI hn
        rcases hI with ⟨h1, h2⟩ | ⟨B, h1, h2, h3, h4⟩
        · refine .inl ⟨h1, fun T hT => ?_⟩
          by_cases e : T = j
          · subst e; exact hn
          · exact h2 T (by omega)
        · refine .inr ⟨B, h1, h2, h3, fun T hT hv => ?_⟩
          by_cases e : T = j
          · subst e; exact absurd hv hn
          · exact h4 T (by omega) hv
      cases hja : j.testBit a
      · obtain ⟨r, q1, q2⟩ := side_L1 hk ha hb hin hl g (j+1) best (by omega) (by omega) (ext best hI (fun hv => by rw [hv.1] at hja; cases hja))
        exact ⟨r, by simpa using q1, q2⟩
      · cases hjb : j.testBit b
        · have hv : Vd a b j := ⟨hja, hjb⟩
          simp only [Option.bind_some, if_true, Bool.false_eq_true, if_false]
          rw [away_ev hin hk (by omega) hj256, R3_Members_ev j hj256]
          rcases hI with ⟨h1, h2⟩ | ⟨B, h1, h2, h3, h4⟩
          · obtain ⟨r, q1, q2⟩ := side_L1 hk ha hb hin hl g (j+1) (j : Int) (by omega) (by omega) (.inr ⟨j, rfl, hlt, hv, fun T hT hvT => by
              by_cases e : T = j
              · subst e; exact .inr ⟨rfl, Nat.le_refl _⟩
              · exact absurd hvT (h2 T (by omega))⟩)
            refine ⟨r, ?_, q2⟩
            subst h1
            simpa using q1
          · subst h1
            have hB : B < 256 := by omega
            rw [away_ev hin hk (by omega) hB, R3_Members_ev B hB]
            have n0 : ¬ ((B : Nat) : Int) < 0 := by omega
            have take : (cut l (fun i => j.testBit i) < cut l (fun i => B.testBit i) ∨ (cut l (fun i => j.testBit i) = cut l (fun i => B.testBit i) ∧ (memb j).length < (memb B).length)) → ∃ r, R3_Side_L1 300 (k : Int) l (a : Int) (b : Int) g (j : Int) ((j+1 : Nat) : Int) = some (r, ((2 ^ k : Nat) : Int)) ∧ Inv l a b k (2 ^ k) r := by
              intro hc
              refine side_L1 hk ha hb hin hl g (j+1) (j : Int) (by omega) (by omega) (.inr ⟨j, rfl, hlt, hv, fun T hT hvT => ?_⟩)
              by_cases e : T = j
              · subst e; exact .inr ⟨rfl, Nat.le_refl _⟩
              · have := h4 T (by omega) hvT; omega
            have leave : ¬ (cut l (fun i => j.testBit i) < cut l (fun i => B.testBit i) ∨ (cut l (fun i => j.testBit i) = cut l (fun i => B.testBit i) ∧ (memb j).length < (memb B).length)) → ∃ r, R3_Side_L1 300 (k : Int) l (a : Int) (b : Int) g (B : Int) ((j+1 : Nat) : Int) = some (r, ((2 ^ k : Nat) : Int)) ∧ Inv l a b k (2 ^ k) r := by
              intro hc
              refine side_L1 hk ha hb hin hl g (j+1) (B : Int) (by omega) (by omega) (.inr ⟨B, rfl, h2, h3, fun T hT hvT => ?_⟩)
              by_cases e : T = j
              · subst e; omega
              · exact h4 T (by omega) hvT
            simp only [n0, if_false, Option.bind_some, List.length_map]
            by_cases c1 : cut l (fun i => j.testBit i) < cut l (fun i => B.testBit i)
            · obtain ⟨r, q1, q2⟩ := take (.inl c1)
              refine ⟨r, ?_, q2⟩
              rw [if_pos (by omega)]
              simpa using q1
            · rw [if_neg (by omega)]
              by_cases c2 : cut l (fun i => j.testBit i) = cut l (fun i => B.testBit i)
              · by_cases c3 : (memb j).length < (memb B).length
                · obtain ⟨r, q1, q2⟩ := take (.inr ⟨c2, c3⟩)
                  refine ⟨r, ?_, q2⟩
                  simp only [c2, beq_self_eq_true, if_true]
                  rw [if_pos (by omega)]
                  simpa using q1
                · obtain ⟨r, q1, q2⟩ := leave (by omega)
                  refine ⟨r, ?_, q2⟩
                  simp only [c2, beq_self_eq_true, if_true]
                  rw [if_neg (by omega)]
                  simpa using q1
              · obtain ⟨r, q1, q2⟩ := leave (by omega)
                refine ⟨r, ?_, q2⟩
                have : (((cut l fun i => j.testBit i : Nat) : Int) == ((cut l fun i => B.testBit i : Nat) : Int)) = false := by simp; omega
                simp only [this]
                simpa using q1
        · obtain ⟨r, q1, q2⟩ := side_L1 hk ha hb hin hl g (j+1) best (by omega) (by omega) (ext best hI (fun hv => by rw [hv.2] at hjb; cases hjb))
          exact ⟨r, by simpa using q1, q2⟩
    · obtain rfl : j = 2 ^ k := by omega
      rw [if_neg (by omega)]
      exact ⟨best, rfl, hI⟩
theorem side_ev {k a b m S : Nat} {l : List (Int × Int)} (hk : k ≤ 8) (ha : a < k) (hb : b < k) (hin : InL k l) (hl : l.length ≤ 24) (f : Found k l a b m S) :
    R3_Side 300 (k : Int) l (a : Int) (b : Int) = some ((memb S).map Int.ofNat, ((m : Nat) : Int)) := by
  have hp := Nat.pow_le_pow_right (n := 2) (by omega) hk
  obtain ⟨r, q1, q2⟩ := side_L1 hk ha hb hin hl 300 0 (-1) (by omega) (Nat.zero_le _) (.inl ⟨rfl, fun T hT => by omega⟩)
  have hS : S < 2 ^ k := Nat.lt_pow_two_of_testBit S fun i hi => by
    cases e : S.testBit i
    · rfl
    · have := f.below i e; omega
  have hvS : Vd a b S := ⟨f.has, f.hasnt⟩
  unfold R3_Side
  have q1' : R3_Side_L1 300 (k : Int) l (a : Int) (b : Int) 300 (-1) 0 = _ := q1
  rw [q1', Option.bind_some]
  rcases q2 with ⟨_, h2⟩ | ⟨B, rfl, h2, h3, h4⟩
  · exact absurd hvS (h2 S hS)
  · have k1 := f.least (fun i => B.testBit i) h3.1 h3.2
    have k2 := h4 S hS hvS
    rw [f.many] at k2
    have k3 : cut l (fun i => B.testBit i) = m := by omega
    have e : B = S := mask_eq f.lt (by omega) (k1.2 k3) (by omega)
    subst e
    rw [R3_Members_ev B (by omega), Option.bind_some, away_ev hin hk (by omega) (by omega), f.many]; rfl
theorem says {n : Int} {l : List (Int × Int)} (a b : Int) (hg : good n l) : L3_MengerSays 300 n l a b = some true := by
  unfold L3_MengerSays
  rw [R1_Lines_big (by omega), Option.bind_some]
  simp only [L3_in_ev, Option.bind_some]
  rcases ways_ev n l a b hg with ⟨k, x, y, m, S, ok, f, w, w'⟩ | ⟨e, he, w, w', q⟩
  · obtain ⟨rfl, rfl, rfl, he, hk8, hk1, hx, hy, hxy, hin, hne, hl24⟩ := ok
    rw [w, w', he, w64 (by omega) (by omega)]
    have i1 : decide ((0 : Int) ≤ (x : Int) ∧ (x : Int) ≤ (k : Int) - 1) = true := by simp; omega
    have i2 : decide ((0 : Int) ≤ (y : Int) ∧ (y : Int) ≤ (k : Int) - 1) = true := by simp; omega
    have i3 : ((x : Int) == (y : Int)) = false := by simp; omega
    have hml : ((memb S).map Int.ofNat).length < 300 := by rw [List.length_map]; have := memb_len_le S; omega
    have hI : SE_Ints 300 ((memb S).map Int.ofNat) ((memb S).map Int.ofNat) = some true := by
      rw [SE_Ints_ev hml (by omega)]; simp
    simp only [i1, i2, i3, side_ev hk8 hx hy hin hl24 f, mErr]
    simp [hI]
  · rw [w, w']
    have hne : ((e == 0) = false) := by simpa using he
    have o6 : ∀ K : Int → Option Bool, (((if (errG n l == 0) = true then if decide (0 ≤ a ∧ a ≤ wrap64 (n - 1)) = true then if decide (0 ≤ b ∧ b ≤ wrap64 (n - 1)) = true then some false else some true else some true else some false).bind fun b3 => if b3 = true then some (1 : Int) else some (errG n l)).bind fun o2 => ((if (o2 == 0) = true then if (a == b) = true then some true else some false else some false).bind fun b7 => if b7 = true then some 3 else some o2).bind K) = K e := by
      intro K
      by_cases h0 : errG n l = 0
      · obtain ⟨k, rfl, hk1, hk8, _⟩ := errG_zero h0
        rw [if_neg (by simpa using h0)] at q
        rw [w64 (by omega) (by omega)]
        by_cases h1 : 0 ≤ a ∧ a < (k : Int) ∧ 0 ≤ b ∧ b < (k : Int)
        · rw [if_pos h1] at q
          have i1 : decide ((0 : Int) ≤ a ∧ a ≤ (k : Int) - 1) = true := by simp; omega
          have i2 : decide ((0 : Int) ≤ b ∧ b ≤ (k : Int) - 1) = true := by simp; omega
          by_cases hab : a = b
          · subst hab; simp only [h0, i1, q]; simp
          · exfalso
            obtain ⟨x, rfl⟩ := Int.eq_ofNat_of_zero_le h1.1
            obtain ⟨y, rfl⟩ := Int.eq_ofNat_of_zero_le h1.2.2.1
            obtain ⟨_, _, _, _, hin, hne2⟩ := errG_zero h0
            have hc := check_ev (a := (x : Int)) (b := (y : Int)) hg h0 hk8 hk1
            rw [if_pos h1, if_neg hab] at hc
            unfold menger_Ways at w
            rw [hc, Option.bind_some, if_neg (by simp)] at w
            cases hf : menger_find 300 (k : Int) l (x : Int) (y : Int) with
            | none => rw [hf] at w; cases w
            | some z => rw [hf] at w; simp at w; omega
        · rw [if_neg h1] at q
          subst q
          by_cases i1 : 0 ≤ a ∧ a ≤ (k : Int) - 1
          · have i2 : ¬ (0 ≤ b ∧ b ≤ (k : Int) - 1) := by omega
            simp only [h0, i1, i2]; simp
          · simp only [h0, i1]; simp
      · have h0' : (errG n l == 0) = false := by simpa using h0
        rw [if_pos h0] at q
        subst q
        simp only [h0']; simp [h0]
    rw [o6]
    simp only [hne, mErr]
    have hi : SE_Ints 300 [] [] = some true := by decide +kernel
    simp [hi]
theorem mengerSays_any (w : World) (htc : TyCell w) (n : Int) (hn : (Lit.int .i64 n).wf = true) (A : Option Addr) (cap : Nat) (l : List (Int × Int)) (hr : ReadsL w w.heap.size A l) (hl : l.length ≤ maxLen) (a : Int) (_ : (Lit.int .i64 a).wf = true) (b : Int) (_ : (Lit.int .i64 b).wf = true) :
    Calls Tryd.prog 3 #[.int .i64 n, .slice A l.length cap, .int .i64 a, .int .i64 b] w fun e w' => e = .returned (.bool true) ∧ Below w.heap.size w w' :=
  L3_MengerSays_ok w htc cap hr (says a b ⟨hn, hl⟩)
end Go.Proofs.YtgihnflaikmakaaDoor
