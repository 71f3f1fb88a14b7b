import Derived.Test.YtpcmofhmhggcoaaG6
import Derived.Test.YtpcmofhmhggcoaaTur2
import Derived.Test.YtpcmofhmhggcoaaMoon
set_option linter.all false
namespace Go.Proofs.Ytpcmofhmhggcoaa
open Go.RowKit Go.Shelf Pl
theorem moon_L3 {F : Nat} {ms : List (List Int)} {a b : Int} (hms : ∀ m ∈ ms, m.length < F ∧ m.length < 9223372036854775807) (hl : ms.length < 9223372036854775807) : ∀ g k (c : Bool), ms.length < g + k → k ≤ ms.length →
    L3_CliqueMoon_L3 F ms a b g c (k : Int) = some (c || (ms.drop k).any (fun m => decide (a ∈ m) && decide (b ∈ m)), (ms.length : Int))
  | 0, k, c, h, hk => by omega
  | g+1, k, c, h, hk => by
    rw [L3_CliqueMoon_L3_s]
    by_cases hlt : k < ms.length
    · obtain ⟨h1, h2⟩ := hms ms[k] (List.getElem_mem hlt)
      rw [if_pos (by omega), ix_nat hlt]
      simp only [Option.bind_some, R1_Has_ev _ h1 h2]
      rw [w64n (by omega), List.drop_eq_getElem_cons hlt, List.any_cons]
      have iT := moon_L3 (a := a) (b := b) hms hl g (k+1) true (by omega) (by omega)
      have iF := moon_L3 (a := a) (b := b) hms hl g (k+1) false (by omega) (by omega)
      cases c
      · by_cases ha : a ∈ ms[k]
        · by_cases hb : b ∈ ms[k]
          · simp only [ha, hb, decide_true, if_true, Bool.false_eq_true, if_false, Option.bind_some, iT, Bool.true_and, Bool.true_or, Bool.or_true]
          · simp only [ha, hb, decide_true, decide_false, if_true, Bool.false_eq_true, if_false, Option.bind_some, iF, Bool.and_false, Bool.false_or]
        · simp only [ha, decide_false, Bool.false_eq_true, if_false, Option.bind_some, iF, Bool.false_and, Bool.false_or]
      · simp only [if_true, Option.bind_some, iT, Bool.true_or]
    · have : k = ms.length := by omega
      rw [if_neg (by omega), this, List.drop_length]; simp
theorem moon_L2 {F : Nat} {l : List (Int × Int)} {ms : List (List Int)} (hms : ∀ m ∈ ms, m.length < F ∧ m.length < 9223372036854775807) (hml : ms.length < F ∧ ms.length < 9223372036854775807) (hF : l.length < F) (hl : l.length < 9223372036854775807)
    (a : Nat) (ha : a ≤ 8) (hc : ∀ b : Nat, b ≤ a → (a = b ∨ besL l a b = true) → ∃ m ∈ ms, (a : Int) ∈ m ∧ (b : Int) ∈ m) : ∀ g b, a + 1 < g + b → b ≤ a + 1 →
    L3_CliqueMoon_L2 F l ms (a : Int) g (b : Int) = some (.inl ((a + 1 : Nat) : Int))
  | 0, b, h, hb => by omega
  | g+1, b, h, hb => by
    rw [L3_CliqueMoon_L2_s]
    by_cases hlt : b ≤ a
    · have ih := moon_L2 hms hml hF hl a ha hc g (b+1) (by omega) (by omega)
      have h3 := moon_L3 (F := F) (ms := ms) (a := (a : Int)) (b := (b : Int)) hms hml.2 F 0 false (by omega) (by omega)
      rw [if_pos (by omega), w64n (by omega), ih, R1_Beside_ev _ _ hF hl]
      rw [show (0 : Int) = ((0 : Nat) : Int) from rfl, h3, List.drop_zero]
      have hex : (a = b ∨ besL l a b = true) → ms.any (fun m => decide ((a : Int) ∈ m) && decide ((b : Int) ∈ m)) = true := by
        intro hab
        obtain ⟨m, hm, h1, h2⟩ := hc b hlt hab
        rw [List.any_eq_true]
        exact ⟨m, hm, by simp [h1, h2]⟩
      by_cases hab : a = b
      · have h1 : ((a : Int) != (b : Int)) = false := by simp [hab]
        simp [h1, hex (.inl hab)]
      · have h1 : ((a : Int) != (b : Int)) = true := by simp; omega
        cases hbs : besL l a b
        · simp [h1]
        · simp [h1, hex (.inr hbs)]
    · have : b = a + 1 := by omega
      rw [if_neg (by omega), this]
theorem moon_L1 {F : Nat} {l : List (Int × Int)} {ms : List (List Int)} (hms : ∀ m ∈ ms, m.length < F ∧ m.length < 9223372036854775807) (hml : ms.length < F ∧ ms.length < 9223372036854775807) (hF : l.length < F) (hF9 : 10 < F) (hl : l.length < 9223372036854775807)
    (n : Nat) (hn : n ≤ 8) (hc : ∀ a b : Nat, a < n → b ≤ a → (a = b ∨ besL l a b = true) → ∃ m ∈ ms, (a : Int) ∈ m ∧ (b : Int) ∈ m) : ∀ g a, n < g + a → a ≤ n →
    L3_CliqueMoon_L1 F (n : Int) l ms g (a : Int) = some (.inl (n : Int))
  | 0, a, h, ha => by omega
  | g+1, a, h, ha => by
    rw [L3_CliqueMoon_L1_s]
    by_cases hlt : a < n
    · have h2 := moon_L2 (F := F) (l := l) (ms := ms) hms hml hF hl a (by omega) (fun b hb hab => hc a b hlt hb hab) F 0 (by omega) (by omega)
      have ih := moon_L1 hms hml hF hF9 hl n hn hc g (a+1) (by omega) (by omega)
      rw [if_pos (by omega), show (0 : Int) = ((0 : Nat) : Int) from rfl, h2, Option.bind_some, w64n (by omega), ih]
    · have : a = n := by omega
      rw [if_neg (by omega), this]
theorem membI_mem {m x : Nat} (hm : m < 65536) : (x : Int) ∈ membI m ↔ m.testBit x = true := by
  rw [← mem_memb hm]
  unfold membI
  rw [List.mem_map]
  constructor
  · rintro ⟨y, hy, e⟩
    have : y = x := Int.ofNat.inj e
    exact this ▸ hy
  · intro h; exact ⟨x, h, rfl⟩
theorem moon_says {n : Int} {l : List (Int × Int)} (hg : good n l) : ∃ F, L3_CliqueMoon F n l = some true := by
  refine ⟨l.length + 100, ?_⟩
  generalize hF : l.length + 100 = F
  unfold L3_CliqueMoon
  simp only [mFact, mAll, if_pos hg, Option.bind_some]
  by_cases he : errG n l = 0
  · obtain ⟨k, rfl, hk1, hk8, hl24, hin, hne⟩ := errG_zero he
    have hl : l.length < 9223372036854775807 := by omega
    have hnl : NoLoop (besM k l) := besM_ne hin hne
    have hp := Nat.pow_le_pow_right (n := 2) (by omega) hk8
    obtain ⟨hnd, hfnd⟩ := whole_sound (besM k l) (besM_sym hin) hnl 8 0 (2 ^ k - 1) 0 (fun u v hu => by rw [Nat.zero_testBit] at hu; cases hu) (fun v _ u hu => by rw [Nat.zero_testBit] at hu; cases hu)
    have hmk : ∀ j ≤ 8, (memb (2 ^ j - 1)).length = j := by decide
    have hcard := moon (besM k l) (besM_sym hin) hnl k hk8 (2 ^ k - 1) (by omega) (hmk k hk8) _ hnd hfnd
    have hix : ∀ j : Nat, j ≤ 8 → ix ([1, 1, 2, 3, 4, 6, 9, 12, 18] : List Int) (j : Int) = some ((mo j : Nat) : Int) := by decide
    have h18 : ∀ j ≤ 8, mo j ≤ 18 := by decide
    have hcl : (cliquesM k l).length ≤ mo k := hcard
    have h18k := h18 k hk8
    have h1 := moon_L1 (F := F) (l := l) (ms := (cliquesM k l).map membI) (fun m hm => by
        obtain ⟨x, _, rfl⟩ := List.mem_map.1 hm
        have : (membI x).length ≤ 16 := by unfold membI; rw [List.length_map]; unfold memb; have := List.length_filter_le (fun i => x.testBit i) (List.range 16); simpa using this
        omega) (by rw [List.length_map]; omega) (by omega) (by omega) hl k hk8 (fun a b ha hb hab => by
        have hcl2 : Clq (besM k l) (maskOf [a, b]) := by
          intro u v hu hv hne'
          rw [maskOf_bit] at hu hv
          simp at hu hv
          have hab' : a ≠ b → adj (besM k l) a b = true := fun h => by rw [adj_besL hin]; exact hab.resolve_left h
          rcases hu with rfl | rfl <;> rcases hv with rfl | rfl
          · exact absurd rfl hne'
          · exact hab' hne'
          · rw [besM_sym hin]; exact hab' (Ne.symm hne')
          · exact absurd rfl hne'
        obtain ⟨M, hM, hlt, hsub⟩ := clique_in (besM k l) (besM_sym hin) hnl hk8 (maskOf [a, b]) (maskOf_lt (by simp; omega)) hcl2
        refine ⟨membI M, List.mem_map.2 ⟨M, hM, rfl⟩, ?_, ?_⟩
        · exact (membI_mem (by omega)).2 (hsub a (by rw [maskOf_bit]; simp))
        · exact (membI_mem (by omega)).2 (hsub b (by rw [maskOf_bit]; simp))) F 0 (by omega) (by omega)
    have h1' : L3_CliqueMoon_L1 F (k : Int) l ((cliquesM k l).map membI) F 0 = _ := h1
    have hno : ¬ ((mo k : Nat) : Int) < (((cliquesM k l).map membI).length : Int) := by rw [List.length_map]; omega
    simp [he, R1_Lines_ev (show l.length < F by omega) hl, hix k hk8]
    rw [if_neg (by omega), h1']; rfl
  · simp [he]
theorem cliqueMoon_any (w : World) (n : Int) (hn : (Lit.int .i64 n).wf = true) (A : Option Addr) (cap : Nat) (l : List (Int × Int)) (hr : ReadsL w w.heap.size A l) (hl : l.length ≤ maxLen) :
    Calls Try.prog 3 #[.int .i64 n, .slice A l.length cap] w fun e w' => e = .returned (.bool true) ∧ Below w.heap.size w w' := by
  obtain ⟨F, h⟩ := moon_says (n := n) (l := l) ⟨hn, hl⟩
  exact L3_CliqueMoon_ok w cap hr h
end Go.Proofs.Ytpcmofhmhggcoaa
