import Derived.Test.YtnfijblmigjlhaaDoorF2
import Derived.Test.YtnfijblmigjlhaaDoorEv2
/- plain: BruijnSays -/
set_option linter.all false
set_option maxRecDepth 100000
namespace Go.Proofs.YtnfijblmigjlhaaDoor
open Go.RowKit Pl
def aw (s : Nat) : Nat → List (List Int)
  | 0 => [[]]
  | l+1 => (List.range s).flatMap fun (x : Nat) => (aw s l).map (fun w => (x : Int) :: w)
theorem aw_mem {s : Nat} : ∀ {w : List Int}, (∀ x ∈ w, 0 ≤ x ∧ x ≤ (s : Int) - 1) → w ∈ aw s w.length
  | [], _ => List.mem_singleton_self _
  | x :: w, h => by
    have hx := h x List.mem_cons_self
    show x :: w ∈ (List.range s).flatMap fun (y : Nat) => (aw s w.length).map (fun w => (y : Int) :: w)
    rw [List.mem_flatMap]
    refine ⟨x.toNat, by rw [List.mem_range]; omega, List.mem_map.2 ⟨w, aw_mem (fun y hy => h y (List.mem_cons_of_mem _ hy)), ?_⟩⟩
    rw [show ((x.toNat : Nat) : Int) = x by omega]
def chkAll (s l : Nat) : Bool := (aw s l).all fun w => (findM (ringM s l) w).isSome
theorem all_all : allB chkAll = true := by decide +kernel
theorem bru_all : ((List.range 4).all fun s => (List.range 7).all fun l => (decide (s = 0) || decide (l = 0)) || decide (R3_Bruijn 300 (s : Int) (l : Int) = some (errB s l))) = true := by decide +kernel
theorem rng_all : allB (fun s l => decide (R3_Ring 300 (s : Int) (l : Int) = some (ringM s l))) = true := by decide +kernel
theorem bru_ev (s l : Int) : R3_Bruijn 300 s l = some (errB s l) := by
  by_cases h : (1 ≤ s ∧ s ≤ 3) ∧ (1 ≤ l ∧ l ≤ 6)
  · obtain ⟨a, rfl⟩ := Int.eq_ofNat_of_zero_le (show 0 ≤ s by omega)
    obtain ⟨b, rfl⟩ := Int.eq_ofNat_of_zero_le (show 0 ≤ l by omega)
    have h1 := bru_all
    rw [List.all_eq_true] at h1
    have h2 := h1 a (List.mem_range.2 (by omega))
    rw [List.all_eq_true] at h2
    have h3 := h2 b (List.mem_range.2 (by omega))
    rw [Bool.or_eq_true, Bool.or_eq_true, decide_eq_true_eq, decide_eq_true_eq, decide_eq_true_eq] at h3
    rcases h3 with (h3 | h3) | h3
    · omega
    · omega
    · exact h3
  · unfold R3_Bruijn errB
    rw [R3_in_ev, R3_in_ev, if_neg (show ¬ (1 ≤ s ∧ s ≤ 3 ∧ 1 ≤ l ∧ l ≤ 6) by omega)]
    by_cases c : 1 ≤ s ∧ s ≤ 3
    · rw [decide_eq_true c, decide_eq_false (show ¬ (1 ≤ l ∧ l ≤ 6) by omega)]; rfl
    · rw [decide_eq_false c]; rfl
theorem rng_ev {s l : Nat} (h : okB s l = true) : R3_Ring 300 (s : Int) (l : Int) = some (ringM s l) := by
  have h' := h
  simp only [okB, Bool.and_eq_true, decide_eq_true_eq] at h'
  have := allB_at rng_all (show s ≤ 3 by omega) (show l ≤ 6 by omega) h
  simpa using this
theorem md_nat (a : Nat) {b : Nat} (hb : 0 < b) : md (a : Int) (b : Int) = some ((a % b : Nat) : Int) := by
  unfold md
  rw [if_neg (by omega)]
  rfl
theorem says_L2 {R word : List Int} (hR : 0 < R.length) (hR2 : R.length ≤ 100) (hw : word.length ≤ 6) {i : Nat} (hi : i ≤ 100) : ∀ (g j : Nat), word.length < j + g → j ≤ word.length →
    ∃ x, L4_BruijnSays_L2 300 word (i : Int) R g (decide (subw R i j = word.take j)) (j : Int) = some (decide (subw R i word.length = word), x)
  | 0, j, h, hj => by omega
  | g+1, j, h, hj => by
    rw [L4_BruijnSays_L2_s]
    by_cases hlt : j < word.length
    · obtain ⟨x, hx⟩ := says_L2 hR hR2 hw hi g (j+1) (by omega) (by omega)
      have e0 : wrap64 ((i : Int) + (j : Int)) = ((i + j : Nat) : Int) := by rw [w64 (by omega) (by omega)]; omega
      have hmod : (i + j) % R.length < R.length := Nat.mod_lt _ hR
      rw [if_pos (by omega), e0, md_nat _ hR, w64n (by omega)]
      have key : decide (subw R i (j + 1) = word.take (j + 1)) = (decide (subw R i j = word.take j) && (R.getD ((i + j) % R.length) 0 == word[j])) := by
        rw [subw_succ, List.take_succ_eq_append_getElem hlt, ← Bool.decide_eq_true (b := (R.getD ((i + j) % R.length) 0 == word[j])), ← Bool.decide_and]
        refine decide_eq_decide.2 ?_
        rw [snoc_inj (by rw [subw_len, List.length_take]; omega), beq_iff_eq]
      rw [key] at hx
      cases hb : decide (subw R i j = word.take j)
      · rw [hb] at hx
        simp only [Bool.false_eq_true, if_false, Option.bind_some]
        exact ⟨x, hx⟩
      · rw [hb] at hx
        simp only [if_true, Option.bind_some]
        rw [ix_at 0 hmod, Option.bind_some, ix_nat hlt, Option.bind_some]
        cases hc : (R.getD ((i + j) % R.length) 0 == word[j])
        · rw [hc] at hx
          simp only [Bool.false_eq_true, if_false, Option.bind_some]
          exact ⟨x, hx⟩
        · rw [hc] at hx
          simp only [if_true, Option.bind_some]
          exact ⟨x, hx⟩
    · have : j = word.length := by omega
      subst this
      rw [if_neg (by omega), List.take_length]
      exact ⟨_, rfl⟩
theorem says_L1 {R word : List Int} (hR : 0 < R.length) (hR2 : R.length ≤ 100) (hw : word.length ≤ 6) {m : Nat} (hm : findM R word = some m) : ∀ (g i : Nat), m < i + g → i ≤ m → L4_BruijnSays_L1 300 word R g (i : Int) = some (m : Int)
  | 0, i, h, hi => by omega
  | g+1, i, h, hi => by
    unfold findM at hm
    rw [List.find?_range_eq_some] at hm
    obtain ⟨m1, m2, m3⟩ := hm
    have hml : m < R.length := List.mem_range.1 m2
    have hi100 : i ≤ 100 := by omega
    have hw300 : word.length < 0 + 300 := by omega
    obtain ⟨x, hx⟩ := says_L2 hR hR2 hw hi100 300 0 hw300 (Nat.zero_le _)
    rw [show decide (subw R i 0 = word.take 0) = true from decide_eq_true rfl] at hx
    rw [L4_BruijnSays_L1_s, show L4_BruijnSays_L2 300 word (i : Int) R 300 true 0 = some (decide (subw R i word.length = word), x) from hx, Option.bind_some]
    by_cases e : i = m
    · subst e
      rw [decide_eq_true (by simpa using m1)]; rfl
    · have hno : ¬ (subw R i word.length = word) := by
        have := m3 i (by omega)
        simpa using this
      rw [decide_eq_false hno]
      simp only [Bool.false_eq_true, if_false]
      rw [w64n (by omega)]
      exact says_L1 hR hR2 hw (by unfold findM; rw [List.find?_range_eq_some]; exact ⟨m1, m2, m3⟩) g (i+1) (by omega) (by omega)
theorem mErr_same (c : Int) : mErr c c = some true := by unfold mErr; rw [decide_eq_true rfl]
theorem inAll_allIn (l : List Int) (a b : Int) : inAll l a b = allIn l a b := rfl
theorem says_law {s l : Int} {word : List Int} (hs : (Lit.int .i64 s).wf = true) (hw : word.length ≤ maxLen) : L4_BruijnSays 300 s l word = some true := by
  unfold L4_BruijnSays
  rw [bru_ev, Option.bind_some, show bCheck s l = some (errB s l) from rfl, Option.bind_some, mErr_same, Option.bind_some]
  have h1 : (((if (errB s l == 0) = true then some true else some false).bind fun b5 => if b5 = true then (R3_Ring 300 s l).bind fun y6 => some y6 else some []) : Option (List Int)) = some (if errB s l = 0 then (ringM s.toNat l.toNat, (0 : Int)) else ([], errB s l)).1 := by
    by_cases he : errB s l = 0
    · obtain ⟨a, b, rfl, rfl, hB⟩ := errB_ok he
      rw [if_pos (by simpa using he), if_pos he]
      simp only [Option.bind_some, if_true, rng_ev hB, Int.toNat_natCast]
    · rw [if_neg (by simpa using he), if_neg he]; rfl
  rw [h1, Option.bind_some, show bRing s l = some (if errB s l = 0 then (ringM s.toNat l.toNat, 0) else ([], errB s l)) from rfl, Option.bind_some]
  have h2 : (if errB s l = 0 then (ringM s.toNat l.toNat, (0 : Int)) else ([], errB s l)).2 = errB s l := by
    by_cases he : errB s l = 0
    · rw [if_pos he, he]
    · rw [if_neg he]
  have h3 : (if errB s l = 0 then (ringM s.toNat l.toNat, (0 : Int)) else ([], errB s l)).1.length < 300 := by
    by_cases he : errB s l = 0
    · obtain ⟨a, b, rfl, rfl, hB⟩ := errB_ok he
      rw [if_pos he, Int.toNat_natCast, Int.toNat_natCast]
      have := (ring_pos hB).2
      show (ringM a b).length < 300
      omega
    · rw [if_neg he]; simp
  rw [h2, mErr_same, Option.bind_some, if_pos rfl, SE_Ints_ev h3 (by omega), decide_eq_true rfl]
  simp only [Option.bind_some, if_true]
  rw [bru_ev, Option.bind_some]
  -- the word
  by_cases he : errB s word.length = 0
  · obtain ⟨a, b, rfl, hb, hB⟩ := errB_ok he
    have : b = word.length := by omega
    subst this
    have hB' := hB
    simp only [okB, Bool.and_eq_true, decide_eq_true_eq] at hB'
    have hl6 : word.length ≤ 6 := hB'.1.2
    have hrp := ring_pos hB
    rw [he, if_pos (show ((0 : Int) == 0) = true from rfl), R1_All_ev _ _ (by omega) (by omega), w64 (by omega) (by omega)]
    simp only [Option.bind_some]
    unfold bFind
    rw [he, inAll_allIn]
    cases hall : allIn word 0 ((a : Int) - 1)
    · simp only [Bool.false_eq_true, if_false, Option.bind_some, if_true, mErr_same]
      rfl
    · have hin : ∀ x ∈ word, 0 ≤ x ∧ x ≤ (a : Int) - 1 := fun x hx => by
        have := List.all_eq_true.1 hall x hx
        simpa using this
      have hch := allB_at all_all (show a ≤ 3 by omega) hl6 hB
      unfold chkAll at hch
      rw [List.all_eq_true] at hch
      have hsome := hch word (aw_mem hin)
      obtain ⟨m, hm⟩ := Option.isSome_iff_exists.1 hsome
      have hml : m < 200 := by
        have hm' := hm
        unfold findM at hm'
        rw [List.find?_range_eq_some] at hm'
        have := List.mem_range.1 hm'.2.1
        omega
      have hL := says_L1 hrp.1 hrp.2 hl6 hm 300 0 (by omega) (by omega)
      simp only [if_true, Bool.false_eq_true, if_false, Option.bind_some, rng_ev hB, show ((0 : Int) == 0) = true from rfl]
      rw [show L4_BruijnSays_L1 300 word (ringM a word.length) 300 0 = some (m : Int) from hL, Int.toNat_natCast, hm]
      simp only [Option.bind_some, mErr_same, if_true]
      simp
  · have e1 : ¬ ((errB s word.length == 0) = true) := by simpa using he
    unfold bFind
    rw [if_neg e1, if_neg he]
    simp only [Option.bind_some, Bool.false_eq_true, if_false, e1, mErr_same, if_true]
    rfl
theorem bruijnSays_any (w : World) (htc : TyCell w) (s : Int) (hs : (Lit.int .i64 s).wf = true) (l : Int) (_ : (Lit.int .i64 l).wf = true) (A : Option Addr) (cap : Nat) (word : List Int) (hr : ReadsI w w.heap.size A word ∧ word.length ≤ maxLen ∧ ∀ n ∈ word, (Lit.int .i64 n).wf = true) :
    Calls Tryd.prog 3 #[.int .i64 s, .int .i64 l, .slice A word.length cap] w fun e w' => e = .returned (.bool true) ∧ Below w.heap.size w w' :=
  L4_BruijnSays_ok w htc cap hr.1 (says_law hs hr.2.1)
end Go.Proofs.YtnfijblmigjlhaaDoor
