import Derived.Test.YtfaemblfffbmfaaRd
import Derived.Test.YtfaemblfffbmfaaR8
import Derived.Test.YtfaemblfffbmfaaR9
/- RankRado, RankTake -/
set_option linter.all false
set_option maxRecDepth 100000
namespace Go.Proofs.Ytfaemblfffbmfaa
open Go.RowKit Pl
section
variable {F : Nat}
theorem fact_ev (hF : 300 ≤ F) : L4_rankFact F = some true := by
  have hl : Rw 3 [[0, 1], [2]] := by
    intro r hr
    simp at hr
    rcases hr with rfl | rfl
    · exact ⟨fun x hx => by simp at hx; omega, by decide⟩
    · exact ⟨fun x hx => by simp at hx; omega, by decide⟩
  have hFr : ∀ r ∈ ([[0, 1], [2]] : List (List Int)), r.length < F := fun r hr => by
    simp at hr; rcases hr with rfl | rfl <;> simp <;> omega
  have hLr : ∀ r ∈ ([[0, 1], [2]] : List (List Int)), r.length ≤ 9223372036854775807 := fun r hr => by
    simp at hr; rcases hr with rfl | rfl <;> simp
  have he : errR 3 [[0, 1], [2]] = 0 := by decide
  have hch : rank_Check F ((3 : Nat) : Int) [[0, 1], [2]] = some 0 := by
    have := check_ev (F := F) (n := 3) hFr hF hLr; rwa [he] at this
  have hwe : errW 3 [[0, 1], [2]] [2, 2, 3] = 0 := by decide
  have hwo : rank_worth F ((3 : Nat) : Int) [[0, 1], [2]] [2, 2, 3] = some 0 := by
    have := worth_ev (F := F) (n := 3) (ws := [2, 2, 3]) hFr hF hLr (by simp; omega) (by simp); rwa [hwe] at this
  obtain ⟨f, f1, f2⟩ := fair_ev (F := F) (k := 3) (by omega) (by omega) hl (by simp) hF hch
  obtain ⟨ord, o1, o2, o3, o4, o5'⟩ := greedy_ev (F := F) (k := 3) (ws := [2, 2, 3]) (by omega) (by omega) hl (by simp) hF hwo rfl (by decide)
  obtain ⟨b, b1, b2, b3⟩ := best_ev (F := F) (k := 3) (ws := [2, 2, 3]) (by omega) hl (by simp) hF hwo rfl (by decide)
  have hf : f = false := by
    cases e : f
    · rfl
    · have := f2.1 e
      obtain ⟨i, i1, i2, i3⟩ := this 4 3 (by decide) (by decide) (by decide) (by decide) (by decide)
      have hi := bits_lt (n := 3) (by decide) i1
      have : i = 0 ∨ i = 1 ∨ i = 2 := by omega
      rcases this with rfl | rfl | rfl <;> revert i1 i2 i3 <;> decide
  have hG : G (mayB [[0, 1], [2]]) ord 0 = 4 := by
    have hm2 : (2 : Nat) ∈ ord := (o2 2).2 (by omega)
    match ord, o1, o2, o3, hm2 with
    | [], _, _, _, h => cases h
    | a :: r, o1, o2, o3, h =>
      have ha : a = 2 := by
        rcases List.mem_cons.1 h with e | e
        · exact e.symm
        · have hw := (List.pairwise_cons.1 o3).1 2 e
          have hak := (o2 a).1 List.mem_cons_self
          have : a = 0 ∨ a = 1 ∨ a = 2 := by omega
          rcases this with rfl | rfl | rfl
          · revert hw; decide
          · revert hw; decide
          · rfl
      subst ha
      have hfull : ∀ i, i < 3 → i ≠ 2 → (G (mayB [[0, 1], [2]]) (2 :: r) 0).testBit i = false := fun i hi hne => by
        cases e : (G (mayB [[0, 1], [2]]) (2 :: r) 0).testBit i
        · rfl
        · have hmay := G_may (m := mayB [[0, 1], [2]]) (2 :: r) 0 may_zero
          have h2 : (G (mayB [[0, 1], [2]]) (2 :: r) 0).testBit 2 = true := G_sub r _ 2 (by decide)
          rcases (mayB_iff hl).1 hmay with q | ⟨x, hx, hq⟩
          · rw [q, Nat.zero_testBit] at h2; cases h2
          · have a1 := hq 2 h2; have a2 := hq i e
            simp at hx
            rcases hx with rfl | rfl
            · simp at a1
            · simp at a2; omega
      apply Nat.eq_of_testBit_eq
      intro i
      have h2 : (G (mayB [[0, 1], [2]]) (2 :: r) 0).testBit 2 = true := G_sub r _ 2 (by decide)
      by_cases hi : i < 3
      · by_cases e : i = 2
        · subst e; rw [h2]; rfl
        · rw [hfull i hi e]
          have : i = 0 ∨ i = 1 := by omega
          rcases this with rfl | rfl <;> rfl
      · have e1 : (4 : Nat).testBit i = false := Nat.testBit_lt_two_pow (Nat.lt_of_lt_of_le (show 4 < 2 ^ 3 by decide) (Nat.pow_le_pow_right (by omega) (by omega)))
        rw [e1]
        cases e : (G (mayB [[0, 1], [2]]) (2 :: r) 0).testBit i
        · rfl
        · exact absurd (bits_lt o5' e) hi
  have hb : b = 4 := by
    obtain ⟨s, s1, s2, s3⟩ := b3
    have h1 := b2 3 (by decide) (by decide)
    have e1 : sumL (wof [2, 2, 3]) (memb 3) = 4 := by decide
    have h2 : ∀ s, s < 8 → mayB [[0, 1], [2]] s = true → sumL (wof [2, 2, 3]) (memb s) ≤ 4 := by decide
    have := h2 s s1 s2
    omega
  have c1 : rank_Fair F 3 [[0, 1], [2]] = some (false, 0) := by rw [hf] at f1; exact f1
  have c2 : rank_Greedy F 3 [[0, 1], [2]] [2, 2, 3] = some ([2], 3, 0) := by
    rw [hG] at o4
    have : membI 4 = [2] := by decide
    have e2 : sumL (wof [2, 2, 3]) (memb 4) = 3 := by decide
    rw [this, e2] at o4; exact o4
  have c3 : rank_Best F 3 [[0, 1], [2]] [2, 2, 3] = some (4, 0) := by rw [hb] at b1; exact b1
  unfold L4_rankFact
  rw [c1, Option.bind_some, c2, Option.bind_some, c3, Option.bind_some, SE_Ints_ev (by simp; omega) (by simp)]
  rfl
variable {n : Int} {l : List (List Int)} {ws : List Int}
theorem check_zero (hF : ∀ r ∈ l, r.length < F) (hF2 : 300 ≤ F) (hL : ∀ r ∈ l, r.length ≤ 9223372036854775807) (h : errR n l = 0) : rank_Check F n l = some 0 := by rw [check_ev hF hF2 hL, h]
theorem rado_ev (hF : ∀ r ∈ l, r.length < F) (hF2 : 300 ≤ F) (hL : ∀ r ∈ l, r.length ≤ 9223372036854775807) (hW : ws.length < F) (hW2 : ws.length ≤ 9223372036854775807) : L4_RankRado F n l ws = some true := by
  unfold L4_RankRado
  rw [fact_ev hF2, Option.bind_some, if_pos rfl]
  by_cases h : errR n l = 0
  · have hch := check_zero hF hF2 hL h
    obtain ⟨k, rfl, h1, h6, h24, hl⟩ := errR_zero h
    obtain ⟨f, f1, f2⟩ := fair_ev h1 h6 hl h24 hF2 hch
    rw [f1, Option.bind_some]
    dsimp only
    rw [if_neg (by decide)]
    by_cases hw : errW (k : Int) l ws = 0
    · obtain ⟨_, w1, w2⟩ := errW_zero hw
      have hwo : rank_worth F (k : Int) l ws = some 0 := by rw [worth_ev hF hF2 hL hW hW2, hw]
      obtain ⟨ord, o1, o2, o3, o4, o5⟩ := greedy_ev h1 h6 hl h24 hF2 hwo (by omega) w2
      obtain ⟨b, b1, b2, b3⟩ := best_ev h6 hl h24 hF2 hwo (by omega) w2
      have hle := b2 _ o5 (G_may ord 0 may_zero)
      rw [o4, Option.bind_some, b1, Option.bind_some]
      dsimp only
      rw [if_neg (by decide), if_neg (by decide), Option.bind_some, if_neg (by decide), if_pos hle]
      cases hf : f
      · rfl
      · have hr : sumL (wof ws) (memb (G (mayB l) ord 0)) = b := by
          obtain ⟨s, s1, s2, s3⟩ := b3
          have := rado (by omega) (may_down hl) may_zero (f2.1 hf) (wof_bd w2) o1 o2 (o3.imp fun h => by omega) s1 s2
          omega
        rw [if_pos rfl, if_pos (by rw [beq_iff_eq]; exact hr)]; rfl
    · rw [greedy_bad hF hF2 hL hW hW2 hw, Option.bind_some, best_bad hF hF2 hL hW hW2 hw, Option.bind_some]
      dsimp only
      have hb : (errW (k : Int) l ws != 0) = true := by rw [bne_iff_ne]; exact hw
      rw [hb]; rfl
  · rw [fair_bad hF hF2 hL h, Option.bind_some]
    dsimp only
    rw [if_pos (by rw [bne_iff_ne]; exact h)]; rfl
/-! ### RankTake -/
theorem mayR_L2 {k : Nat} (h6 : k ≤ 6) (hl : Rw k l) (hF2 : 300 ≤ F) {ms : List Int} (hms : ms.length ≤ 20) {i : Nat} (hi : i < l.length) : ∀ (g j : Nat) (c : Bool), ms.length < j + g → j ≤ ms.length →
    ∃ x, R3_May_L2 F l ms (i : Int) g c (j : Int) = some (c && (ms.drop j).all fun y => decide (y ∈ l[i]), x)
  | 0, j, c, h, hj => by omega
  | g+1, j, c, h, hj => by
    rw [R3_May_L2_s]
    by_cases hc : j < ms.length
    · have hr := row_len h6 (hl _ (List.getElem_mem hi))
      have e : (if c = true then (ix l (i : Int)).bind fun y2 => (ix ms (j : Int)).bind fun y3 => (R1_Has F y2 y3).bind fun y4 => if y4 = true then some true else some false else some false) = some (c && decide (ms[j] ∈ l[i])) := by
        rw [ix_nat hi, Option.bind_some, ix_nat hc, Option.bind_some, R1_Has_ev _ (by omega) (by omega), Option.bind_some]
        cases c <;> cases decide (ms[j] ∈ l[i]) <;> rfl
      rw [if_pos (by omega), e, Option.bind_some, w64n (by omega)]
      obtain ⟨x, hx⟩ := mayR_L2 h6 hl hF2 hms hi g (j+1) (c && decide (ms[j] ∈ l[i])) (by omega) (by omega)
      refine ⟨x, ?_⟩
      rw [hx, List.drop_eq_getElem_cons hc, List.all_cons, Bool.and_assoc]
    · have : j = ms.length := by omega
      subst this
      rw [if_neg (by omega), List.drop_length]
      exact ⟨_, by rw [List.all_nil, Bool.and_true]⟩
theorem mayR_L1 {k : Nat} (h6 : k ≤ 6) (hl : Rw k l) (h24 : l.length ≤ 24) (hF2 : 300 ≤ F) {ms : List Int} (hms : ms.length ≤ 20) : ∀ (g j : Nat), l.length < j + g → j ≤ l.length →
    ∃ y, R3_May_L1 F l ms g (j : Int) = some y ∧ (((l.drop j).any fun r => ms.all fun y => decide (y ∈ r)) = true → y = .inr true) ∧ (((l.drop j).any fun r => ms.all fun y => decide (y ∈ r)) = false → ∃ x, y = .inl x)
  | 0, j, h, hj => by omega
  | g+1, j, h, hj => by
    rw [R3_May_L1_s]
    by_cases c : j < l.length
    · obtain ⟨x, hx⟩ := mayR_L2 (F := F) h6 hl hF2 hms c F 0 true (by omega) (by omega)
      rw [Bool.true_and, List.drop_zero] at hx
      rw [if_pos (by omega), show R3_May_L2 F l ms (j : Int) F true 0 = _ from hx, Option.bind_some, List.drop_eq_getElem_cons c, List.any_cons]
      dsimp only
      cases e : ms.all fun y => decide (y ∈ l[j])
      · rw [if_neg (by decide), w64n (by omega), Bool.false_or]
        exact mayR_L1 h6 hl h24 hF2 hms g (j+1) (by omega) (by omega)
      · rw [if_pos rfl, Bool.true_or]
        exact ⟨_, rfl, fun _ => rfl, fun q => by cases q⟩
    · have : j = l.length := by omega
      subst this
      rw [if_neg (by omega), List.drop_length]
      exact ⟨_, rfl, (fun q => by cases q), fun _ => ⟨_, rfl⟩⟩
/-- the document's May, of a list -/
theorem mayR_ev {k : Nat} (h6 : k ≤ 6) (hl : Rw k l) (h24 : l.length ≤ 24) (hF2 : 300 ≤ F) {ms : List Nat} (hms : ms.length ≤ 20) {s : Nat} (hs : ∀ i, i ∈ ms ↔ s.testBit i = true) : R3_May F l (ms.map fun (x : Nat) => (x : Int)) = some (mayB l s) := by
  unfold R3_May
  rw [List.length_map]
  by_cases h0 : ms = []
  · subst h0
    have : s = 0 := by
      apply Nat.eq_of_testBit_eq
      intro i
      cases e : s.testBit i
      · rw [Nat.zero_testBit]
      · have := (hs i).2 e; cases this
    subst this
    rfl
  · have hpos := List.length_pos_iff.2 h0
    obtain ⟨y, y1, y2, y3⟩ := mayR_L1 (F := F) (ms := ms.map fun (x : Nat) => (x : Int)) h6 hl h24 hF2 (by rw [List.length_map]; exact hms) F 0 (by omega) (by omega)
    rw [List.drop_zero] at y2 y3
    rw [if_neg (by rw [beq_iff_eq]; omega), show R3_May_L1 F l (ms.map fun (x : Nat) => (x : Int)) F 0 = _ from y1, Option.bind_some]
    have hs0 : s ≠ 0 := fun e => by
      obtain ⟨a, r, hr⟩ := List.exists_cons_of_ne_nil h0
      have := (hs a).1 (by rw [hr]; exact List.mem_cons_self)
      rw [e, Nat.zero_testBit] at this; cases this
    have hiff : (l.any fun r => (ms.map fun (x : Nat) => (x : Int)).all fun y => decide (y ∈ r)) = mayB l s := by
      rw [Bool.eq_iff_iff, mayB_iff hl, List.any_eq_true]
      constructor
      · rintro ⟨r, hr, h⟩
        exact .inr ⟨r, hr, fun i hi => of_decide_eq_true (List.all_eq_true.1 h _ (List.mem_map.2 ⟨i, (hs i).2 hi, rfl⟩))⟩
      · rintro (h | ⟨r, hr, h⟩)
        · exact absurd h hs0
        · refine ⟨r, hr, List.all_eq_true.2 fun y hy => ?_⟩
          obtain ⟨i, hi, rfl⟩ := List.mem_map.1 hy
          exact decide_eq_true (h i ((hs i).1 hi))
    rw [hiff] at y2 y3
    cases e : mayB l s
    · obtain ⟨x, rfl⟩ := y3 e; rfl
    · rw [y2 e]
theorem tk_L1 {k : Nat} (hw : ws.length = k) (hws : allIn ws 0 20 = true) {ms : List Nat} (hms : ∀ x ∈ ms, x < k) (hl : ms.length ≤ 20) : ∀ (g j : Nat) (v : Int), ms.length < j + g → j ≤ ms.length → 0 ≤ v → v ≤ 20 * (j : Int) →
    ∃ x, L4_RankTake_L1 F ws (ms.map fun (x : Nat) => (x : Int)) g v (j : Int) = some (v + sumL (wof ws) (ms.drop j), x)
  | 0, j, v, h, hj, _, _ => by omega
  | g+1, j, v, h, hj, h0, hv => by
    rw [L4_RankTake_L1_s, List.length_map]
    by_cases c : j < ms.length
    · have hm := hms _ (List.getElem_mem c)
      have hwi := wof_bd hws ms[j]
      have hix : ix ws ((ms[j] : Nat) : Int) = some (wof ws ms[j]) := ix_at 0 (by omega)
      rw [if_pos (by omega), ixN c, Option.bind_some, hix, Option.bind_some, w64 (by omega) (by omega), w64n (by omega)]
      obtain ⟨x, hx⟩ := tk_L1 hw hws hms hl g (j+1) (v + wof ws ms[j]) (by omega) (by omega) (by omega) (by omega)
      refine ⟨x, ?_⟩
      rw [hx, List.drop_eq_getElem_cons c]
      simp only [sumL]
      rw [Int.add_assoc]
    · have : j = ms.length := by omega
      subst this
      rw [if_neg (by omega), List.drop_length]
      exact ⟨_, by simp only [sumL]; rw [Int.add_zero]⟩
theorem tk_L2 {k : Nat} (h6 : k ≤ 6) (hl : Rw k l) (h24 : l.length ≤ 24) (hF2 : 300 ≤ F) {h : Nat} (hh : h < 2 ^ k) (hfull : ∀ i, i < k → h.testBit i = false → mayB l (h ||| 2 ^ i) = false) : ∀ (g j : Nat), k < j + g → j ≤ k →
    ∃ x, L4_RankTake_L2 F (k : Int) l (membI h) g (j : Int) = some (.inl x)
  | 0, j, hg, hj => by omega
  | g+1, j, hg, hj => by
    have hp := Nat.pow_le_pow_right (n := 2) (by omega) h6
    rw [L4_RankTake_L2_s]
    by_cases c : j < k
    · have hm := mb16 h
      have hml : (membI h).length ≤ 16 := by unfold membI; rw [List.length_map]; exact hm
      have hmem : ((j : Int) ∈ membI h) ↔ h.testBit j = true := by
        rw [← mem_memb (by omega : h < 65536)]
        unfold membI
        constructor
        · intro q; obtain ⟨x, hx, e⟩ := List.mem_map.1 q; have e : (x : Int) = (j : Int) := e; have : x = j := by omega
          rw [← this]; exact hx
        · intro q; exact List.mem_map.2 ⟨j, q, rfl⟩
      rw [if_pos (by omega), R1_Has_ev _ (by omega) (by omega), Option.bind_some, w64n (by omega)]
      cases e : h.testBit j
      · rw [decide_eq_false (by rw [hmem, e]; decide), if_neg (by decide)]
        have hB : R1_Behind F (membI h) (j : Int) = some ((memb h ++ [j]).map fun (x : Nat) => (x : Int)) := by
          unfold R1_Behind appL app
          rw [if_pos (by simp; omega), Option.bind_some, if_pos (by simp; omega), Option.bind_some, List.map_append]; rfl
        have hmay := mayR_ev (F := F) (ms := memb h ++ [j]) (s := h ||| 2 ^ j) h6 hl h24 hF2 (by rw [List.length_append]; simp; omega) fun i => by
          rw [or_bit, List.mem_append, mem_memb (by omega), List.mem_singleton]
        rw [hB, Option.bind_some, hmay, Option.bind_some, hfull j c e, if_neg (by decide), Option.bind_some, if_neg (by decide)]
        exact tk_L2 h6 hl h24 hF2 hh hfull g (j+1) (by omega) (by omega)
      · rw [decide_eq_true (hmem.2 e), if_pos rfl, Option.bind_some, if_neg (by decide)]
        exact tk_L2 h6 hl h24 hF2 hh hfull g (j+1) (by omega) (by omega)
    · rw [if_neg (by omega)]; exact ⟨_, rfl⟩
theorem take_ev (hF : ∀ r ∈ l, r.length < F) (hF2 : 300 ≤ F) (hL : ∀ r ∈ l, r.length ≤ 9223372036854775807) (hW : ws.length < F) (hW2 : ws.length ≤ 9223372036854775807) : L4_RankTake F n l ws = some true := by
  unfold L4_RankTake
  rw [fact_ev hF2, Option.bind_some, if_pos rfl]
  by_cases hw : errW n l ws = 0
  · obtain ⟨h, w1, w2⟩ := errW_zero hw
    have hwo : rank_worth F n l ws = some 0 := by rw [worth_ev hF hF2 hL hW hW2, hw]
    have hli := lists_ev (F := F) (n := n) hF hF2 hL
    rw [h] at hli
    obtain ⟨k, rfl, h1, h6, h24, hl⟩ := errR_zero h
    have hp := Nat.pow_le_pow_right (n := 2) (by omega) h6
    obtain ⟨ord, o1, o2, o3, o4, o5⟩ := greedy_ev h1 h6 hl h24 hF2 hwo (by omega) w2
    obtain ⟨h, hhe⟩ : ∃ h, G (mayB l) ord 0 = h := ⟨_, rfl⟩
    have hmay : mayB l h = true := by rw [← hhe]; exact G_may ord 0 may_zero
    have hfull : ∀ i, i < k → h.testBit i = false → mayB l (h ||| 2 ^ i) = false := fun i hi hb => by
      rw [← hhe] at hb ⊢; exact G_full (may_down hl) ord 0 i ((o2 i).2 hi) hb
    rw [hhe] at o4 o5
    have hm := mb16 h
    have hml : (membI h).length ≤ 16 := by unfold membI; rw [List.length_map]; exact hm
    have hin : allIn (membI h) 0 ((k : Int) - 1) = true := List.all_eq_true.2 fun x hx => by
      obtain ⟨i, hi, rfl⟩ := List.mem_map.1 hx
      have := bits_lt o5 ((mem_memb (by omega)).1 hi)
      exact decide_eq_true ⟨by simp, by show (i : Int) ≤ _; omega⟩
    have hnd : (membI h).Nodup := by
      unfold membI
      rw [List.Nodup, List.pairwise_map]
      exact (nd_memb h).imp fun {a b} hne e => hne (by have e : (a : Int) = (b : Int) := e; omega)
    have hM := mayR_ev (F := F) (ms := memb h) (s := h) h6 hl h24 hF2 (by omega) fun i => mem_memb (by omega)
    obtain ⟨x, hx⟩ := tk_L1 (F := F) (k := k) (ms := memb h) (by omega) w2 (fun x hx => bits_lt o5 ((mem_memb (by omega)).1 hx)) (by omega) F 0 0 (by omega) (by omega) (by omega) (by omega)
    obtain ⟨y, hy⟩ := tk_L2 (F := F) h6 hl h24 hF2 o5 hfull F 0 (by omega) (by omega)
    rw [List.drop_zero, Int.zero_add] at hx
    have hMI : (memb h).map (fun (x : Nat) => (x : Int)) = membI h := rfl
    rw [hMI] at hM hx
    rw [o4, Option.bind_some]
    dsimp only
    rw [if_neg (by decide), hli, Option.bind_some, if_neg (by decide), if_neg (by simp; omega), Option.bind_some, if_neg (by decide), w64 (by omega) (by omega), R1_AllG_ev _ _ (by omega) (by omega), Option.bind_some, hin, if_pos rfl, Option.bind_some, if_neg (by decide),
      R1_TwiceF_ev (by omega) (by omega), Option.bind_some, decide_eq_false (fun q => q hnd), if_neg (by decide), Option.bind_some, if_neg (by decide), hM, hmay, Option.bind_some, if_pos rfl, Option.bind_some, if_neg (by decide),
      show L4_RankTake_L1 F ws (membI h) F 0 0 = _ from hx, Option.bind_some, show L4_RankTake_L2 F (k : Int) l (membI h) F 0 = _ from hy, Option.bind_some]
    dsimp only
    rw [if_pos (by rw [beq_iff_eq])]; rfl
  · rw [greedy_bad hF hF2 hL hW hW2 hw, Option.bind_some]
    dsimp only
    rw [if_pos (by rw [bne_iff_ne]; exact hw)]; rfl
end
def mxL (l : List (List Int)) : Nat := l.foldr (fun r a => r.length + a) 0
theorem mxL_lt : ∀ {l : List (List Int)} {r : List Int}, r ∈ l → r.length ≤ mxL l
  | a :: l, r, h => by
    show r.length ≤ a.length + mxL l
    rcases List.mem_cons.1 h with rfl | h
    · omega
    · have := mxL_lt h; omega
theorem rankRado_any (w : World) (n : Int) (hn : (Lit.int .i64 n).wf = true) (A : Option Addr) (cap : Nat) (l : List (List Int)) (hr : ReadsR w w.heap.size A l ∧ l.length ≤ maxLen ∧ ∀ r ∈ l, r.length ≤ maxLen ∧ ∀ n ∈ r, (Lit.int .i64 n).wf = true)
    (A2 : Option Addr) (cap2 : Nat) (ws : List Int) (hr2 : ReadsI w w.heap.size A2 ws ∧ ws.length ≤ maxLen ∧ ∀ n ∈ ws, (Lit.int .i64 n).wf = true) :
    Calls Try.prog 3 #[.int .i64 n, .slice A l.length cap, .slice A2 ws.length cap2] w fun e w' => e = .returned (.bool true) ∧ Below w.heap.size w w' :=
  L4_RankRado_ok (F := 300 + mxL l + ws.length) w cap hr.1 cap2 hr2.1 (rado_ev (fun r hr' => by have := mxL_lt hr'; omega) (by omega) (fun r hr' => by have := (hr.2.2 r hr').1; unfold maxLen at this; omega) (by omega) (by have := hr2.2.1; unfold maxLen at this; omega))
theorem rankTake_any (w : World) (n : Int) (hn : (Lit.int .i64 n).wf = true) (A : Option Addr) (cap : Nat) (l : List (List Int)) (hr : ReadsR w w.heap.size A l ∧ l.length ≤ maxLen ∧ ∀ r ∈ l, r.length ≤ maxLen ∧ ∀ n ∈ r, (Lit.int .i64 n).wf = true)
    (A2 : Option Addr) (cap2 : Nat) (ws : List Int) (hr2 : ReadsI w w.heap.size A2 ws ∧ ws.length ≤ maxLen ∧ ∀ n ∈ ws, (Lit.int .i64 n).wf = true) :
    Calls Try.prog 5 #[.int .i64 n, .slice A l.length cap, .slice A2 ws.length cap2] w fun e w' => e = .returned (.bool true) ∧ Below w.heap.size w w' :=
  L4_RankTake_ok (F := 300 + mxL l + ws.length) w cap hr.1 cap2 hr2.1 (take_ev (fun r hr' => by have := mxL_lt hr'; omega) (by omega) (fun r hr' => by have := (hr.2.2 r hr').1; unfold maxLen at this; omega) (by omega) (by have := hr2.2.1; unfold maxLen at this; omega))
end Go.Proofs.Ytfaemblfffbmfaa
