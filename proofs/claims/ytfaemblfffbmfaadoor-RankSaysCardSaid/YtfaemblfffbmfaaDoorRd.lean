import Derived.Test.YtfaemblfffbmfaaDoorRc
/- what Fair, Greedy and Best come to -/
set_option linter.all false
set_option maxRecDepth 100000
namespace Go.Proofs.YtfaemblfffbmfaaDoor
open Go.RowKit Pl
section
variable {F k : Nat} {l : List (List Int)}
theorem may_zero : mayB l 0 = true := rfl
theorem may_down (hl : Rw k l) : Down (mayB l) := fun a b h ha => by
  rcases (mayB_iff hl).1 ha with rfl | ⟨r, hr, hb⟩
  · have : b = 0 := by
      apply Nat.eq_of_testBit_eq
      intro i
      cases e : b.testBit i
      · rw [Nat.zero_testBit]
      · have := h i e; rw [Nat.zero_testBit] at this; cases this
    subst this; rfl
  · exact (mayB_iff hl).2 (.inr ⟨r, hr, fun i hi => hb i (h i hi)⟩)
theorem sumL_bd {w : Nat → Int} (hw : ∀ i, 0 ≤ w i ∧ w i ≤ 20) : ∀ l : List Nat, 0 ≤ sumL w l ∧ sumL w l ≤ 20 * (l.length : Int)
  | [] => by simp [sumL]
  | a :: l => by
    have := sumL_bd hw l; have := hw a
    simp only [sumL, List.length_cons]; omega
theorem mb16 (s : Nat) : (memb s).length ≤ 16 := by unfold memb; have := List.length_filter_le (fun i => s.testBit i) (List.range 16); simpa using this
theorem W_bd {w : Nat → Int} (hw : ∀ i, 0 ≤ w i ∧ w i ≤ 20) (s : Nat) : 0 ≤ sumL w (memb s) ∧ sumL w (memb s) ≤ 320 := by
  have := sumL_bd hw (memb s); have := mb16 s; omega
theorem W_more {w : Nat → Int} {h i : Nat} (hh : h < 65536) (hi : i < 16) (hb : h.testBit i = false) : sumL w (memb (h ||| 2 ^ i)) = sumL w (memb h) + w i := by
  have h2 : h ||| 2 ^ i < 65536 := Nat.or_lt_two_pow (n := 16) hh (Nat.pow_lt_pow_right (by omega) hi)
  have e : sumL w (memb (h ||| 2 ^ i)) = sumL w (i :: memb h) := sum_ext w (nd_memb _) (List.nodup_cons.2 ⟨(fun q => by rw [mem_memb hh, hb] at q; cases q), nd_memb _⟩) fun x => by
    rw [mem_memb h2, or_bit, List.mem_cons, mem_memb hh]; exact or_comm
  rw [e]; simp only [sumL]; omega
def wof (ws : List Int) (i : Nat) : Int := ws.getD i 0
theorem wof_bd {ws : List Int} (h : allIn ws 0 20 = true) (i : Nat) : 0 ≤ wof ws i ∧ wof ws i ≤ 20 := by
  unfold wof
  by_cases hi : i < ws.length
  · have : ws.getD i 0 = ws[i] := by simp [List.getD, hi]
    rw [this]
    exact of_decide_eq_true (List.all_eq_true.1 h _ (List.getElem_mem hi))
  · simp [List.getD, List.getElem?_eq_none (Nat.le_of_not_lt hi)]
def errW (n : Int) (l : List (List Int)) (ws : List Int) : Int := if errR n l ≠ 0 then errR n l else if (ws.length : Int) ≠ n then 3 else if allIn ws 0 20 = true then 0 else 1
variable {n : Int} {ws : List Int}
theorem worth_ev (hF : ∀ r ∈ l, r.length < F) (hF2 : 300 ≤ F) (hL : ∀ r ∈ l, r.length ≤ 9223372036854775807) (hW : ws.length < F) (hW2 : ws.length ≤ 9223372036854775807) : rank_worth F n l ws = some (errW n l ws) := by
  unfold rank_worth errW
  rw [check_ev hF hF2 hL, Option.bind_some, core_AllG_ev 0 20 hW hW2, Option.bind_some]
  by_cases h : errR n l = 0
  · rw [h]
    show (if ((ws.length : Int) != n) = true then some (3 : Int) else (if allIn ws 0 20 = true then some 0 else some 1)) = some (if (ws.length : Int) ≠ n then 3 else if allIn ws 0 20 = true then 0 else 1)
    by_cases h2 : (ws.length : Int) = n
    · rw [if_neg (show ¬ ((ws.length : Int) != n) = true by simp [h2]), if_neg (show ¬ ((ws.length : Int) ≠ n) by simp [h2])]
      cases allIn ws 0 20 <;> rfl
    · rw [if_pos (show ((ws.length : Int) != n) = true by rw [bne_iff_ne]; exact h2), if_pos h2]
  · rw [if_pos (show (errR n l != 0) = true by rw [bne_iff_ne]; exact h), if_pos h]
theorem errW_zero (h : errW n l ws = 0) : errR n l = 0 ∧ (ws.length : Int) = n ∧ allIn ws 0 20 = true := by
  unfold errW at h
  split at h
  · rename_i q; exact absurd h q
  · rename_i q
    split at h
    · cases h
    · rename_i q2
      split at h
      · rename_i q3
        exact ⟨Classical.byContradiction q, Classical.byContradiction q2, q3⟩
      · cases h
theorem ixN {ord : List Nat} {j : Nat} (h : j < ord.length) : ix (ord.map fun (x : Nat) => (x : Int)) (j : Int) = some ((ord[j] : Nat) : Int) := by
  rw [ix_nat (by rw [List.length_map]; exact h), List.getElem_map]
/-! ### Greedy -/
theorem gr_L1 (h1 : 1 ≤ k) (h6 : k ≤ 6) (hl : Rw k l) (h24 : l.length ≤ 24) (hF : 300 ≤ F) (hw : ws.length = k) (hws : allIn ws 0 20 = true) {ord : List Nat} (hn : ord.Nodup) (hord : ∀ x, x ∈ ord ↔ x < k) : ∀ (g j : Nat), ord.length < j + g → j ≤ ord.length →
    rank_Greedy_L1 F l ws (ord.map fun (x : Nat) => (x : Int)) g (j : Int) (G (mayB l) (ord.take j) 0) (sumL (wof ws) (memb (G (mayB l) (ord.take j) 0))) = some (G (mayB l) ord 0, sumL (wof ws) (memb (G (mayB l) ord 0)))
  | 0, j, h, hj => by omega
  | g+1, j, h, hj => by
    have hlen : ord.length ≤ 6 := by
      have := nodup_len_le' hn (l' := List.range k) fun x hx => List.mem_range.2 ((hord x).1 hx)
      rw [List.length_range] at this; omega
    rw [rank_Greedy_L1_s, List.length_map]
    by_cases c : j < ord.length
    · have hi := (hord _).1 (List.getElem_mem c)
      have hnot : ord[j] ∉ ord.take j := by
        intro hm
        have hnd : (ord.take (j+1)).Nodup := hn.sublist (List.take_sublist _ _)
        rw [List.take_succ_eq_append_getElem c, List.nodup_append] at hnd
        exact hnd.2.2 _ hm _ (List.mem_singleton.2 rfl) rfl
      have hbit : (G (mayB l) (ord.take j) 0).testBit ord[j] = false := by
        cases e : (G (mayB l) (ord.take j) 0).testBit ord[j]
        · rfl
        · rcases G_from _ _ _ e with q | q
          · rw [Nat.zero_testBit] at q; cases q
          · exact absurd q hnot
      have hG : G (mayB l) (ord.take j) 0 < 65536 := by
        have : G (mayB l) (ord.take j) 0 < 2 ^ 16 := lt_bits fun x hx => by
          rcases G_from _ _ _ hx with q | q
          · rw [Nat.zero_testBit] at q; cases q
          · have := (hord x).1 (List.mem_of_mem_take q); omega
        exact this
      have hstep : G (mayB l) (ord.take (j+1)) 0 = gr (mayB l) (G (mayB l) (ord.take j) 0) ord[j] := by
        rw [List.take_succ_eq_append_getElem c, G_app]; rfl
      have hsum := W_bd (wof_bd hws) (G (mayB l) (ord.take j) 0)
      have hwi := wof_bd hws ord[j]
      obtain ⟨hh, hhe⟩ : ∃ hh, G (mayB l) (ord.take j) 0 = hh := ⟨_, rfl⟩
      rw [hhe] at hbit hG hstep hsum ⊢
      have h2 : hh ||| 2 ^ ord[j] < 65536 := Nat.or_lt_two_pow (n := 16) hG (Nat.pow_lt_pow_right (by omega) (by omega))
      have hsw : sWith hh ((ord[j] : Nat) : Int) = some (hh ||| 2 ^ ord[j]) := by unfold sWith; rw [if_pos ⟨hG, by omega, by omega⟩, Int.toNat_natCast]
      have hix : ix ws ((ord[j] : Nat) : Int) = some (wof ws ord[j]) := ix_at 0 (by omega)
      have ih := gr_L1 h1 h6 hl h24 hF hw hws hn hord g (j+1) (by omega) (by omega)
      rw [hstep] at ih
      rw [if_pos (by omega), ixN c, Option.bind_some, hsw, Option.bind_some, may_ev h6 hl h24 hF h2, Option.bind_some, w64n (by omega)]
      unfold gr at ih
      by_cases e : mayB l (hh ||| 2 ^ ord[j]) = true
      · rw [if_pos e, Option.bind_some, hix, Option.bind_some, w64 (by omega) (by omega), ← W_more hG (by omega) hbit]
        rw [if_pos e] at ih; exact ih
      · rw [if_neg e]
        rw [if_neg e] at ih; exact ih
    · have : j = ord.length := by omega
      subst this
      rw [if_neg (by omega), List.take_length]
theorem memb_below {k : Nat} (h : k ≤ 6) : membI (2 ^ k - 1) = (List.range k).map fun (x : Nat) => (x : Int) := by
  have : k = 0 ∨ k = 1 ∨ k = 2 ∨ k = 3 ∨ k = 4 ∨ k = 5 ∨ k = 6 := by omega
  rcases this with rfl | rfl | rfl | rfl | rfl | rfl | rfl <;> decide +kernel
theorem below_ev (h6 : k ≤ 6) : sBelow (k : Int) = some (2 ^ k - 1) := by unfold sBelow; rw [if_pos (by omega), Int.toNat_natCast]
theorem greedy_ev (h1 : 1 ≤ k) (h6 : k ≤ 6) (hl : Rw k l) (h24 : l.length ≤ 24) (hF : 300 ≤ F) (hwo : rank_worth F (k : Int) l ws = some 0) (hw : ws.length = k) (hws : allIn ws 0 20 = true) :
    ∃ ord : List Nat, ord.Nodup ∧ (∀ x, x ∈ ord ↔ x < k) ∧ (ord.Pairwise fun a b => wof ws b < wof ws a ∨ (wof ws a = wof ws b ∧ a < b)) ∧
      rank_Greedy F (k : Int) l ws = some (membI (G (mayB l) ord 0), sumL (wof ws) (memb (G (mayB l) ord 0)), 0) ∧ G (mayB l) ord 0 < 2 ^ k := by
  have hp := Nat.pow_le_pow_right (n := 2) (by omega) h6
  obtain ⟨ord, o1, o2, o3, o4⟩ := order_ev (F := F) h1 h6 hw
  have hG : G (mayB l) ord 0 < 2 ^ k := lt_bits fun j hj => by
    rcases G_from _ _ _ hj with q | q
    · rw [Nat.zero_testBit] at q; cases q
    · exact (o3 j).1 q
  have hlen : ord.length ≤ 6 := by
    have := nodup_len_le' o2 (l' := List.range k) fun x hx => List.mem_range.2 ((o3 x).1 hx)
    rw [List.length_range] at this; omega
  refine ⟨ord, o2, o3, o4, ?_, hG⟩
  have hL : sList (2 ^ k - 1) = some ((List.range k).map fun (x : Nat) => (x : Int)) := by unfold sList; rw [if_pos (by omega), memb_below h6]
  have hL2 : sList (G (mayB l) ord 0) = some (membI (G (mayB l) ord 0)) := by unfold sList; rw [if_pos (by omega)]
  have hloop : rank_Greedy_L1 F l ws (ord.map fun (x : Nat) => (x : Int)) F 0 0 0 = some (G (mayB l) ord 0, sumL (wof ws) (memb (G (mayB l) ord 0))) := by
    have q := gr_L1 h1 h6 hl h24 hF hw hws o2 o3 F 0 (by omega) (by omega)
    have hm0 : memb 0 = [] := by decide
    have e : G (mayB l) [] 0 = 0 := rfl
    rw [List.take_zero, e, hm0] at q
    exact q
  unfold rank_Greedy
  rw [hwo, Option.bind_some, if_neg (by decide), below_ev h6, Option.bind_some, hL, Option.bind_some, o1, Option.bind_some,
    hloop, Option.bind_some]
  dsimp only
  rw [hL2]; rfl
theorem greedy_bad (hF : ∀ r ∈ l, r.length < F) (hF2 : 300 ≤ F) (hL : ∀ r ∈ l, r.length ≤ 9223372036854775807) (hW : ws.length < F) (hW2 : ws.length ≤ 9223372036854775807) (h : errW n l ws ≠ 0) : rank_Greedy F n l ws = some ([], 0, errW n l ws) := by
  unfold rank_Greedy
  rw [worth_ev hF hF2 hL hW hW2, Option.bind_some, if_pos (by rw [bne_iff_ne]; exact h)]
/-! ### Best -/
theorem be_L2 (hw : ws.length = k) (hws : allIn ws 0 20 = true) : ∀ (xs : List Nat) (v : Int), (∀ x ∈ xs, x < k) → 0 ≤ v → v + 20 * (xs.length : Int) ≤ 10000 → rank_Best_L2 F ws xs v = some (v + sumL (wof ws) xs)
  | [], v, _, _, _ => by rw [rank_Best_L2_n]; simp [sumL]
  | x :: xs, v, hx, h0, hv => by
    have hxk := hx x List.mem_cons_self
    have hwx := wof_bd hws x
    have hix : ix ws (x : Int) = some (wof ws x) := ix_at 0 (by omega)
    rw [List.length_cons] at hv
    rw [rank_Best_L2_c, hix, Option.bind_some, w64 (by omega) (by omega), be_L2 hw hws xs _ (fun y hy => hx y (List.mem_cons_of_mem _ hy)) (by omega) (by omega)]
    simp only [sumL]; congr 1; omega
theorem be_L1 (h6 : k ≤ 6) (hl : Rw k l) (h24 : l.length ≤ 24) (hF : 300 ≤ F) (hw : ws.length = k) (hws : allIn ws 0 20 = true) : ∀ (g j : Nat) (v : Int), 2 ^ k < j + g → j ≤ 2 ^ k → (∀ s, s < j → mayB l s = true → sumL (wof ws) (memb s) ≤ v) → (∃ s, s < 2 ^ k ∧ mayB l s = true ∧ sumL (wof ws) (memb s) = v) →
    ∃ b, rank_Best_L1 F l ws (2 ^ k) g j v = some b ∧ (∀ s, s < 2 ^ k → mayB l s = true → sumL (wof ws) (memb s) ≤ b) ∧ ∃ s, s < 2 ^ k ∧ mayB l s = true ∧ sumL (wof ws) (memb s) = b
  | 0, j, v, h, hj, _, _ => by omega
  | g+1, j, v, h, hj, ha, he => by
    have hp := Nat.pow_le_pow_right (n := 2) (by omega) h6
    rw [rank_Best_L1_s]
    by_cases c : j < 2 ^ k
    · have hE : sEach j = some (memb j) := by unfold sEach; rw [if_pos (by omega)]
      have hI : sInc j 1 = some (j+1) := by unfold sInc; rw [if_pos ⟨by omega, rfl⟩]
      have hm16 := mb16 j
      have h2 := be_L2 (F := F) hw hws (memb j) 0 (fun x hx => bits_lt c ((mem_memb (by omega)).1 hx)) (by omega) (by omega)
      rw [if_pos c, hE, Option.bind_some, h2, Option.bind_some, Int.zero_add, may_ev h6 hl h24 hF (by omega), Option.bind_some, hI, Option.bind_some, Option.bind_some]
      by_cases hv : v < sumL (wof ws) (memb j)
      · rw [if_pos hv]
        by_cases hm : mayB l j = true
        · rw [if_pos hm, Option.bind_some, if_pos rfl]
          refine be_L1 h6 hl h24 hF hw hws g (j+1) _ (by omega) (by omega) (fun s hs hsm => ?_) ⟨j, c, hm, rfl⟩
          by_cases e : s = j
          · subst e; exact Int.le_refl _
          · have := ha s (by omega) hsm; omega
        · rw [if_neg hm, Option.bind_some, if_neg (by decide)]
          refine be_L1 h6 hl h24 hF hw hws g (j+1) _ (by omega) (by omega) (fun s hs hsm => ?_) he
          by_cases e : s = j
          · subst e; exact absurd hsm hm
          · exact ha s (by omega) hsm
      · rw [if_neg hv, Option.bind_some, if_neg (by decide)]
        refine be_L1 h6 hl h24 hF hw hws g (j+1) _ (by omega) (by omega) (fun s hs hsm => ?_) he
        by_cases e : s = j
        · subst e; omega
        · exact ha s (by omega) hsm
    · have : j = 2 ^ k := by omega
      subst this
      rw [if_neg c]
      exact ⟨v, rfl, ha, he⟩
theorem best_ev (h6 : k ≤ 6) (hl : Rw k l) (h24 : l.length ≤ 24) (hF : 300 ≤ F) (hwo : rank_worth F (k : Int) l ws = some 0) (hw : ws.length = k) (hws : allIn ws 0 20 = true) :
    ∃ b, rank_Best F (k : Int) l ws = some (b, 0) ∧ (∀ s, s < 2 ^ k → mayB l s = true → sumL (wof ws) (memb s) ≤ b) ∧ ∃ s, s < 2 ^ k ∧ mayB l s = true ∧ sumL (wof ws) (memb s) = b := by
  have hp := Nat.pow_le_pow_right (n := 2) (by omega) h6
  have hpos := Nat.two_pow_pos k
  have hm0 : memb 0 = [] := by decide
  obtain ⟨b, b1, b2, b3⟩ := be_L1 h6 hl h24 hF hw hws F 0 0 (by omega) (by omega) (fun s hs => by omega) ⟨0, hpos, may_zero, by rw [hm0]; rfl⟩
  refine ⟨b, ?_, b2, b3⟩
  have hI : sInc (2 ^ k - 1) 1 = some (2 ^ k) := by unfold sInc; rw [if_pos ⟨by omega, rfl⟩]; congr 1; omega
  unfold rank_Best
  rw [hwo, Option.bind_some, if_neg (by decide), below_ev h6, Option.bind_some, hI, Option.bind_some, b1]; rfl
theorem best_bad (hF : ∀ r ∈ l, r.length < F) (hF2 : 300 ≤ F) (hL : ∀ r ∈ l, r.length ≤ 9223372036854775807) (hW : ws.length < F) (hW2 : ws.length ≤ 9223372036854775807) (h : errW n l ws ≠ 0) : rank_Best F n l ws = some (0, errW n l ws) := by
  unfold rank_Best
  rw [worth_ev hF hF2 hL hW hW2, Option.bind_some, if_pos (by rw [bne_iff_ne]; exact h)]
/-! ### Fair -/
def Bad (m : Nat → Bool) (a b : Nat) : Prop := (memb a).length < (memb b).length ∧ m a = true ∧ m b = true ∧ ∀ i, b.testBit i = true → a.testBit i = false → m (a ||| 2 ^ i) = false
theorem fa_L2 (h6 : k ≤ 6) (hl : Rw k l) (h24 : l.length ≤ 24) (hF : 300 ≤ F) {a : Nat} (ha : a < 2 ^ k) : ∀ (g j : Nat), 2 ^ k < j + g → j ≤ 2 ^ k →
    ∃ y, rank_Fair_L2 F l a (2 ^ k) g j = some y ∧ ((∀ b, j ≤ b → b < 2 ^ k → ¬ Bad (mayB l) a b) → y = .inl ()) ∧ ((∃ b, j ≤ b ∧ b < 2 ^ k ∧ Bad (mayB l) a b) → y = .inr (false, 0))
  | 0, j, h, hj => by omega
  | g+1, j, h, hj => by
    have hp := Nat.pow_le_pow_right (n := 2) (by omega) h6
    rw [rank_Fair_L2_s]
    by_cases c : j < 2 ^ k
    · have hI : sInc j 1 = some (j+1) := by unfold sInc; rw [if_pos ⟨by omega, rfl⟩]
      have l1 : sLen a = some ((memb a).length : Int) := by unfold sLen; rw [if_pos (by omega)]
      have l2 : sLen j = some ((memb j).length : Int) := by unfold sLen; rw [if_pos (by omega)]
      have next : ¬ Bad (mayB l) a j → ∃ y, rank_Fair_L2 F l a (2 ^ k) g (j+1) = some y ∧ ((∀ b, j ≤ b → b < 2 ^ k → ¬ Bad (mayB l) a b) → y = .inl ()) ∧ ((∃ b, j ≤ b ∧ b < 2 ^ k ∧ Bad (mayB l) a b) → y = .inr (false, 0)) := fun hnb => by
        obtain ⟨y, y1, y2, y3⟩ := fa_L2 h6 hl h24 hF ha g (j+1) (by omega) (by omega)
        refine ⟨y, y1, fun q => y2 fun b hb => q b (by omega), fun ⟨b, b1, b2, b3⟩ => y3 ⟨b, ?_, b2, b3⟩⟩
        by_cases e : b = j
        · subst e; exact absurd b3 hnb
        · omega
      rw [if_pos c, l1, Option.bind_some, l2, Option.bind_some, may_ev h6 hl h24 hF (show a < 65536 by omega), Option.bind_some, may_ev h6 hl h24 hF (show j < 65536 by omega), Option.bind_some, hI, Option.bind_some]
      by_cases c1 : (memb j).length ≤ (memb a).length
      · rw [if_pos (by omega), Option.bind_some, if_pos rfl, Option.bind_some, if_pos rfl]
        exact next fun hb => by have := hb.1; omega
      · rw [if_neg (by omega)]
        cases c2 : mayB l a
        · rw [if_neg (by decide), Option.bind_some, if_pos rfl, Option.bind_some, if_pos rfl]
          exact next fun hb => by have := hb.2.1; rw [c2] at this; cases this
        · rw [if_pos rfl, Option.bind_some, if_neg (by decide)]
          cases c3 : mayB l j
          · rw [if_neg (by decide), Option.bind_some, if_pos rfl]
            exact next fun hb => by have := hb.2.2.1; rw [c3] at this; cases this
          · have hnd : ndiff j a < 65536 := Nat.lt_of_le_of_lt (ndiff_le _ _) (by omega)
            have hN : sNot j a = some (ndiff j a) := by unfold sNot; rw [if_pos ⟨by omega, by omega⟩]
            have hL : sList (ndiff j a) = some (membI (ndiff j a)) := by unfold sList; rw [if_pos hnd]
            have hml := mb16 (ndiff j a)
            have hmi : (membI (ndiff j a)).length ≤ 16 := by unfold membI; rw [List.length_map]; exact hml
            have hq : ∀ x ∈ membI (ndiff j a), (fun z14 => brambleweir_rank_Fair_1 F l a z14) x = some (mayB l (a ||| 2 ^ x.toNat)) := fun x hx => by
              obtain ⟨i, hi, rfl⟩ := List.mem_map.1 hx
              have hib := (mem_memb hnd).1 hi
              rw [ndiff_testBit, Bool.and_eq_true] at hib
              have hik := bits_lt c hib.1
              have hsw : sWith a (Int.ofNat i) = some (a ||| 2 ^ i) := by unfold sWith; rw [if_pos ⟨by omega, by simp, by simp; omega⟩]; rfl
              have h2 : a ||| 2 ^ i < 65536 := Nat.or_lt_two_pow (n := 16) (by omega) (Nat.pow_lt_pow_right (by omega) (by omega))
              show brambleweir_rank_Fair_1 F l a (Int.ofNat i) = _
              unfold brambleweir_rank_Fair_1
              rw [hsw, Option.bind_some, may_ev h6 hl h24 hF h2]; rfl
            rw [if_pos rfl, Option.bind_some, if_neg (by decide), hN, Option.bind_some, hL, Option.bind_some, slConG_ev hq (by omega) (by omega), Option.bind_some]
            cases c4 : (membI (ndiff j a)).any fun x => mayB l (a ||| 2 ^ x.toNat)
            · rw [if_neg (by decide)]
              have hb : Bad (mayB l) a j := ⟨by omega, c2, c3, fun i hi hni => by
                cases e : mayB l (a ||| 2 ^ i)
                · rfl
                · have hmem : ((i : Nat) : Int) ∈ membI (ndiff j a) := List.mem_map.2 ⟨i, (mem_memb hnd).2 (by rw [ndiff_testBit, hi, hni]; rfl), rfl⟩
                  have := List.any_eq_false.1 c4 _ hmem
                  rw [Int.toNat_natCast] at this
                  exact absurd e this⟩
              exact ⟨_, rfl, fun q => absurd hb (q j (Nat.le_refl _) c), fun _ => rfl⟩
            · rw [if_pos rfl]
              refine next fun hb => ?_
              obtain ⟨x, hx, hxm⟩ := List.any_eq_true.1 c4
              obtain ⟨i, hi, rfl⟩ := List.mem_map.1 hx
              have hib := (mem_memb hnd).1 hi
              rw [ndiff_testBit, Bool.and_eq_true, Bool.not_eq_true'] at hib
              have := hb.2.2.2 i hib.1 hib.2
              have e : (Int.ofNat i).toNat = i := rfl
              rw [e, this] at hxm; cases hxm
    · have : j = 2 ^ k := by omega
      subst this
      rw [if_neg c]
      exact ⟨_, rfl, fun _ => rfl, fun ⟨b, h1, h2, _⟩ => by omega⟩
theorem fa_L1 (h6 : k ≤ 6) (hl : Rw k l) (h24 : l.length ≤ 24) (hF : 300 ≤ F) : ∀ (g j : Nat), 2 ^ k < j + g → j ≤ 2 ^ k →
    ∃ y, rank_Fair_L1 F (k : Int) l (2 ^ k) g j = some y ∧ ((∀ a b, j ≤ a → a < 2 ^ k → b < 2 ^ k → ¬ Bad (mayB l) a b) → y = .inl ()) ∧ ((∃ a b, j ≤ a ∧ a < 2 ^ k ∧ b < 2 ^ k ∧ Bad (mayB l) a b) → y = .inr (false, 0))
  | 0, j, h, hj => by omega
  | g+1, j, h, hj => by
    have hp := Nat.pow_le_pow_right (n := 2) (by omega) h6
    have hpos := Nat.two_pow_pos k
    rw [rank_Fair_L1_s]
    by_cases c : j < 2 ^ k
    · have hI : sInc j 1 = some (j+1) := by unfold sInc; rw [if_pos ⟨by omega, rfl⟩]
      have hI2 : sInc (2 ^ k - 1) 1 = some (2 ^ k) := by unfold sInc; rw [if_pos ⟨by omega, rfl⟩]; congr 1; omega
      obtain ⟨y, y1, y2, y3⟩ := fa_L2 h6 hl h24 hF c F 0 (by omega) (by omega)
      rw [if_pos c, below_ev h6, Option.bind_some, hI2, Option.bind_some, y1, Option.bind_some]
      by_cases hb : ∃ b, b < 2 ^ k ∧ Bad (mayB l) j b
      · obtain ⟨b, b1, b2⟩ := hb
        rw [y3 ⟨b, by omega, b1, b2⟩]
        exact ⟨_, rfl, fun q => absurd b2 (q j b (Nat.le_refl _) c b1), fun _ => rfl⟩
      · rw [y2 fun b _ h2 h3 => hb ⟨b, h2, h3⟩]
        dsimp only
        rw [hI, Option.bind_some]
        obtain ⟨z, z1, z2, z3⟩ := fa_L1 h6 hl h24 hF g (j+1) (by omega) (by omega)
        refine ⟨z, z1, fun q => z2 fun a b ha => q a b (by omega), fun ⟨a, b, h1, h2, h3, h4⟩ => z3 ⟨a, b, ?_, h2, h3, h4⟩⟩
        by_cases e : a = j
        · subst e; exact absurd ⟨b, h3, h4⟩ hb
        · omega
    · have : j = 2 ^ k := by omega
      subst this
      rw [if_neg c]
      exact ⟨_, rfl, fun _ => rfl, fun ⟨a, b, h1, h2, _⟩ => by omega⟩
theorem fairP_iff {m : Nat → Bool} : FairP m k ↔ ∀ a b, a < 2 ^ k → b < 2 ^ k → ¬ Bad m a b := by
  constructor
  · intro h a b ha hb ⟨h1, h2, h3, h4⟩
    obtain ⟨i, i1, i2, i3⟩ := h a b ha hb h1 h2 h3
    rw [h4 i i1 i2] at i3; cases i3
  · intro h a b ha hb h1 h2 h3
    apply Classical.byContradiction
    intro hn
    refine h a b ha hb ⟨h1, h2, h3, fun i i1 i2 => ?_⟩
    cases e : m (a ||| 2 ^ i)
    · rfl
    · exact absurd ⟨i, i1, i2, e⟩ hn
theorem fair_ev (h1 : 1 ≤ k) (h6 : k ≤ 6) (hl : Rw k l) (h24 : l.length ≤ 24) (hF : 300 ≤ F) (hch : rank_Check F (k : Int) l = some 0) : ∃ f, rank_Fair F (k : Int) l = some (f, 0) ∧ (f = true ↔ FairP (mayB l) k) := by
  have hp := Nat.pow_le_pow_right (n := 2) (by omega) h6
  have hpos := Nat.two_pow_pos k
  have hI2 : sInc (2 ^ k - 1) 1 = some (2 ^ k) := by unfold sInc; rw [if_pos ⟨by omega, rfl⟩]; congr 1; omega
  obtain ⟨y, y1, y2, y3⟩ := fa_L1 h6 hl h24 hF F 0 (by omega) (by omega)
  unfold rank_Fair
  rw [hch, Option.bind_some, if_neg (by decide), below_ev h6, Option.bind_some, hI2, Option.bind_some, y1, Option.bind_some]
  by_cases hb : ∃ a b, a < 2 ^ k ∧ b < 2 ^ k ∧ Bad (mayB l) a b
  · obtain ⟨a, b, q1, q2, q3⟩ := hb
    rw [y3 ⟨a, b, by omega, q1, q2, q3⟩]
    exact ⟨false, rfl, by rw [fairP_iff]; exact ⟨fun h => (by cases h), fun h => absurd q3 (h a b q1 q2)⟩⟩
  · rw [y2 fun a b _ h1 h2 h3 => hb ⟨a, b, h1, h2, h3⟩]
    exact ⟨true, rfl, by rw [fairP_iff]; exact ⟨fun _ a b q1 q2 q3 => hb ⟨a, b, q1, q2, q3⟩, fun _ => rfl⟩⟩
theorem fair_bad (hF : ∀ r ∈ l, r.length < F) (hF2 : 300 ≤ F) (hL : ∀ r ∈ l, r.length ≤ 9223372036854775807) (h : errR n l ≠ 0) : rank_Fair F n l = some (false, errR n l) := by
  unfold rank_Fair
  rw [check_ev hF hF2 hL, Option.bind_some, if_pos (by rw [bne_iff_ne]; exact h)]
end
end Go.Proofs.YtfaemblfffbmfaaDoor
