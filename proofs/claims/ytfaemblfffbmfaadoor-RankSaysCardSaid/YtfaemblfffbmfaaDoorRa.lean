import Derived.Test.YtfaemblfffbmfaaDoorEv2
import Derived.Test.YtfaemblfffbmfaaDoorR3
import Derived.Test.YtfaemblfffbmfaaDoorR4
import Derived.Test.YtfaemblfffbmfaaDoorR6
import Derived.Test.YtfaemblfffbmfaaDoorR7
/- what the functions of rank come to, whatever the fuel -/
set_option linter.all false
set_option maxRecDepth 100000
namespace Go.Proofs.YtfaemblfffbmfaaDoor
open Go.RowKit Pl
theorem core_AllG_L1 (F : Nat) (l : List Int) (a b : Int) (hl : l.length ≤ 9223372036854775807) : ∀ g k, l.length < g + k → k ≤ l.length →
    core_All_L1 F l a b g (k : Int) = some (if allIn (l.drop k) a b then .inl () else .inr false)
  | 0, k, h, hk => by omega
  | g+1, k, h, hk => by
    rw [core_All_L1_s]
    by_cases hlt : k < l.length
    · rw [if_pos (by omega), ix_nat hlt, Option.bind_some, core_Within_ev, Option.bind_some, List.drop_eq_getElem_cons hlt, w64n (by omega), core_AllG_L1 F l a b hl g (k+1) (by omega) (by omega)]
      unfold allIn
      rw [List.all_cons]
      cases decide (a ≤ l[k] ∧ l[k] ≤ b) <;> simp
    · have : k = l.length := by omega
      rw [if_neg (by omega), this, List.drop_length]; rfl
theorem core_AllG_ev {F : Nat} {l : List Int} (a b : Int) (hF : l.length < F) (hl : l.length ≤ 9223372036854775807) : core_All F l a b = some (allIn l a b) := by
  unfold core_All
  rw [show (0 : Int) = ((0 : Nat) : Int) from rfl, core_AllG_L1 F l a b hl F 0 (by omega) (by omega), List.drop_zero]
  cases allIn l a b <;> simp
theorem R1_AllG_L1 (F : Nat) (l : List Int) (a b : Int) (hl : l.length ≤ 9223372036854775807) : ∀ g k, l.length < g + k → k ≤ l.length →
    R1_All_L1 F l a b g (k : Int) = some (if allIn (l.drop k) a b then .inl (l.length : Int) else .inr false)
  | 0, k, h, hk => by omega
  | g+1, k, h, hk => by
    rw [R1_All_L1_s]
    by_cases hlt : k < l.length
    · rw [if_pos (by omega), ix_nat hlt, Option.bind_some, R1_in_ev, Option.bind_some, List.drop_eq_getElem_cons hlt, w64n (by omega), R1_AllG_L1 F l a b hl g (k+1) (by omega) (by omega)]
      unfold allIn
      rw [List.all_cons]
      cases decide (a ≤ l[k] ∧ l[k] ≤ b) <;> simp
    · have : k = l.length := by omega
      rw [if_neg (by omega), this, List.drop_length]; rfl
theorem R1_AllG_ev {F : Nat} {l : List Int} (a b : Int) (hF : l.length < F) (hl : l.length ≤ 9223372036854775807) : R1_All F l a b = some (allIn l a b) := by
  unfold R1_All
  rw [show (0 : Int) = ((0 : Nat) : Int) from rfl, R1_AllG_L1 F l a b hl F 0 (by omega) (by omega), List.drop_zero]
  cases allIn l a b <;> simp
/-! ### the library's functions -/
section
variable {F : Nat}
theorem slIndexF_L1 (l : List Int) (x : Int) (hl : l.length ≤ 9223372036854775807) : ∀ g k, l.length < g + k → k ≤ l.length →
    slices_Index_int_int_L1 F l x g (k : Int) = some (if x ∈ l.drop k then .inr (((k + (l.drop k).idxOf x : Nat)) : Int) else .inl ())
  | 0, k, h, hk => by omega
  | g+1, k, h, hk => by
    rw [slices_Index_int_int_L1_s]
    by_cases hlt : k < l.length
    · have hd := List.drop_eq_getElem_cons hlt
      rw [if_pos (by omega), ix_nat hlt, Option.bind_some]
      by_cases e : x = l[k]
      · rw [if_pos (by simpa using e), hd, ← e, if_pos List.mem_cons_self]
        simp
      · rw [if_neg (by simpa using e), w64n (by omega), slIndexF_L1 l x hl g (k+1) (by omega) (by omega), hd]
        have : (x ∈ l[k] :: l.drop (k+1)) ↔ x ∈ l.drop (k+1) := by
          rw [List.mem_cons]; exact ⟨fun h => h.resolve_left e, .inr⟩
        by_cases hm : x ∈ l.drop (k+1)
        · have hb : (l[k] == x) = false := beq_eq_false_iff_ne.2 fun h => e h.symm
          rw [if_pos hm, if_pos (this.2 hm), List.idxOf_cons, hb]
          show some (Sum.inr _) = some (Sum.inr _)
          congr 2
          simp only [cond_false]
          omega
        · rw [if_neg hm, if_neg (fun h => hm (this.1 h))]
    · have : k = l.length := by omega
      rw [if_neg (by omega), this, List.drop_length]; rfl
theorem slContF_ev {l : List Int} (x : Int) (hF : l.length < F) (hl : l.length ≤ 9223372036854775807) : slices_Contains_int_int F l x = some (decide (x ∈ l)) := by
  unfold slices_Contains_int_int slices_Index_int_int
  rw [show slices_Index_int_int_L1 F l x F 0 = _ from slIndexF_L1 l x hl F 0 (by omega) (by omega), List.drop_zero]
  by_cases h : x ∈ l
  · rw [if_pos h, decide_eq_true h, Option.bind_some, Option.bind_some, if_pos (by omega)]; rfl
  · rw [if_neg h, decide_eq_false h, Option.bind_some, Option.bind_some, if_neg (by omega)]; rfl
theorem slIdxG_L1 (l : List Int) (p : Int → Option Bool) (q : Int → Bool) (hp : ∀ x ∈ l, p x = some (q x)) (hl : l.length ≤ 9223372036854775807) : ∀ g k, l.length < g + k → k ≤ l.length →
    ∃ y, slices_IndexFunc_int_int_L1 F l p g (k : Int) = some y ∧ ((l.drop k).any q = true → ∃ i : Nat, y = .inr (i : Int)) ∧ ((l.drop k).any q = false → y = .inl ())
  | 0, k, h, hk => by omega
  | g+1, k, h, hk => by
    rw [slices_IndexFunc_int_int_L1_s]
    by_cases hlt : k < l.length
    · have hd := List.drop_eq_getElem_cons hlt
      rw [if_pos (by omega), ix_nat hlt, Option.bind_some, hp _ (List.getElem_mem hlt), Option.bind_some, hd, List.any_cons]
      cases e : q l[k]
      · rw [if_neg (by decide), w64n (by omega), Bool.false_or]
        exact slIdxG_L1 l p q hp hl g (k+1) (by omega) (by omega)
      · rw [if_pos rfl, Bool.true_or]
        exact ⟨_, rfl, fun _ => ⟨k, rfl⟩, fun h => by cases h⟩
    · have : k = l.length := by omega
      subst this
      rw [if_neg (by omega), List.drop_length]
      exact ⟨_, rfl, fun h => (by cases h), fun _ => rfl⟩
theorem slConG_ev {l : List Int} {p : Int → Option Bool} {q : Int → Bool} (hp : ∀ x ∈ l, p x = some (q x)) (hF : l.length < F) (hl : l.length ≤ 9223372036854775807) : slices_ContainsFunc_int_int F l p = some (l.any q) := by
  unfold slices_ContainsFunc_int_int slices_IndexFunc_int_int
  obtain ⟨y, h1, h2, h3⟩ := slIdxG_L1 (F := F) l p q hp hl F 0 (by omega) (by omega)
  rw [List.drop_zero] at h2 h3
  rw [show slices_IndexFunc_int_int_L1 F l p F 0 = _ from h1, Option.bind_some]
  cases e : l.any q
  · rw [h3 e]; rfl
  · obtain ⟨i, rfl⟩ := h2 e
    show ((if (0 : Int) ≤ (i : Int) then some true else some false).bind fun b1 => some b1) = some true
    rw [if_pos (by omega)]; rfl
theorem slIdxR_L1 (l : List (List Int)) (p : List Int → Option Bool) (q : List Int → Bool) (hp : ∀ x ∈ l, p x = some (q x)) (hl : l.length ≤ 9223372036854775807) : ∀ g k, l.length < g + k → k ≤ l.length →
    ∃ y, slices_IndexFunc_rows_L1 F l p g (k : Int) = some y ∧ ((l.drop k).any q = true → ∃ i : Nat, y = .inr (i : Int)) ∧ ((l.drop k).any q = false → y = .inl ())
  | 0, k, h, hk => by omega
  | g+1, k, h, hk => by
    rw [slices_IndexFunc_rows_L1_s]
    by_cases hlt : k < l.length
    · have hd := List.drop_eq_getElem_cons hlt
      rw [if_pos (by omega), ix_nat hlt, Option.bind_some, hp _ (List.getElem_mem hlt), Option.bind_some, hd, List.any_cons]
      cases e : q l[k]
      · rw [if_neg (by decide), w64n (by omega), Bool.false_or]
        exact slIdxR_L1 l p q hp hl g (k+1) (by omega) (by omega)
      · rw [if_pos rfl, Bool.true_or]
        exact ⟨_, rfl, fun _ => ⟨k, rfl⟩, fun h => by cases h⟩
    · have : k = l.length := by omega
      subst this
      rw [if_neg (by omega), List.drop_length]
      exact ⟨_, rfl, fun h => (by cases h), fun _ => rfl⟩
theorem slConR_ev {l : List (List Int)} {p : List Int → Option Bool} {q : List Int → Bool} (hp : ∀ x ∈ l, p x = some (q x)) (hF : l.length < F) (hl : l.length ≤ 9223372036854775807) : slices_ContainsFunc_rows F l p = some (l.any q) := by
  unfold slices_ContainsFunc_rows slices_IndexFunc_rows
  obtain ⟨y, h1, h2, h3⟩ := slIdxR_L1 (F := F) l p q hp hl F 0 (by omega) (by omega)
  rw [List.drop_zero] at h2 h3
  rw [show slices_IndexFunc_rows_L1 F l p F 0 = _ from h1, Option.bind_some]
  cases e : l.any q
  · rw [h3 e]; rfl
  · obtain ⟨i, rfl⟩ := h2 e
    show ((if (0 : Int) ≤ (i : Int) then some true else some false).bind fun b1 => some b1) = some true
    rw [if_pos (by omega)]; rfl
/-! ### what is wrong -/
def errRs (n : Int) : List (List Int) → Int
  | [] => 0
  | r :: l => if allIn r 0 (n-1) = true then (if r.Nodup then errRs n l else 6) else 1
def errR (n : Int) (l : List (List Int)) : Int := if ¬ (1 ≤ n ∧ n ≤ 6) then 1 else if 24 < l.length then 4 else errRs n l
theorem take_nd {os : List Int} {j : Nat} (hlt : j < os.length) (hn : (os.take j).Nodup) : (os[j] ∈ os.take j → ¬ os.Nodup) ∧ (os[j] ∉ os.take j → (os.take (j+1)).Nodup) := by
  have hs : os.take (j+1) = os.take j ++ [os[j]] := by rw [List.take_succ_eq_append_getElem hlt]
  refine ⟨fun hm q => ?_, fun hm => ?_⟩
  · have : (os.take (j+1)).Nodup := List.Nodup.sublist (List.take_sublist _ _) q
    rw [hs, List.nodup_append] at this
    exact this.2.2 _ hm _ (List.mem_singleton.2 rfl) rfl
  · rw [hs, List.nodup_append]
    exact ⟨hn, by simp, fun x hx y hy e => by rw [List.mem_singleton.1 hy] at e; subst e; exact hm hx⟩
theorem rc_L2 {r : List Int} (hF : r.length < F) (hl : r.length ≤ 9223372036854775807) : ∀ (g j : Nat), r.length < j + g → j ≤ r.length → (r.take j).Nodup →
    rank_Check_L2 F r g (j : Int) = some (if r.Nodup then .inl () else .inr 6)
  | 0, j, h, hj, _ => by omega
  | g+1, j, h, hj, hn => by
    rw [rank_Check_L2_s]
    by_cases hlt : j < r.length
    · have htk : tk r (j : Int) = some (r.take j) := by unfold tk; rw [if_pos (by omega), Int.toNat_natCast]
      have hc := slContF_ev (F := F) (l := r.take j) r[j] (by rw [List.length_take]; omega) (by rw [List.length_take]; omega)
      obtain ⟨n1, n2⟩ := take_nd hlt hn
      rw [if_pos (by omega), ix_nat hlt, Option.bind_some, htk, Option.bind_some, hc, Option.bind_some, w64n (by omega)]
      by_cases hm : r[j] ∈ r.take j
      · rw [decide_eq_true hm, if_pos rfl, if_neg (n1 hm)]
      · rw [decide_eq_false hm, if_neg (by decide)]
        exact rc_L2 hF hl g (j+1) (by omega) (by omega) (n2 hm)
    · have : j = r.length := by omega
      subst this
      rw [List.take_length] at hn
      rw [if_neg (by omega), if_pos hn]
theorem tw_ev {r : List Int} (hF : r.length < F) (hl : r.length ≤ 9223372036854775807) : ∀ (g j : Nat), r.length < j + g → j ≤ r.length → (r.take j).Nodup →
    ∃ y, R1_Twice_L1 F r g (j : Int) = some y ∧ (r.Nodup → ∃ i, y = .inl i) ∧ (¬ r.Nodup → y = .inr true)
  | 0, j, h, hj, _ => by omega
  | g+1, j, h, hj, hn => by
    rw [R1_Twice_L1_s]
    by_cases hlt : j < r.length
    · have htk : tk r (j : Int) = some (r.take j) := by unfold tk; rw [if_pos (by omega), Int.toNat_natCast]
      have hc := R1_Has_ev (F := F) (l := r.take j) r[j] (by rw [List.length_take]; omega) (by rw [List.length_take]; omega)
      obtain ⟨n1, n2⟩ := take_nd hlt hn
      rw [if_pos (by omega), htk, Option.bind_some, ix_nat hlt, Option.bind_some, hc, Option.bind_some, w64n (by omega)]
      by_cases hm : r[j] ∈ r.take j
      · rw [decide_eq_true hm, if_pos rfl]
        exact ⟨_, rfl, fun q => absurd q (n1 hm), fun _ => rfl⟩
      · rw [decide_eq_false hm, if_neg (by decide)]
        exact tw_ev hF hl g (j+1) (by omega) (by omega) (n2 hm)
    · have : j = r.length := by omega
      subst this
      rw [List.take_length] at hn
      rw [if_neg (by omega)]
      exact ⟨_, rfl, fun _ => ⟨_, rfl⟩, fun q => absurd hn q⟩
theorem R1_TwiceF_ev {r : List Int} (hF : r.length < F) (hl : r.length ≤ 9223372036854775807) : R1_Twice F r = some (decide (¬ r.Nodup)) := by
  unfold R1_Twice
  obtain ⟨y, h1, h2, h3⟩ := tw_ev (F := F) hF hl F 0 (by omega) (by omega) (by simp)
  rw [show R1_Twice_L1 F r F 0 = _ from h1, Option.bind_some]
  by_cases h : r.Nodup
  · obtain ⟨i, rfl⟩ := h2 h
    rw [decide_eq_false (fun q => q h)]
  · rw [h3 h, decide_eq_true h]
variable {n : Int} {l : List (List Int)}
theorem rc_L1 (hn : 1 ≤ n ∧ n ≤ 6) (hF : ∀ r ∈ l, r.length < F) (hL : ∀ r ∈ l, r.length ≤ 9223372036854775807) (hl : l.length ≤ 24) : ∀ (g j : Nat), l.length < j + g → j ≤ l.length →
    rank_Check_L1 F n l g (j : Int) = some (if errRs n (l.drop j) = 0 then .inl () else .inr (errRs n (l.drop j)))
  | 0, j, h, hj => by omega
  | g+1, j, h, hj => by
    rw [rank_Check_L1_s]
    by_cases c : j < l.length
    · have hd := List.drop_eq_getElem_cons c
      have hm := List.getElem_mem c
      have hf := hF _ hm; have hL' := hL _ hm
      rw [if_pos (by omega), ix_nat c, Option.bind_some, w64 (by omega) (by omega), core_AllG_ev 0 (n-1) hf hL', Option.bind_some, hd]
      unfold errRs
      cases ha : allIn l[j] 0 (n-1)
      · simp
      · rw [if_pos rfl, if_pos rfl, show rank_Check_L2 F l[j] F 0 = _ from rc_L2 hf hL' F 0 (by omega) (by omega) (by simp), Option.bind_some]
        by_cases hnd : l[j].Nodup
        · rw [if_pos hnd, if_pos hnd]
          dsimp only
          rw [w64n (by omega)]
          exact rc_L1 hn hF hL hl g (j+1) (by omega) (by omega)
        · rw [if_neg hnd, if_neg hnd, if_neg (by decide)]
    · have : j = l.length := by omega
      subst this
      rw [if_neg (by omega), List.drop_length]; rfl
theorem check_ev (hF : ∀ r ∈ l, r.length < F) (hF2 : 300 ≤ F) (hL : ∀ r ∈ l, r.length ≤ 9223372036854775807) : rank_Check F n l = some (errR n l) := by
  unfold rank_Check errR
  rw [core_Within_ev, Option.bind_some]
  by_cases hn : 1 ≤ n ∧ n ≤ 6
  · rw [decide_eq_true hn, if_pos rfl, if_neg (show ¬ ¬ (1 ≤ n ∧ n ≤ 6) from fun h => h hn)]
    by_cases hl : 24 < l.length
    · rw [if_pos (by omega), if_pos hl]
    · rw [if_neg (by omega), if_neg hl, show rank_Check_L1 F n l F 0 = _ from rc_L1 hn hF hL (by omega) F 0 (by omega) (by omega), Option.bind_some, List.drop_zero]
      by_cases h : errRs n l = 0
      · rw [if_pos h, h]
      · rw [if_neg h]
  · rw [decide_eq_false hn, if_neg (by decide), if_pos hn]
theorem rl_L1 (hn : 1 ≤ n ∧ n ≤ 6) (hF : ∀ r ∈ l, r.length < F) (hL : ∀ r ∈ l, r.length ≤ 9223372036854775807) (hl : l.length ≤ 24) : ∀ (g j : Nat), l.length < j + g → j ≤ l.length →
    ∃ y, R3_Lists_L1 F n l g (j : Int) = some y ∧ (errRs n (l.drop j) = 0 → ∃ i, y = .inl i) ∧ (errRs n (l.drop j) ≠ 0 → y = .inr (errRs n (l.drop j)))
  | 0, j, h, hj => by omega
  | g+1, j, h, hj => by
    rw [R3_Lists_L1_s]
    by_cases c : j < l.length
    · have hd := List.drop_eq_getElem_cons c
      have hm := List.getElem_mem c
      have hf := hF _ hm; have hL' := hL _ hm
      rw [if_pos (by omega), ix_nat c, Option.bind_some, w64 (by omega) (by omega), R1_AllG_ev 0 (n-1) hf hL', Option.bind_some, hd]
      unfold errRs
      cases ha : allIn l[j] 0 (n-1)
      · rw [if_neg (by decide), if_neg (by decide)]
        exact ⟨_, rfl, fun h => by omega, fun _ => rfl⟩
      · rw [if_pos rfl, if_pos rfl, Option.bind_some, R1_TwiceF_ev hf hL', Option.bind_some]
        by_cases hnd : l[j].Nodup
        · rw [decide_eq_false (fun q => q hnd), if_neg (by decide), if_pos hnd, w64n (by omega)]
          exact rl_L1 hn hF hL hl g (j+1) (by omega) (by omega)
        · rw [decide_eq_true hnd, if_pos rfl, if_neg hnd]
          exact ⟨_, rfl, fun h => by omega, fun _ => rfl⟩
    · have : j = l.length := by omega
      subst this
      rw [if_neg (by omega), List.drop_length]
      exact ⟨_, rfl, fun _ => ⟨_, rfl⟩, fun h => absurd rfl h⟩
theorem lists_ev (hF : ∀ r ∈ l, r.length < F) (hF2 : 300 ≤ F) (hL : ∀ r ∈ l, r.length ≤ 9223372036854775807) : R3_Lists F n l = some (errR n l) := by
  unfold R3_Lists errR
  rw [R3_in_ev, Option.bind_some]
  by_cases hn : 1 ≤ n ∧ n ≤ 6
  · rw [decide_eq_true hn, if_pos rfl, if_neg (show ¬ ¬ (1 ≤ n ∧ n ≤ 6) from fun h => h hn)]
    by_cases hl : 24 < l.length
    · rw [if_pos (by omega), if_pos hl]
    · obtain ⟨y, h1, h2, h3⟩ := rl_L1 (F := F) hn hF hL (by omega) F 0 (by omega) (by omega)
      rw [List.drop_zero] at h2 h3
      rw [if_neg (by omega), if_neg hl, show R3_Lists_L1 F n l F 0 = _ from h1, Option.bind_some]
      by_cases h : errRs n l = 0
      · obtain ⟨i, rfl⟩ := h2 h
        rw [h]
      · rw [h3 h]
  · rw [decide_eq_false hn, if_neg (by decide), if_pos hn]
/-- rows of points below k, none twice -/
def Rw (k : Nat) (l : List (List Int)) : Prop := ∀ r ∈ l, (∀ x ∈ r, 0 ≤ x ∧ x < (k : Int)) ∧ r.Nodup
theorem errRs_zero {k : Nat} : ∀ {l : List (List Int)}, errRs (k : Int) l = 0 → Rw k l
  | [], _ => fun r h => by cases h
  | r :: l, h => by
    unfold errRs at h
    split at h
    · rename_i h1
      split at h
      · rename_i h2
        intro x hx
        rcases List.mem_cons.1 hx with rfl | hx
        · refine ⟨fun y hy => ?_, h2⟩
          have := List.all_eq_true.1 h1 y hy
          have := of_decide_eq_true this; omega
        · exact errRs_zero h x hx
      · cases h
    · cases h
theorem errR_zero (h : errR n l = 0) : ∃ k : Nat, n = k ∧ 1 ≤ k ∧ k ≤ 6 ∧ l.length ≤ 24 ∧ Rw k l := by
  unfold errR at h
  split at h
  · cases h
  · rename_i h1
    split at h
    · cases h
    · rename_i h2
      have hn : 1 ≤ n ∧ n ≤ 6 := Classical.byContradiction h1
      obtain ⟨k, rfl⟩ := Int.eq_ofNat_of_zero_le (show 0 ≤ n by omega)
      exact ⟨k, rfl, by omega, by omega, by omega, errRs_zero h⟩
theorem nodup_len_le' : ∀ {l l' : List Nat}, l.Nodup → (∀ x ∈ l, x ∈ l') → l.length ≤ l'.length
  | [], _, _, _ => by simp
  | a :: l, l', h, hm => by
    obtain ⟨h1, h2⟩ := List.nodup_cons.1 h
    have ha := hm a List.mem_cons_self
    have := nodup_len_le' (l' := l'.erase a) h2 fun x hx => by
      have hne : x ≠ a := fun e => h1 (e ▸ hx)
      exact (List.mem_erase_of_ne hne).2 (hm x (List.mem_cons_of_mem _ hx))
    rw [List.length_erase_of_mem ha] at this
    have := List.length_pos_of_mem ha
    rw [List.length_cons]; omega
theorem row_len {k : Nat} (h6 : k ≤ 6) {r : List Int} (h : (∀ x ∈ r, 0 ≤ x ∧ x < (k : Int)) ∧ r.Nodup) : r.length ≤ 6 := by
  have hn : (r.map Int.toNat).Nodup := by
    rw [List.Nodup, List.pairwise_map]
    refine h.2.imp_of_mem fun {a b} ha hb hne e => ?_
    have := h.1 a ha; have := h.1 b hb
    exact hne (by omega)
  have := nodup_len_le' (l' := List.range k) hn fun y hy => by
    obtain ⟨x, hx, rfl⟩ := List.mem_map.1 hy
    have := h.1 x hx
    exact List.mem_range.2 (by omega)
  rw [List.length_map, List.length_range] at this; omega
/-! ### may -/
def rwM (r : List Int) : Nat := r.foldl (fun m x => m ||| 2 ^ x.toNat) 0
theorem fold_bit : ∀ (r : List Int) (m i : Nat), (∀ x ∈ r, 0 ≤ x) → ((r.foldl (fun m x => m ||| 2 ^ x.toNat) m).testBit i = true ↔ m.testBit i = true ∨ (i : Int) ∈ r)
  | [], m, i, _ => by simp
  | x :: r, m, i, h => by
    rw [List.foldl_cons, fold_bit r _ i (fun y hy => h y (List.mem_cons_of_mem _ hy)), Nat.testBit_or, Nat.testBit_two_pow, Bool.or_eq_true, decide_eq_true_eq, List.mem_cons]
    have := h x List.mem_cons_self
    constructor
    · rintro ((h | h) | h)
      · exact .inl h
      · exact .inr (.inl (by omega))
      · exact .inr (.inr h)
    · rintro (h | h | h)
      · exact .inl (.inl h)
      · exact .inl (.inr (by omega))
      · exact .inr h
theorem rwM_bit {r : List Int} (h : ∀ x ∈ r, 0 ≤ x) (i : Nat) : (rwM r).testBit i = true ↔ (i : Int) ∈ r := by
  unfold rwM
  rw [fold_bit r 0 i h]; simp
theorem fold_lt : ∀ (r : List Int) (m : Nat), m < 65536 → (∀ x ∈ r, 0 ≤ x ∧ x < 16) → r.foldl (fun m x => m ||| 2 ^ x.toNat) m < 65536
  | [], m, hm, _ => hm
  | x :: r, m, hm, h => by
    have := h x List.mem_cons_self
    exact fold_lt r _ (Nat.or_lt_two_pow (n := 16) hm (Nat.pow_lt_pow_right (by omega) (by omega))) fun y hy => h y (List.mem_cons_of_mem _ hy)
theorem may1_L1 {r : List Int} (hr : ∀ x ∈ r, 0 ≤ x ∧ x < 16) (hl : r.length ≤ 9223372036854775807) : ∀ (g j m : Nat), r.length < j + g → j ≤ r.length → m < 65536 →
    brambleweir_rank_may_1_L1 F r g (j : Int) m = some ((r.drop j).foldl (fun m x => m ||| 2 ^ x.toNat) m)
  | 0, j, m, h, hj, _ => by omega
  | g+1, j, m, h, hj, hm => by
    rw [brambleweir_rank_may_1_L1_s]
    by_cases c : j < r.length
    · have hx := hr _ (List.getElem_mem c)
      have hw : sWith m r[j] = some (m ||| 2 ^ r[j].toNat) := by unfold sWith; rw [if_pos ⟨hm, by omega, by omega⟩]
      rw [if_pos (by omega), ix_nat c, Option.bind_some, hw, Option.bind_some, w64n (by omega), List.drop_eq_getElem_cons c, List.foldl_cons]
      exact may1_L1 hr hl g (j+1) _ (by omega) (by omega) (Nat.or_lt_two_pow (n := 16) hm (Nat.pow_lt_pow_right (by omega) (by omega)))
    · have : j = r.length := by omega
      subst this
      rw [if_neg (by omega), List.drop_length]; rfl
def mayB (l : List (List Int)) (s : Nat) : Bool := s == 0 || l.any fun r => ndiff s (rwM r) == 0
theorem ndiff_zero {a b : Nat} : ndiff a b = 0 ↔ ∀ i, a.testBit i = true → b.testBit i = true := by
  constructor
  · intro h i hi
    have := ndiff_testBit a b i
    rw [h, Nat.zero_testBit, hi, Bool.true_and] at this
    cases e : b.testBit i
    · rw [e] at this; cases this
    · rfl
  · intro h
    apply Nat.eq_of_testBit_eq
    intro i
    rw [ndiff_testBit, Nat.zero_testBit]
    cases e : a.testBit i
    · rfl
    · rw [h i e]; rfl
theorem mayB_iff {k : Nat} (hl : Rw k l) {s : Nat} : mayB l s = true ↔ s = 0 ∨ ∃ r ∈ l, ∀ i, s.testBit i = true → (i : Int) ∈ r := by
  unfold mayB
  rw [Bool.or_eq_true, beq_iff_eq, List.any_eq_true]
  refine or_congr Iff.rfl ⟨fun ⟨r, hr, h⟩ => ⟨r, hr, fun i hi => ?_⟩, fun ⟨r, hr, h⟩ => ⟨r, hr, ?_⟩⟩
  · exact (rwM_bit (fun x hx => ((hl r hr).1 x hx).1) i).1 (ndiff_zero.1 (beq_iff_eq.1 h) i hi)
  · rw [beq_iff_eq, ndiff_zero]
    exact fun i hi => (rwM_bit (fun x hx => ((hl r hr).1 x hx).1) i).2 (h i hi)
theorem may_ev {k : Nat} (h6 : k ≤ 6) (hl : Rw k l) (h24 : l.length ≤ 24) (hF : 300 ≤ F) {s : Nat} (hs : s < 65536) : rank_may F l s = some (mayB l s) := by
  unfold rank_may mayB
  cases e : s == 0
  · have hp : ∀ r ∈ l, (fun z2 => brambleweir_rank_may_1 F s z2) r = some (ndiff s (rwM r) == 0) := fun r hr => by
      have hr' := hl r hr
      have hlen := row_len h6 hr'
      have h16 : ∀ x ∈ r, 0 ≤ x ∧ x < 16 := fun x hx => by have := hr'.1 x hx; omega
      dsimp only
      unfold brambleweir_rank_may_1
      have hm : rwM r < 65536 := fold_lt r 0 (by omega) h16
      have hN : sNot s (rwM r) = some (ndiff s (rwM r)) := by unfold sNot; rw [if_pos ⟨hs, hm⟩]
      rw [show brambleweir_rank_may_1_L1 F r F 0 0 = _ from may1_L1 (F := F) h16 (by omega) F 0 0 (by omega) (by omega) (by omega), List.drop_zero, Option.bind_some,
        show sNot s (r.foldl (fun m x => m ||| 2 ^ x.toNat) 0) = _ from hN, Option.bind_some]
      cases (ndiff s (rwM r) == 0) <;> rfl
    rw [if_neg (by decide), slConR_ev hp (by omega) (by omega), Option.bind_some, Bool.false_or]
    cases l.any (fun r => ndiff s (rwM r) == 0) <;> rfl
  · rw [if_pos rfl]; rfl
end
end Go.Proofs.YtfaemblfffbmfaaDoor
