import Derived.Test.YtfabhdadckohdaaFo
import Derived.Test.YtfabhdadckohdaaFw
/- TopForests -/
set_option linter.all false
set_option maxRecDepth 100000
namespace Go.Proofs.Ytfabhdadckohdaa.Sp
open Go.RowKit Pl
theorem behind_ev1 (F : Nat) (w : List Int) (x : Int) (h : w.length < 1000) : R1_Behind F w x = some (w ++ [x]) := by
  unfold R1_Behind appL app
  rw [if_pos (by simp; omega), Option.bind_some, if_pos (by simp; omega)]; simp
/-! ### what Far tells -/
/-- the lines of some places -/
def lnP (l : List (Int × Int × Int)) (P : List Nat) : List (Int × Int) := P.map fun i => ((pA l i : Int), (pB l i : Int))
section
variable {k : Nat} {l : List (Int × Int × Int)}
theorem lnP_in (hin : InC k l) {P : List Nat} (hP : ∀ x ∈ P, x < l.length) : InL k (lnP l P) := fun p hp => by
  obtain ⟨i, hi, rfl⟩ := List.mem_map.1 hp
  obtain ⟨a, b⟩ := ends_lt hin (hP i hi)
  show 0 ≤ ((pA l i : Nat) : Int) ∧ ((pA l i : Nat) : Int) < (k : Int) ∧ 0 ≤ ((pB l i : Nat) : Int) ∧ ((pB l i : Nat) : Int) < (k : Int)
  omega
theorem ad_cn (hin : InC k l) {P : List Nat} (hP : ∀ x ∈ P, x < l.length) (u v : Nat) : Ad k (lnP l P) u v ↔ ∃ i ∈ P, pA l i = u ∧ pB l i = v ∨ pA l i = v ∧ pB l i = u := by
  rw [ad_iff (lnP_in hin hP)]
  constructor
  · rintro ⟨p, hp, h⟩
    obtain ⟨i, hi, rfl⟩ := List.mem_map.1 hp
    refine ⟨i, hi, ?_⟩
    dsimp only at h
    omega
  · rintro ⟨i, hi, h⟩
    refine ⟨_, List.mem_map.2 ⟨i, hi, rfl⟩, ?_⟩
    dsimp only
    omega
theorem far_cn (hin : InC k l) {P : List Nat} (hP : ∀ x ∈ P, x < l.length) {a : Nat} (ha : a < k) {o : List Int} (hf : Far k (Ad k (lnP l P)) a o) {b : Nat} (hb : b < k) : 0 ≤ o.getD b 0 ↔ Cn l P a b := by
  constructor
  · have key : ∀ (n b : Nat), b < k → 0 ≤ o.getD b 0 → (o.getD b 0).toNat = n → Cn l P a b := by
      intro n
      induction n with
      | zero =>
        intro b hb h0 hn
        rcases hf.down b hb h0 with e | ⟨i, hi, hij, h1, h2⟩
        · rw [e]; exact .refl _
        · omega
      | succ n ih =>
        intro b hb h0 hn
        rcases hf.down b hb h0 with e | ⟨i, hi, hij, h1, h2⟩
        · rw [e]; exact .refl _
        · obtain ⟨q, hq, hh⟩ := (ad_cn hin hP i b).1 hij
          exact .step (ih i hi h1 (by omega)) hq hh
    intro h
    exact key _ b hb h rfl
  · intro h
    induction h with
    | refl => rw [hf.start]; exact Int.le_refl _
    | step h1 hi hj ih =>
      have hlt := Cn.lt hin hP h1 ha
      exact (hf.step _ _ hlt (ih hlt) ((ad_cn hin hP _ _).2 ⟨_, hi, hj⟩)).1
variable {ls : List (Int × Int)} (hk1 : 1 ≤ k) (hk : k ≤ 8) (hin : InC k l) (h5 : l.length ≤ 5) (hls : ls = lnP l (List.range l.length))
include hk hin h5 hls
theorem ls_len : ls.length = l.length := by rw [hls]; unfold lnP; rw [List.length_map, List.length_range]
theorem ls_ix {i : Nat} (hi : i < l.length) : ix ls (i : Int) = some ((pA l i : Int), (pB l i : Int)) := by
  rw [ix_nat (by rw [ls_len hk hin h5 hls]; exact hi)]
  subst hls
  simp [lnP]
theorem forest_L1 {T : List Nat} (hT : ∀ x ∈ T, x < l.length) (hT9 : T.length ≤ 9) : ∀ (g j : Nat), T.length < j + g → j ≤ T.length → ∃ r, LT_forest_L1 300 (k : Int) ls (T.map fun (x : Nat) => (x : Int)) g (lnP l (T.take j)) (j : Int) = some r ∧
    (Fo l (T.take j) (T.drop j) → ∃ i, r = .inl i) ∧ (¬ Fo l (T.take j) (T.drop j) → r = .inr false)
  | 0, j, h, hj => by omega
  | g+1, j, h, hj => by
    have hlm : (T.map fun (x : Nat) => (x : Int)).length = T.length := by rw [List.length_map]
    rw [LT_forest_L1_s, hlm]
    by_cases c : j < T.length
    · have hd := List.drop_eq_getElem_cons c
      have hi := hT _ (List.getElem_mem c)
      have hP : ∀ x ∈ T.take j, x < l.length := fun x hx => hT x (List.mem_of_mem_take hx)
      obtain ⟨a1, a2⟩ := ends_lt hin hi
      obtain ⟨M, m1, m2, m3⟩ := far_mat (k := k) (l := lnP l (T.take j)) (by omega) (by unfold lnP; rw [List.length_map, List.length_take]; omega) (lnP_in hin hP)
      have hix : ix (T.map fun (x : Nat) => (x : Int)) (j : Int) = some ((T[j] : Nat) : Int) := ixN c
      have hcn := far_cn hin hP a1 (m3 _ a1) a2
      have hl1 : lnP l (T.take j) ++ [((pA l T[j] : Int), (pB l T[j] : Int))] = lnP l (T.take (j+1)) := by
        rw [List.take_succ_eq_append_getElem c]; unfold lnP; rw [List.map_append]; rfl
      have hap : app (lnP l (T.take j)) ((pA l T[j] : Int), (pB l T[j] : Int)) = some (lnP l (T.take (j+1))) := by
        unfold app; rw [if_pos (by unfold lnP; rw [List.length_map, List.length_take]; omega), hl1]
      rw [if_pos (by omega), m1, Option.bind_some, hix, Option.bind_some, ls_ix hk hin h5 hls hi, Option.bind_some]
      dsimp only
      rw [m2.ix a1]
      simp only [Option.bind_some, ls_ix hk hin h5 hls hi]
      rw [m2.ix2 a1 a2, Option.bind_some, hap, Option.bind_some, hd]
      by_cases q : 0 ≤ ent M (pA l T[j]) (pB l T[j])
      · rw [if_pos q]
        exact ⟨_, rfl, fun h => absurd (hcn.1 q) h.1, fun _ => rfl⟩
      · rw [if_neg q, w64n (by omega)]
        obtain ⟨r, r1, r2, r3⟩ := forest_L1 hT hT9 g (j+1) (by omega) (by omega)
        have hn : ¬ Cn l (T.take j) (pA l T[j]) (pB l T[j]) := fun h => q (hcn.2 h)
        rw [List.take_succ_eq_append_getElem c] at r2 r3
        exact ⟨r, r1, fun h => r2 h.2, fun h => r3 fun h' => h ⟨hn, h'⟩⟩
    · have : j = T.length := by omega
      subst this
      rw [if_neg (by omega), List.drop_length]
      exact ⟨_, rfl, fun _ => ⟨_, rfl⟩, fun h => absurd trivial h⟩
theorem forest_ev {T : List Nat} (hT : ∀ x ∈ T, x < l.length) (hT9 : T.length ≤ 9) : ∃ b, LT_forest 300 (k : Int) ls (T.map fun (x : Nat) => (x : Int)) = some b ∧ (b = true ↔ Fo l [] T) := by
  obtain ⟨r, r1, r2, r3⟩ := forest_L1 hk hin h5 hls hT hT9 300 0 (by omega) (by omega)
  rw [List.take_zero, List.drop_zero] at *
  unfold LT_forest
  rw [show LT_forest_L1 300 (k : Int) ls (T.map fun (x : Nat) => (x : Int)) 300 [] 0 = some r from r1, Option.bind_some]
  by_cases h : Fo l [] T
  · obtain ⟨i, rfl⟩ := r2 h
    exact ⟨true, rfl, fun _ => h, fun _ => rfl⟩
  · rw [r3 h]
    exact ⟨false, rfl, fun q => (by cases q), fun q => absurd q h⟩
theorem forest_set {s : Nat} (hs : s < 2 ^ l.length) {T : List Nat} (hn : T.Nodup) (hm : ∀ x, x ∈ T ↔ s.testBit x = true) : LT_forest 300 (k : Int) ls (T.map fun (x : Nat) => (x : Int)) = some (frB k l s) := by
  have hT : ∀ x ∈ T, x < l.length := fun x hx => bits_lt hs ((hm x).1 hx)
  have hT9 : T.length ≤ 9 := by
    have := nodup_len_le' hn (l' := List.range l.length) fun x hx => List.mem_range.2 (hT x hx)
    rw [List.length_range] at this; omega
  obtain ⟨b, b1, b2⟩ := forest_ev hk hin h5 hls hT hT9
  rw [b1]
  congr 1
  rw [Bool.eq_iff_iff, b2, frB_of hk hin h5 hs hn hm]
theorem forest_mem {s : Nat} (hs : s < 2 ^ l.length) : LT_forest 300 (k : Int) ls (membI s) = some (frB k l s) := by
  have hp := Nat.pow_le_pow_right (n := 2) (by omega) h5
  exact forest_set hk hin h5 hls hs (nd_memb s) fun x => mem_memb (by omega)
theorem forest_more {s i : Nat} (hs : s < 2 ^ l.length) (hi : i < l.length) (hb : s.testBit i = false) : LT_forest 300 (k : Int) ls (membI s ++ [(i : Int)]) = some (frB k l (s ||| 2 ^ i)) := by
  have hp := Nat.pow_le_pow_right (n := 2) (by omega) h5
  have hlt : s ||| 2 ^ i < 2 ^ l.length := lt_bits fun j hj => by
    rcases (or_bit s i j).1 hj with q | q
    · exact bits_lt hs q
    · rw [q]; exact hi
  have hni : i ∉ memb s := fun q => by have := (mem_memb (by omega)).1 q; rw [hb] at this; cases this
  have := forest_set hk hin h5 hls hlt (T := memb s ++ [i]) (List.nodup_append.2 ⟨nd_memb _, by simp, fun x hx y hy e => hni (by rw [← List.mem_singleton.1 hy, ← e]; exact hx)⟩)
    fun x => by rw [List.mem_append, mem_memb (by omega), List.mem_singleton, or_bit]
  rw [List.map_append] at this
  exact this
theorem memI {s i : Nat} (hs : s < 2 ^ l.length) : R1_Has 300 (membI s) (i : Int) = some (s.testBit i) := by
  have hm := mb16 s
  have hlen : (membI s).length = (memb s).length := by unfold membI; rw [List.length_map]
  rw [R1_Has_ev _ (by omega) (by omega)]
  congr 1
  rw [Bool.eq_iff_iff, decide_eq_true_eq, membI_mem hk h5 hs]
theorem whole_L2 {s : Nat} (hs : s < 2 ^ l.length) : ∀ (g j : Nat) (b : Bool), l.length < j + g → j ≤ l.length →
    ∃ x, LT_TopForests_L2 300 (k : Int) ls (membI s) g b (j : Int) = some (b && ((List.range l.length).drop j).all (fun i => s.testBit i || !frB k l (s ||| 2 ^ i)), x)
  | 0, j, b, h, hj => by omega
  | g+1, j, b, h, hj => by
    have hlen := ls_len hk hin h5 hls
    rw [LT_TopForests_L2_s, hlen]
    by_cases c : j < l.length
    · have hd : (List.range l.length).drop j = j :: (List.range l.length).drop (j+1) := by
        rw [List.drop_eq_getElem_cons (by rw [List.length_range]; exact c), List.getElem_range]
      have hm := mb16 s
      have hml : (membI s).length = (memb s).length := by unfold membI; rw [List.length_map]
      rw [if_pos (by omega), memI hk hin h5 hls hs, hd, List.all_cons]
      cases b
      · rw [if_neg (by decide), Option.bind_some, w64n (by omega)]
        obtain ⟨x, hx⟩ := whole_L2 hs g (j+1) false (by omega) (by omega)
        exact ⟨x, hx⟩
      · rw [if_pos rfl, Option.bind_some]
        cases e : s.testBit j
        · have hbe : R1_Behind 300 (membI s) (j : Int) = some (membI s ++ [(j : Int)]) := by
            exact behind_ev1 300 _ _ (by omega)
          rw [if_neg (by decide), hbe, Option.bind_some, forest_more hk hin h5 hls hs c e, Option.bind_some]
          cases e2 : frB k l (s ||| 2 ^ j)
          · rw [if_neg (by decide), Option.bind_some, w64n (by omega)]
            obtain ⟨x, hx⟩ := whole_L2 hs g (j+1) true (by omega) (by omega)
            exact ⟨x, by rw [hx]; rfl⟩
          · rw [if_pos rfl, Option.bind_some, w64n (by omega)]
            obtain ⟨x, hx⟩ := whole_L2 hs g (j+1) false (by omega) (by omega)
            exact ⟨x, by rw [hx]; rfl⟩
        · rw [if_pos rfl, Option.bind_some, w64n (by omega)]
          obtain ⟨x, hx⟩ := whole_L2 hs g (j+1) true (by omega) (by omega)
          exact ⟨x, by rw [hx]; rfl⟩
    · have : j = l.length := by omega
      subst this
      rw [if_neg (by omega)]
      have : (List.range l.length).drop l.length = [] := by rw [List.drop_eq_nil_iff, List.length_range]; exact Nat.le_refl _
      rw [this]
      exact ⟨_, by rw [List.all_nil, Bool.and_true]⟩
theorem sets_L1 : ∀ (g j : Nat) (V : List (List Int)), 2 ^ l.length < j + g → j ≤ 2 ^ l.length → V.length ≤ j →
    ∃ x, LT_TopForests_L1 300 (k : Int) ls g V (j : Int) = some (V ++ (((List.range (2 ^ l.length)).drop j).filter (isBs k l)).map membI, x)
  | 0, j, V, h, hj, _ => by omega
  | g+1, j, V, h, hj, hV => by
    have hp := Nat.pow_le_pow_right (n := 2) (by omega) h5
    have hlen := ls_len hk hin h5 hls
    rw [LT_TopForests_L1_s, hlen, R3_Power_ev _ (by omega), Option.bind_some]
    by_cases c : j < 2 ^ l.length
    · have hd : (List.range (2 ^ l.length)).drop j = j :: (List.range (2 ^ l.length)).drop (j+1) := by
        rw [List.drop_eq_getElem_cons (by rw [List.length_range]; exact c), List.getElem_range]
      rw [if_pos (by omega), show R3_Members 300 (j : Int) = some (membI j) from R3_Members_ev j (by omega), Option.bind_some, forest_mem hk hin h5 hls c, Option.bind_some, hd]
      cases e : frB k l j
      · have hb : isBs k l j = false := by unfold isBs; rw [e]; rfl
        rw [if_neg (by decide), w64n (by omega), List.filter_cons_of_neg (by rw [hb]; decide)]
        exact sets_L1 g (j+1) V (by omega) (by omega) (by omega)
      · rw [if_pos rfl]
        obtain ⟨x, hx⟩ := whole_L2 hk hin h5 hls c 300 0 true (by omega) (by omega)
        rw [show LT_TopForests_L2 300 (k : Int) ls (membI j) 300 true 0 = _ from hx, Option.bind_some, List.drop_zero, Bool.true_and]
        dsimp only
        cases e2 : (List.range l.length).all (fun i => j.testBit i || !frB k l (j ||| 2 ^ i))
        · have hb : isBs k l j = false := by unfold isBs; rw [e2, Bool.and_false]
          rw [if_neg (by decide), w64n (by omega), List.filter_cons_of_neg (by rw [hb]; decide)]
          exact sets_L1 g (j+1) V (by omega) (by omega) (by omega)
        · have hb : isBs k l j = true := by unfold isBs; rw [e, e2]; rfl
          have hap : app V (membI j) = some (V ++ [membI j]) := by unfold app; rw [if_pos (by omega)]
          rw [if_pos rfl, hap, Option.bind_some, w64n (by omega), List.filter_cons_of_pos hb, List.map_cons]
          obtain ⟨y, hy⟩ := sets_L1 g (j+1) (V ++ [membI j]) (by omega) (by omega) (by rw [List.length_append, List.length_singleton]; omega)
          exact ⟨y, by rw [hy, List.append_assoc]; rfl⟩
    · have : j = 2 ^ l.length := by omega
      subst this
      rw [if_neg (by omega)]
      have : (List.range (2 ^ l.length)).drop (2 ^ l.length) = [] := by rw [List.drop_eq_nil_iff, List.length_range]; exact Nat.le_refl _
      rw [this]
      exact ⟨_, by rw [List.filter_nil, List.map_nil, List.append_nil]⟩
end
/-! ### the costs -/
def cst (ls : List (Int × Int)) (ws : List Int) : List (Int × Int × Int) := (List.range ls.length).map fun i => ((ls.getD i (0, 0)).1, (ls.getD i (0, 0)).2, 20 - wof ws i)
section
variable {k : Nat} {ls : List (Int × Int)} {ws : List Int}
theorem cst_len : (cst ls ws).length = ls.length := by unfold cst; rw [List.length_map, List.length_range]
theorem cst_get {i : Nat} (hi : i < ls.length) : (cst ls ws).getD i (0, 0, 0) = ((ls.getD i (0, 0)).1, (ls.getD i (0, 0)).2, 20 - wof ws i) := by
  rw [List.getD_eq_getElem?_getD, List.getElem?_eq_getElem (by rw [cst_len]; exact hi), Option.getD_some]
  unfold cst
  rw [List.getElem_map, List.getElem_range]
theorem cst_L3 (hw : ws.length = ls.length) (hws : allIn ws 0 20 = true) (h5 : ls.length ≤ 5) : ∀ (g j : Nat), ls.length < j + g → j ≤ ls.length → ∃ x, LT_TopForests_L3 300 ls ws g ((cst ls ws).take j) (j : Int) = some (cst ls ws, x)
  | 0, j, h, hj => by omega
  | g+1, j, h, hj => by
    rw [LT_TopForests_L3_s]
    by_cases c : j < ls.length
    · have hb := wof_bd hws j
      have h1 : ix ls (j : Int) = some (ls.getD j (0, 0)) := ix_at _ c
      have h2 : ix ws (j : Int) = some (wof ws j) := ix_at 0 (by omega)
      have h3 : (cst ls ws)[j]'(by rw [cst_len]; exact c) = ((ls.getD j (0, 0)).1, (ls.getD j (0, 0)).2, 20 - wof ws j) := by
        unfold cst; rw [List.getElem_map, List.getElem_range]
      rw [if_pos (by omega), h1, Option.bind_some, Option.bind_some, h2, Option.bind_some, w64 (by omega) (by omega)]
      have hap : app ((cst ls ws).take j) ((ls.getD j (0, 0)).1, (ls.getD j (0, 0)).2, 20 - wof ws j) = some ((cst ls ws).take (j+1)) := by
        unfold app
        rw [if_pos (by rw [List.length_take, cst_len]; omega), List.take_succ_eq_append_getElem (by rw [cst_len]; exact c), h3]
      rw [hap, Option.bind_some, w64n (by omega)]
      exact cst_L3 hw hws h5 g (j+1) (by omega) (by omega)
    · have : j = ls.length := by omega
      subst this
      rw [if_neg (by omega)]
      exact ⟨_, by rw [List.take_of_length_le (by rw [cst_len]; exact Nat.le_refl _)]⟩
theorem cst_in (hin : InL k ls) (hne : ∀ p ∈ ls, p.1 ≠ p.2) (hws : allIn ws 0 20 = true) : InC k (cst ls ws) := fun e he => by
  obtain ⟨i, hi, rfl⟩ := List.mem_map.1 he
  have hi := List.mem_range.1 hi
  have hm : ls.getD i (0, 0) ∈ ls := by rw [List.getD_eq_getElem?_getD, List.getElem?_eq_getElem hi]; exact List.getElem_mem hi
  have hb := wof_bd hws i
  obtain ⟨a, b, c, d⟩ := hin _ hm
  have := hne _ hm
  exact ⟨⟨a, b⟩, ⟨c, d⟩, by dsimp only; omega, this⟩
theorem cst_ln (hin : InL k ls) : ls = lnP (cst ls ws) (List.range (cst ls ws).length) := by
  rw [cst_len]
  refine List.ext_getElem (by unfold lnP; rw [List.length_map, List.length_range]) fun i h1 h2 => ?_
  simp only [lnP, List.getElem_map, List.getElem_range]
  unfold pA pB
  rw [cst_get h1]
  have hg : ls.getD i (0, 0) = ls[i] := by rw [List.getD_eq_getElem?_getD, List.getElem?_eq_getElem h1]; rfl
  obtain ⟨a, b, c, d⟩ := hin _ (List.getElem_mem h1)
  rw [hg]
  refine Prod.ext ?_ ?_
  · show ls[i].1 = ((ls[i].1.toNat : Nat) : Int); omega
  · show ls[i].2 = ((ls[i].2.toNat : Nat) : Int); omega
theorem cst_cs {i : Nat} (hi : i < ls.length) : cs (cst ls ws) i = 20 - wof ws i := by unfold cs; rw [cst_get hi]
end
theorem errCs_of {k : Nat} : ∀ {l : List Cost}, InC k l → errCs (k : Int) l = 0
  | [], _ => rfl
  | e :: l, h => by
    obtain ⟨h1, h2, h3, h4⟩ := h e List.mem_cons_self
    unfold errCs
    rw [if_neg (by omega), if_neg h4]
    exact errCs_of fun x hx => h x (List.mem_cons_of_mem _ hx)
theorem errRs_of {k : Nat} : ∀ {l : List (List Int)}, Rw k l → errRs (k : Int) l = 0
  | [], _ => rfl
  | r :: l, h => by
    obtain ⟨h1, h2⟩ := h r List.mem_cons_self
    have ha : allIn r 0 ((k : Int) - 1) = true := by
      unfold allIn
      rw [List.all_eq_true]
      intro x hx
      have := h1 x hx
      exact decide_eq_true (by omega)
    unfold errRs
    rw [if_pos ha, if_pos h2]
    exact errRs_of fun x hx => h x (List.mem_cons_of_mem _ hx)
theorem sum_turn (w c : Nat → Int) : ∀ T : List Nat, (∀ x ∈ T, c x = 20 - w x) → sumL w T = 20 * (T.length : Int) - sumL c T
  | [], _ => rfl
  | i :: T, h => by
    have ih := sum_turn w c T fun x hx => h x (List.mem_cons_of_mem _ hx)
    have := h i List.mem_cons_self
    show w i + sumL w T = 20 * ((T.length + 1 : Nat) : Int) - (c i + sumL c T)
    omega
theorem forests_ev {n : Int} {ls : List (Int × Int)} {ws : List Int} (hg : good n ls) (hw : ws.length ≤ maxLen) : LT_TopForests 300 n ls ws = some true := by
  have h0 : rank_Fair 300 2 [[0], [1]] = some (true, 0) := by decide +kernel
  unfold LT_TopForests
  rw [h0, Option.bind_some]
  dsimp only
  rw [if_neg (by decide), if_pos rfl, Option.bind_some, if_neg (by decide), R1_Lines_big (by omega), Option.bind_some]
  by_cases he : errG n ls = 0
  case neg =>
    rw [if_pos (by rw [bne_iff_ne]; exact he), Option.bind_some, if_pos rfl, Option.bind_some, if_pos rfl, Option.bind_some, if_pos rfl, Option.bind_some, if_pos rfl]
  rw [he, if_neg (by decide)]
  by_cases h5 : 5 < (ls.length : Int)
  · rw [if_pos h5, Option.bind_some, if_pos rfl, Option.bind_some, if_pos rfl, Option.bind_some, if_pos rfl, Option.bind_some, if_pos rfl]
  rw [if_neg h5, Option.bind_some, if_neg (by decide)]
  by_cases hz : (ls.length : Int) = 0
  · rw [if_pos (by rw [beq_iff_eq]; exact hz), Option.bind_some, if_pos rfl, Option.bind_some, if_pos rfl, Option.bind_some, if_pos rfl]
  rw [if_neg (by rw [beq_iff_eq]; exact hz), Option.bind_some, if_neg (by decide)]
  by_cases hwl : (ws.length : Int) = (ls.length : Int)
  case neg => rw [if_pos (by rw [bne_iff_ne]; exact hwl), Option.bind_some, if_pos rfl, Option.bind_some, if_pos rfl]
  rw [if_neg (by rw [bne_iff_ne]; exact fun h => h hwl), Option.bind_some, if_neg (by decide), R1_AllG_ev 0 20 (by omega) (by omega), Option.bind_some]
  cases hws : allIn ws 0 20
  · rw [if_neg (by decide), Option.bind_some, if_pos rfl]
  rw [if_pos rfl, Option.bind_some, if_neg (by decide)]
  obtain ⟨k, rfl, hk1, hk, h24, hin, hne⟩ := errG_zero he
  have hws' : ws.length = ls.length := by omega
  obtain ⟨l, hl⟩ : ∃ l, l = cst ls ws := ⟨_, rfl⟩
  have hlen : l.length = ls.length := by rw [hl, cst_len]
  have hinC : InC k l := by rw [hl]; exact cst_in hin hne hws
  have hln : ls = lnP l (List.range l.length) := by rw [hl]; exact cst_ln hin
  have h5' : l.length ≤ 5 := by omega
  have hp := Nat.pow_le_pow_right (n := 2) (by omega) h5'
  obtain ⟨x1, e1⟩ := sets_L1 hk hinC h5' hln 300 0 [] (by omega) (Nat.zero_le _) (Nat.le_refl _)
  rw [show LT_TopForests_L1 300 (k : Int) ls 300 [] 0 = _ from e1, Option.bind_some, List.nil_append, List.drop_zero]
  show (if 24 < (((bases k l).length : Nat) : Int) then some true else _) = some true
  obtain ⟨B, hB⟩ : ∃ B, B = bases k l := ⟨_, rfl⟩
  have hrw : Rw ls.length B := by rw [hB, ← hlen]; exact bases_rw hk hinC h5'
  have hfair : FairP (mayB B) ls.length := by rw [hB, ← hlen]; exact bases_fair hk hinC h5'
  have hmay : ∀ s, s < 2 ^ ls.length → mayB B s = frB k l s := fun s hs => by rw [hB]; exact may_iff hk hinC h5' (by rw [hlen]; exact hs)
  rw [show (((List.range (2 ^ l.length)).filter (isBs k l)).map membI) = B from hB.symm, ← hB]
  by_cases h24B : 24 < (B.length : Int)
  · rw [if_pos h24B]
  rw [if_neg h24B]
  have hB24 : B.length ≤ 24 := by omega
  have hrl : ∀ r ∈ B, r.length < 300 := fun r hr => by
    rw [hB] at hr
    obtain ⟨s, _, rfl⟩ := List.mem_map.1 hr
    have := mb16 s
    unfold membI
    rw [List.length_map]; omega
  have hrl2 : ∀ r ∈ B, r.length ≤ 9223372036854775807 := fun r hr => by have := hrl r hr; omega
  have heR : errR (ls.length : Int) B = 0 := by
    unfold errR
    rw [if_neg (by omega), if_neg (by omega)]
    exact errRs_of hrw
  have hch : rank_Check 300 (ls.length : Int) B = some 0 := by rw [check_ev hrl (Nat.le_refl _) hrl2, heR]
  have hwo : rank_worth 300 (ls.length : Int) B ws = some 0 := by
    rw [worth_ev hrl (Nat.le_refl _) hrl2 (by omega) (by omega)]
    unfold errW
    rw [if_neg (fun h => h heR), if_neg (fun h => h (by omega)), if_pos hws]
  have hl1 : 1 ≤ ls.length := by omega
  have hl6 : ls.length ≤ 6 := by omega
  obtain ⟨f, f1, f2⟩ := fair_ev hl1 hl6 hrw hB24 (Nat.le_refl 300) hch
  have hft : f = true := f2.2 hfair
  subst hft
  obtain ⟨ord, o1, o2, o3, o4, o5⟩ := greedy_ev hl1 hl6 hrw hB24 (Nat.le_refl 300) hwo hws' hws
  obtain ⟨b, b1, b2, s, b3, b4, b5⟩ := best_ev hl6 hrw hB24 (Nat.le_refl 300) hwo hws' hws
  obtain ⟨G0, hG0⟩ : ∃ G0, G0 = G (mayB B) ord 0 := ⟨_, rfl⟩
  rw [← hG0] at o4 o5
  have hGm : mayB B G0 = true := by rw [hG0]; exact G_may _ _ may_zero
  have hbest : sumL (wof ws) (memb G0) = b := by
    have q1 := b2 G0 o5 hGm
    have q2 := rado (by omega) (may_down hrw) may_zero hfair (wof_bd hws) o1 o2 (o3.imp fun h => by omega) b3 b4
    rw [← hG0, b5] at q2
    omega
  obtain ⟨x3, e3⟩ := cst_L3 hws' hws (by omega) 300 0 (by omega) (Nat.zero_le _)
  have hsc : span_Check 300 (k : Int) l = some 0 := by
    rw [spanck_ev]
    unfold errC
    rw [if_neg (by omega), if_neg (by omega), errCs_of hinC]
  obtain ⟨od, d1, d2, d3, d4⟩ := least_ev' hk1 hk hinC (by omega) hsc
  have hod : od = ord := by
    refine ord_uniq (R := fun a b => cs l a < cs l b ∨ (cs l a = cs l b ∧ a < b)) (fun a b h h' => by omega) od ord d1 o1 (fun x => by rw [d2, o2, hlen]) d3 ?_
    refine List.Pairwise.imp_of_mem (fun {a c} ha hc h => ?_) o3
    have ha' := (o2 a).1 ha
    have hc' := (o2 c).1 hc
    rw [hl, cst_cs ha', cst_cs hc']
    omega
  subst hod
  rw [f1, Option.bind_some, o4, Option.bind_some, b1, Option.bind_some, show LT_TopForests_L3 300 ls ws 300 [] 0 = _ from e3, Option.bind_some]
  dsimp only
  have t00 : ((0 : Int) == 0) = true := by decide
  have hbt : (sumL (wof ws) (memb G0) == b) = true := by rw [beq_iff_eq]; exact hbest
  rw [← hl, d4]
  simp only [t00, hbt, if_true, Option.bind_some]
  have hodl : ∀ x ∈ od, x < l.length := fun x hx => by rw [hlen]; exact (o2 x).1 hx
  obtain ⟨g1, g2, g3⟩ := both hk hinC h5' (m := mayB B) (fun s hs => hmay s (by rw [← hlen]; exact hs)) od [] 0 (fun x h => by cases h) hodl d1 (fun x _ => Nat.zero_testBit x) (frB_zero hk hinC h5')
    (fun u v => by rw [show memb 0 = [] by decide]) (by rw [show memb 0 = [] by decide]; rfl)
  rw [← hG0] at g1 g2 g3
  rw [List.nil_append] at g3
  simp only [List.nil_append] at g2
  by_cases c : (od.foldl (krS l) (st0 k l.length)).1.getD 0 0 = 2 ^ k - 1
  case neg =>
    rw [if_neg c]
    dsimp only
    rw [if_pos (by decide), Option.bind_some]
  rw [if_pos c]
  dsimp only
  rw [if_neg (by decide)]
  obtain ⟨v1, v2⟩ := st_iv hk hinC hodl
  have hG5 : G0 < 2 ^ l.length := by rw [hlen]; exact o5
  have hmG : ∀ x ∈ memb G0, x < l.length := fun x hx => mlt hk hinC h5' hG5 hx
  have hone : comps k (stOf k l (memb G0)) = 1 := comps_one (st_iv hk hinC hmG).1 hk1 fun v hv => by
    rw [← g2]
    refine (v1.2 0 (by omega) v hv).1 ?_
    show (((od.foldl (krS l) (st0 k l.length)).1.getD 0 0).testBit v) = true
    rw [c, Nat.testBit_two_pow_sub_one, decide_eq_true hv]
  have hcard : (memb G0).length + 1 = k := by
    have q := (fo0 hk hinC hmG).1 ((frB_iff hk hinC h5').1 g1).2
    omega
  have hsum := sum_turn (wof ws) (cs l) (memb G0) fun x hx => by rw [hl]; exact cst_cs (by rw [← hlen]; exact hmG x hx)
  have hS : (od.foldl (krS l) (st0 k l.length)).2.2 = sumL (cs l) (memb G0) := g3
  have hbd := W_bd (wof_bd hws) G0
  rw [hS, w64 (x := (k : Int) - 1) (by omega) (by omega), w64 (x := 20 * ((k : Int) - 1)) (by omega) (by omega), w64 (by omega) (by omega), if_pos (by rw [beq_iff_eq]; omega), Option.bind_some]
end Go.Proofs.Ytfabhdadckohdaa.Sp
namespace Go.Proofs.Ytfabhdadckohdaa
open Go.RowKit Pl
theorem topForests_any (w : World) (n : Int) (hn : (Lit.int .i64 n).wf = true) (A : Option Addr) (cap : Nat) (l : List (Int × Int)) (hr : ReadsL w w.heap.size A l) (hl : l.length ≤ maxLen)
    (A' : Option Addr) (cap' : Nat) (ws : List Int) (hr' : ReadsI w w.heap.size A' ws ∧ ws.length ≤ maxLen ∧ ∀ n ∈ ws, (Lit.int .i64 n).wf = true) :
    Calls Try.prog 4 #[.int .i64 n, .slice A l.length cap, .slice A' ws.length cap'] w fun e w' => e = .returned (.bool true) ∧ Below w.heap.size w w' :=
  LT_TopForests_ok w cap hr cap' hr'.1 (Sp.forests_ev ⟨hn, hl⟩ hr'.2.1)
end Go.Proofs.Ytfabhdadckohdaa
