import Derived.Test.YtabkmceajgpdjaaLp
import Derived.Test.YtabkmceajgpdjaaLd
import Derived.Test.YtabkmceajgpdjaaTr
/- TournLandau -/
set_option linter.all false
set_option maxRecDepth 100000
namespace Go.Proofs.Ytabkmceajgpdjaa
open Go.RowKit Go.Shelf Pl To
/-- the games among the points of S -/
theorem games {k : Nat} {b : Nat → Nat → Bool} (h : Tn k b) : ∀ (S : List Nat), S.Nodup → (∀ x ∈ S, x < k) → 2 * sm (S.map fun i => (S.filter (b i)).length) = S.length * (S.length - 1)
  | [], _, _ => rfl
  | v :: S, hn, hk => by
    obtain ⟨hv, hn'⟩ := List.nodup_cons.1 hn
    have ih := games h S hn' (fun x hx => hk x (List.mem_cons_of_mem _ hx))
    have hvk := hk v List.mem_cons_self
    have key : ∀ T : List Nat, (∀ x ∈ T, x < k ∧ x ≠ v) → sm (T.map fun i => ((v :: S).filter (b i)).length) = sm (T.map fun i => (S.filter (b i)).length) + (T.filter fun i => b i v).length ∧ (T.filter (b v)).length + (T.filter fun i => b i v).length = T.length := by
      intro T
      induction T with
      | nil => intro _; exact ⟨rfl, rfl⟩
      | cons x T ih2 =>
        intro hT
        obtain ⟨g1, g2⟩ := ih2 (fun y hy => hT y (List.mem_cons_of_mem _ hy))
        obtain ⟨hx, hxv⟩ := hT x List.mem_cons_self
        constructor
        · rw [List.map_cons, List.map_cons, sm, sm, g1, List.filter_cons, List.filter_cons (xs := T)]
          cases e : b x v
          · rw [if_neg (by decide), if_neg (by decide)]; omega
          · rw [if_pos rfl, if_pos rfl, List.length_cons, List.length_cons]; omega
        · rw [List.filter_cons, List.filter_cons (xs := T) (p := fun i => b i v)]
          cases e : b x v
          · rw [if_pos (h.no hx hvk hxv e), if_neg (by decide), List.length_cons, List.length_cons]; omega
          · rw [if_neg (by rw [h.asym e]; decide), if_pos rfl, List.length_cons, List.length_cons]; omega
    obtain ⟨k1, k2⟩ := key S (fun x hx => ⟨hk x (List.mem_cons_of_mem _ hx), fun e => hv (e ▸ hx)⟩)
    rw [List.map_cons, sm, k1, List.filter_cons, if_neg (by rw [h.irr]; decide), List.length_cons, Nat.add_sub_cancel]
    have e1 : 2 * ((S.filter (b v)).length + (sm (S.map fun i => (S.filter (b i)).length) + (S.filter fun i => b i v).length)) = S.length * (S.length - 1) + 2 * S.length := by omega
    rw [e1]
    rcases Nat.eq_zero_or_pos S.length with e | e
    · rw [e]
    · obtain ⟨m, hm⟩ : ∃ m, S.length = m + 1 := ⟨S.length - 1, by omega⟩
      rw [hm, Nat.add_sub_cancel]
      simp only [Nat.add_mul, Nat.mul_add, Nat.one_mul, Nat.mul_one]
      omega
theorem ch2_two : ∀ m : Nat, m ≤ 8 → 2 * ch2 m = m * (m - 1) := by decide
theorem sm_mono {f g : Nat → Nat} : ∀ {T : List Nat}, (∀ i ∈ T, f i ≤ g i) → sm (T.map f) ≤ sm (T.map g)
  | [], _ => Nat.le_refl _
  | x :: T, h => by
    have := sm_mono (T := T) (f := f) (g := g) (fun i hi => h i (List.mem_cons_of_mem _ hi))
    have := h x List.mem_cons_self
    rw [List.map_cons, List.map_cons, sm, sm]; omega
theorem scores_ok {l : List (Int × Int)} {k : Nat} (h1 : 1 ≤ k) (h8 : k ≤ 8) (hT : Tn k (gL l)) : ScOk (rowN ((List.range k).map (sc l k))) ((List.range k).map (sc l k)) ∧ ∀ S, S < 2 ^ ((List.range k).map (sc l k)).length → okS ((List.range k).map (sc l k)) S := by
  have hl : ((List.range k).map (sc l k)).length = k := by rw [List.length_map, List.length_range]
  refine ⟨⟨rfl, by omega, by omega, fun x hx => ?_⟩, fun S hS => ?_⟩
  · obtain ⟨i, hi, rfl⟩ := List.mem_map.1 hx
    have := score_le hT (List.mem_range.1 hi)
    unfold sc; omega
  · rw [hl] at hS
    have hsub := memb_sub h8 hS
    have hmk : ∀ x ∈ memb S, x < k := fun x hx => List.mem_range.1 (hsub.subset hx)
    have hg := games hT (memb S) (membNd S) hmk
    have hml : (memb S).length ≤ k := by have := hsub.length_le; rwa [List.length_range] at this
    have hc := ch2_two (memb S).length (by omega)
    have hget : ∀ i ∈ memb S, ((List.range k).map (sc l k)).getD i 0 = sc l k i := fun i hi => by simp [List.getD, hmk i hi]
    have e : smS ((List.range k).map (sc l k)) S = sm ((memb S).map (sc l k)) := by
      unfold smS; congr 1; exact List.map_congr_left hget
    have hle : sm ((memb S).map fun i => ((memb S).filter (gL l i)).length) ≤ sm ((memb S).map (sc l k)) := sm_mono fun i hi => by
      unfold sc
      refine nodup_len_le ((membNd S).filter _) fun x hx => ?_
      have := List.mem_filter.1 hx
      exact List.mem_filter.2 ⟨hsub.subset this.1, this.2⟩
    refine ⟨by rw [e]; omega, fun hfull => ?_⟩
    rw [hl] at hfull
    have hr : memb S = List.range k := hsub.eq_of_length (by rw [hfull, List.length_range])
    rw [e, hr]
    rw [hr] at hg hc
    rw [List.length_range] at hg hc ⊢
    have : sm ((List.range k).map (sc l k)) = sm ((List.range k).map fun i => ((List.range k).filter (gL l i)).length) := rfl
    rw [this]; omega
theorem getD_memN {xs : List Nat} {q : Nat} (h : q < xs.length) : xs.getD q 0 ∈ xs := by
  have : xs.getD q 0 = xs[q] := by simp [List.getD, h]
  rw [this]; exact List.getElem_mem _
section
variable {xs : List Nat} (h8 : xs.length ≤ 8) (h7 : ∀ x ∈ xs, x < 8)
include h8 h7
theorem ld_L2 {m : List Nat} (hm : m.length ≤ 8) (hmk : ∀ x ∈ m, x < xs.length) : ∀ (g j : Nat), m.length < j + g → j ≤ m.length → ∃ x : Int, L4_TournLandau_L2 300 (rowN xs) (rowN m) g ((sm ((m.take j).map fun i => xs.getD i 0) : Nat) : Int) (j : Int) = some (((sm (m.map fun i => xs.getD i 0) : Nat) : Int), x)
  | 0, j, h, hj => by omega
  | g+1, j, h, hj => by
    rw [L4_TournLandau_L2_s, rowN_len]
    by_cases hlt : j < m.length
    · have i1 : ix (rowN m) (j : Int) = some ((m.getD j 0 : Nat) : Int) := ix_map hlt
      have hmem : m.getD j 0 ∈ m := by
        have : m.getD j 0 = m[j] := by simp [List.getD, hlt]
        rw [this]; exact List.getElem_mem _
      have hlt2 := hmk _ hmem
      have i2 : ix (rowN xs) ((m.getD j 0 : Nat) : Int) = some ((xs.getD (m.getD j 0) 0 : Nat) : Int) := ix_map hlt2
      have hx : xs.getD (m.getD j 0) 0 < 8 := h7 _ (getD_memN hlt2)
      have htk : sm ((m.take (j+1)).map fun i => xs.getD i 0) = sm ((m.take j).map fun i => xs.getD i 0) + xs.getD (m.getD j 0) 0 := by
        rw [List.take_succ_eq_append_getElem hlt, List.map_append, sm_append]
        have e0 : m.getD j 0 = m[j] := by simp [List.getD, hlt]
        rw [e0]; rfl
      have hb : sm ((m.take j).map fun i => xs.getD i 0) ≤ 64 := by
        have := sm_le (l := (m.take j).map fun i => xs.getD i 0) (c := 8) (fun x hx => by
          obtain ⟨i, hi, rfl⟩ := List.mem_map.1 hx
          have hi2 := hmk i (List.mem_of_mem_take hi)
          have : xs.getD i 0 = xs[i] := by simp [List.getD, hi2]
          rw [this]; exact Nat.le_of_lt (h7 _ (List.getElem_mem _)))
        rw [List.length_map, List.length_take] at this
        have : min j m.length * 8 ≤ 8 * 8 := Nat.mul_le_mul_right _ (by omega)
        omega
      have hw : wrap64 (((sm ((m.take j).map fun i => xs.getD i 0) : Nat) : Int) + ((xs.getD (m.getD j 0) 0 : Nat) : Int)) = ((sm ((m.take (j+1)).map fun i => xs.getD i 0) : Nat) : Int) := by rw [w64 (by omega) (by omega), htk]; omega
      rw [if_pos (by omega), i1, Option.bind_some, i2, Option.bind_some, hw, w64n (by omega)]
      exact ld_L2 hm hmk g (j+1) (by omega) (by omega)
    · have : j = m.length := by omega
      subst this
      rw [if_neg (by omega), List.take_length]; exact ⟨_, rfl⟩
theorem ld_L1 : ∀ (g S : Nat) (c : Bool), 2 ^ xs.length < S + g → S ≤ 2 ^ xs.length → ∃ (c' : Bool) (x : Int), L4_TournLandau_L1 300 (rowN xs) (xs.length : Int) g c (S : Int) = some (c', x) ∧ (c' = true ↔ c = true ∧ ∀ T, S ≤ T → T < 2 ^ xs.length → okS xs T)
  | 0, S, c, h, hS => by omega
  | g+1, S, c, h, hS => by
    have hp := Nat.pow_le_pow_right (n := 2) (by omega) h8
    rw [L4_TournLandau_L1_s, R3_Power_ev _ h8, Option.bind_some]
    by_cases hlt : S < 2 ^ xs.length
    · have hsub := memb_sub h8 hlt
      have hml : (memb S).length ≤ xs.length := by have := hsub.length_le; rwa [List.length_range] at this
      have hmm : (memb S).map Int.ofNat = rowN (memb S) := rfl
      obtain ⟨x, hx⟩ := ld_L2 h8 h7 (m := memb S) (by omega) (fun y hy => List.mem_range.1 (hsub.subset hy)) 300 0 (by omega) (by omega)
      have hx' : L4_TournLandau_L2 300 (rowN xs) (rowN (memb S)) 300 0 0 = some (((smS xs S : Nat) : Int), x) := hx
      obtain ⟨c1, y1, p1, p2⟩ := ld_L1 g (S+1) false (by omega) (by omega)
      obtain ⟨c2, y2, r1, r2⟩ := ld_L1 g (S+1) c (by omega) (by omega)
      rw [if_pos (by omega), R3_Members_ev S (by omega), Option.bind_some, hmm, hx', Option.bind_some, rowN_len, half_ev _ (by omega), w64n (by omega)]
      dsimp only
      have hch : (memb S).length * ((memb S).length - 1) / 2 = ch2 (memb S).length := rfl
      rw [hch]
      have good : okS xs S → ∃ (c' : Bool) (x : Int), L4_TournLandau_L1 300 (rowN xs) (xs.length : Int) g c ((S + 1 : Nat) : Int) = some (c', x) ∧ (c' = true ↔ c = true ∧ ∀ T, S ≤ T → T < 2 ^ xs.length → okS xs T) := fun hok => by
        refine ⟨c2, y2, r1, r2.trans (and_congr_right fun _ => ?_)⟩
        constructor
        · intro h T h1 h2
          by_cases e : T = S
          · subst e; exact hok
          · exact h T (by omega) h2
        · intro h T h1 h2; exact h T (by omega) h2
      have bad : ¬ okS xs S → ∃ (c' : Bool) (x : Int), L4_TournLandau_L1 300 (rowN xs) (xs.length : Int) g false ((S + 1 : Nat) : Int) = some (c', x) ∧ (c' = true ↔ c = true ∧ ∀ T, S ≤ T → T < 2 ^ xs.length → okS xs T) := fun hok => by
        refine ⟨c1, y1, p1, p2.trans ?_⟩
        constructor
        · rintro ⟨h, _⟩; cases h
        · rintro ⟨_, h⟩; exact absurd (h S (Nat.le_refl _) hlt) hok
      by_cases d : smS xs S < ch2 (memb S).length
      · rw [if_pos (by omega), Option.bind_some, if_pos rfl]
        exact bad fun h => by have := h.1; omega
      · rw [if_neg (by omega)]
        by_cases e : (memb S).length = xs.length
        · rw [if_pos (by rw [beq_iff_eq]; omega)]
          by_cases f : smS xs S = ch2 (memb S).length
          · rw [if_neg (by rw [bne_iff_ne]; omega), Option.bind_some, if_neg (by decide)]
            exact good ⟨by omega, fun _ => f⟩
          · rw [if_pos (by rw [bne_iff_ne]; omega), Option.bind_some, if_pos rfl]
            exact bad fun h => f (h.2 e)
        · rw [if_neg (by rw [beq_iff_eq]; omega), Option.bind_some, if_neg (by decide)]
          exact good ⟨by omega, fun h => absurd h e⟩
    · rw [if_neg (by omega)]
      exact ⟨c, _, rfl, by constructor; exact fun h => ⟨h, fun T h1 h2 => by omega⟩; exact fun h => h.1⟩
end
theorem degrees_ev (os : List Int) : R1_Degrees 300 os = some (scE os) := by
  unfold R1_Degrees scE
  by_cases h1 : os.length = 0
  · rw [if_pos (show ((os.length : Int) == 0) = true by rw [beq_iff_eq]; omega), if_pos h1]
  · rw [if_neg (show ¬ ((os.length : Int) == 0) = true by rw [beq_iff_eq]; omega), if_neg h1]
    by_cases h2 : 8 < os.length
    · rw [if_pos (show (8 : Int) < (os.length : Int) by omega), if_pos h2]
    · rw [if_neg (show ¬ (8 : Int) < (os.length : Int) by omega), if_neg h2, R1_All_ev _ _ (by omega) (by omega), Option.bind_some]
      by_cases h3 : allIn os 0 7 = true
      · rw [if_pos h3, if_pos h3]
      · rw [if_neg h3, if_neg h3]
/-- the second half -/
theorem half2 (os : List Int) : ((tourn_Can 300 os).bind fun y5 => (if (y5.2 != 0) = true then (if y5.1 = true then some false else some true).bind fun b6 => some (b6) else ((R1_Degrees 300 os).bind fun y7 => if (y7 != 0) = true then some (false) else (L4_TournLandau_L1 300 os ((os.length : Int)) 300 (true) (0)).bind fun o14 => (if (y5.1 == o14.1) = true then some true else some false).bind fun b15 => some (b15)))) = some true := by
  by_cases h : scE os = 0
  · obtain ⟨xs, hx⟩ := scE_zero h
    obtain ⟨b, b1, b2⟩ := can_ok hx
    obtain ⟨e, h0, h8, h7⟩ := hx
    have hl : os.length = xs.length := by rw [e, rowN_len]
    have hp := Nat.pow_le_pow_right (n := 2) (by omega) h8
    obtain ⟨c', x, p1, p2⟩ := ld_L1 h8 h7 300 0 true (by omega) (Nat.zero_le _)
    rw [b1, Option.bind_some]
    dsimp only
    rw [if_neg (by decide), degrees_ev, h, Option.bind_some, if_neg (by decide), hl]
    have p1' : L4_TournLandau_L1 300 os (xs.length : Int) 300 true 0 = some (c', x) := by rw [e]; exact p1
    rw [p1', Option.bind_some]
    have hbc : b = c' := by
      rw [Bool.eq_iff_iff, b2, p2]
      constructor
      · intro h; exact ⟨rfl, fun T _ hT => h T hT⟩
      · rintro ⟨_, h⟩ T hT; exact h T (Nat.zero_le _) hT
    dsimp only
    rw [if_pos (by rw [beq_iff_eq]; exact hbc)]; rfl
  · rw [can_bad h, Option.bind_some]
    dsimp only
    rw [if_pos (by rw [bne_iff_ne]; exact h), if_neg (by decide)]; rfl
theorem landau_ev {n : Int} {l : List (Int × Int)} (hg : good n l) (os : List Int) : L4_TournLandau 300 n l os = some true := by
  unfold L4_TournLandau
  obtain ⟨e, hc, hE⟩ := check_ev hg
  rw [fact_ev, Option.bind_some, if_pos rfl]
  rcases scores_ev hg hc hE with ⟨h, q⟩ | ⟨h, q⟩
  · rw [q, Option.bind_some]
    dsimp only
    rw [if_neg (by rw [beq_iff_eq]; exact h)]
    exact half2 os
  · subst h
    obtain ⟨k, rfl, h1, h8, h24, hin, he, hT, _⟩ := ck_zero hE
    obtain ⟨s1, s2⟩ := scores_ok (l := l) h1 h8 hT
    obtain ⟨b, b1, b2⟩ := can_ok s1
    have hb := b2.2 s2
    subst hb
    rw [q k rfl, Option.bind_some]
    dsimp only
    rw [if_pos (by decide), b1, Option.bind_some]
    dsimp only
    rw [if_neg (by decide), if_pos rfl, Option.bind_some, if_neg (by decide)]
    exact half2 os
theorem tournLandau_any (w : World) (n : Int) (hn : (Lit.int .i64 n).wf = true) (A : Option Addr) (cap : Nat) (l : List (Int × Int)) (hr : ReadsL w w.heap.size A l) (hl : l.length ≤ maxLen)
    (A2 : Option Addr) (cap2 : Nat) (os : List Int) (hr2 : ReadsI w w.heap.size A2 os ∧ os.length ≤ maxLen ∧ ∀ x ∈ os, (Lit.int .i64 x).wf = true) :
    Calls Try.prog 6 #[.int .i64 n, .slice A l.length cap, .slice A2 os.length cap2] w fun e w' => e = .returned (.bool true) ∧ Below w.heap.size w w' :=
  L4_TournLandau_ok w cap hr cap2 hr2.1 (landau_ev ⟨hn, hl⟩ os)
end Go.Proofs.Ytabkmceajgpdjaa
