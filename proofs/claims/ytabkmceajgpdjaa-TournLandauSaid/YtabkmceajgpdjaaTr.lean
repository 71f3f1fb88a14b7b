import Derived.Test.YtabkmceajgpdjaaTe
import Derived.Test.YtabkmceajgpdjaaC1
/- TournRedei and TournKings -/
set_option linter.all false
set_option maxRecDepth 100000
namespace Go.Proofs.Ytabkmceajgpdjaa
open Go.RowKit Go.Shelf Pl To
theorem fact_ev : L4_tournFact 300 = some true := by decide +kernel
theorem tw_L1 {os : List Int} (hl : os.length < 300) : ∀ (g j : Nat), os.length < j + g → j ≤ os.length → (os.take j).Nodup →
    (∃ x, R1_Twice_L1 300 os g (j : Int) = some (.inl x) ∧ os.Nodup) ∨ (R1_Twice_L1 300 os g (j : Int) = some (.inr true) ∧ ¬ os.Nodup)
  | 0, j, h, hj, _ => by omega
  | g+1, j, h, hj, hn => by
    rw [R1_Twice_L1_s]
    by_cases hlt : j < os.length
    · have htk : tk os (j : Int) = some (os.take j) := by unfold tk; rw [if_pos (by omega), Int.toNat_natCast]
      rw [if_pos (by omega), htk, Option.bind_some, ix_nat hlt, Option.bind_some, R1_Has_ev _ (by rw [List.length_take]; omega) (by rw [List.length_take]; omega), Option.bind_some, w64n (by omega)]
      have hs : os.take (j+1) = os.take j ++ [os[j]] := by rw [List.take_succ_eq_append_getElem hlt]
      by_cases hm : os[j] ∈ os.take j
      · rw [decide_eq_true hm, if_pos rfl]
        refine .inr ⟨rfl, fun q => ?_⟩
        have : (os.take (j+1)).Nodup := List.Nodup.sublist (List.take_sublist _ _) q
        rw [hs, List.nodup_append] at this
        exact this.2.2 _ hm _ (List.mem_singleton.2 rfl) rfl
      · rw [decide_eq_false hm, if_neg (by decide)]
        refine tw_L1 hl g (j+1) (by omega) (by omega) ?_
        rw [hs, List.nodup_append]
        exact ⟨hn, by simp, fun x hx y hy e => by rw [List.mem_singleton.1 hy] at e; subst e; exact hm hx⟩
    · have : j = os.length := by omega
      subst this
      rw [if_neg (by omega)]
      rw [List.take_length] at hn
      exact .inl ⟨_, rfl, hn⟩
theorem twice_no {os : List Int} (hl : os.length < 300) (hn : os.Nodup) : R1_Twice 300 os = some false := by
  unfold R1_Twice
  rcases tw_L1 hl 300 0 (by omega) (by omega) (by simp) with ⟨x, q1, q2⟩ | ⟨q1, q2⟩
  · rw [show R1_Twice_L1 300 os 300 0 = _ from q1]; rfl
  · exact absurd hn q2
theorem rowN_nd {os : List Nat} (h : os.Nodup) : (rowN os).Nodup := by
  unfold rowN
  rw [List.Nodup, List.pairwise_map]
  exact h.imp fun hab e => hab (by omega)
theorem allIn_row {os : List Nat} {k : Nat} (h : ∀ x ∈ os, x < k) : allIn (rowN os) 0 ((k : Int) - 1) = true := by
  unfold allIn
  rw [List.all_eq_true]
  intro x hx
  obtain ⟨y, hy, rfl⟩ := List.mem_map.1 hx
  have := h y hy
  simp; omega
section
variable {k : Nat} {l : List (Int × Int)}
theorem red_L1 (h24 : l.length ≤ 24) {os : List Nat} (hlen : os.length = k) (h8 : k ≤ 8) (hc : Ch (gL l) os) : ∀ (g j : Nat), k + 1 < j + g → 1 ≤ j → j ≤ k + 1 → ∃ x, L4_TournRedei_L1 300 (k : Int) l (rowN os) g (j : Int) = some (.inl x)
  | 0, j, h, hj, hk => by omega
  | g+1, j, h, hj, hk => by
    rw [L4_TournRedei_L1_s]
    by_cases hlt : j < k
    · have i1 : ix (rowN os) (j : Int) = some ((os.getD j 0 : Nat) : Int) := ix_map (by omega)
      have i2 : ix (rowN os) ((j - 1 : Nat) : Int) = some ((os.getD (j - 1) 0 : Nat) : Int) := ix_map (by omega)
      have hw : wrap64 ((j : Int) - 1) = ((j - 1 : Nat) : Int) := by rw [w64 (by omega) (by omega)]; omega
      have hg : R1_Goes 300 l ((os.getD (j - 1) 0 : Nat) : Int) ((os.getD j 0 : Nat) : Int) = some (gL l (os.getD (j - 1) 0) (os.getD j 0)) := R1_Goes_ev _ _ (by omega) (by omega)
      have hb := hc.at (j - 1) (by omega)
      rw [show j - 1 + 1 = j by omega] at hb
      rw [if_pos (by omega), hw, i2, Option.bind_some, i1, Option.bind_some, hg, Option.bind_some, if_pos hb, w64n (by omega)]
      exact red_L1 h24 hlen h8 hc g (j+1) (by omega) (by omega) (by omega)
    · rw [if_neg (by omega)]; exact ⟨_, rfl⟩
theorem redei_ev {n : Int} {l : List (Int × Int)} (hg : good n l) : L4_TournRedei 300 n l = some true := by
  unfold L4_TournRedei
  obtain ⟨e, hc, hE⟩ := check_ev hg
  rw [fact_ev, Option.bind_some, if_pos rfl]
  rcases row_ev hg hc hE with ⟨h, q⟩ | ⟨h, q⟩
  · rw [q, Option.bind_some]
    dsimp only
    rw [if_pos (by rw [bne_iff_ne]; exact h)]; rfl
  · subst h
    obtain ⟨k, rfl, h1, h8, h24, hin, he, hT, _⟩ := ck_zero hE
    have hperm := rowT_perm (gL l) k
    have hlen : (rowT (gL l) k).length = k := by rw [hperm.length_eq, List.length_range]
    have hmem : ∀ y ∈ rowT (gL l) k, y < k := fun y hy => List.mem_range.1 (hperm.mem_iff.1 hy)
    have hnd : (rowT (gL l) k).Nodup := hperm.nodup_iff.2 List.nodup_range
    have hw : wrap64 ((k : Int) - 1) = (k : Int) - 1 := w64 (by omega) (by omega)
    obtain ⟨x, hx⟩ := red_L1 h24 hlen h8 (rowT_ch hT k (Nat.le_refl _)) 300 1 (by omega) (by omega) (by omega)
    rw [q k rfl, Option.bind_some]
    dsimp only
    rw [if_neg (by decide), rowN_len, hlen, if_neg (by simp), hw, R1_All_ev _ _ (by rw [rowN_len]; omega) (by rw [rowN_len]; omega), Option.bind_some, allIn_row hmem, if_pos rfl, Option.bind_some, if_neg (by decide),
      twice_no (by rw [rowN_len]; omega) (rowN_nd hnd), Option.bind_some, if_neg (by decide), Option.bind_some, if_neg (by decide), show L4_TournRedei_L1 300 (k : Int) l (rowN (rowT (gL l) k)) 300 1 = _ from hx]; rfl
theorem tournRedei_any (w : World) (n : Int) (hn : (Lit.int .i64 n).wf = true) (A : Option Addr) (cap : Nat) (l : List (Int × Int)) (hr : ReadsL w w.heap.size A l) (hl : l.length ≤ maxLen) :
    Calls Try.prog 3 #[.int .i64 n, .slice A l.length cap] w fun e w' => e = .returned (.bool true) ∧ Below w.heap.size w w' :=
  L4_TournRedei_ok w cap hr (redei_ev ⟨hn, hl⟩)
/-! ### Kings -/
theorem most_L1 {xs : List Nat} (hx : xs.length ≤ 100) : ∀ (g j m : Nat), xs.length < j + g → j ≤ xs.length → ∃ (M : Nat) (x : Int), R3_Most_L1 300 (rowN xs) g (m : Int) (j : Int) = some ((M : Int), x) ∧ m ≤ M ∧ (∀ q, j ≤ q → q < xs.length → xs.getD q 0 ≤ M) ∧ (M = m ∨ M ∈ xs)
  | 0, j, m, h, hj => by omega
  | g+1, j, m, h, hj => by
    rw [R3_Most_L1_s, rowN_len]
    by_cases hlt : j < xs.length
    · have i1 : ix (rowN xs) (j : Int) = some ((xs.getD j 0 : Nat) : Int) := ix_map hlt
      have hmem : xs.getD j 0 ∈ xs := by
        have : xs.getD j 0 = xs[j] := by simp [List.getD, hlt]
        rw [this]; exact List.getElem_mem _
      rw [if_pos (by omega), i1, Option.bind_some, Option.bind_some, w64n (by omega)]
      by_cases c : m < xs.getD j 0
      · rw [if_pos (by omega)]
        obtain ⟨M, x, q1, q2, q3, q4⟩ := most_L1 hx g (j+1) (xs.getD j 0) (by omega) (by omega)
        refine ⟨M, x, q1, by omega, fun q h1 h2 => ?_, ?_⟩
        · by_cases e : q = j
          · subst e; exact q2
          · exact q3 q (by omega) h2
        · rcases q4 with q4 | q4
          · exact .inr (q4 ▸ hmem)
          · exact .inr q4
      · rw [if_neg (by omega)]
        obtain ⟨M, x, q1, q2, q3, q4⟩ := most_L1 hx g (j+1) m (by omega) (by omega)
        refine ⟨M, x, q1, q2, fun q h1 h2 => ?_, q4⟩
        by_cases e : q = j
        · subst e; omega
        · exact q3 q (by omega) h2
    · rw [if_neg (by omega)]; exact ⟨m, _, rfl, Nat.le_refl _, fun q h1 h2 => by omega, .inl rfl⟩
theorem most_ev {xs : List Nat} (hx : xs.length ≤ 100) (h0 : 0 < xs.length) : ∃ M : Nat, R3_Most 300 (rowN xs) = some (M : Int) ∧ M ∈ xs ∧ ∀ q, q < xs.length → xs.getD q 0 ≤ M := by
  unfold R3_Most
  have i1 : ix (rowN xs) 0 = some ((xs.getD 0 0 : Nat) : Int) := ix_map (o := xs) (j := 0) h0
  have hmem : xs.getD 0 0 ∈ xs := by
    have : xs.getD 0 0 = xs[0] := by simp [List.getD, h0]
    rw [this]; exact List.getElem_mem _
  obtain ⟨M, x, q1, q2, q3, q4⟩ := most_L1 hx 300 0 (xs.getD 0 0) (by omega) (by omega)
  rw [i1, Option.bind_some, show R3_Most_L1 300 (rowN xs) 300 ((xs.getD 0 0 : Nat) : Int) 0 = _ from q1]
  refine ⟨M, rfl, ?_, fun q hq => q3 q (Nat.zero_le _) hq⟩
  rcases q4 with h | h
  · rw [h]; exact hmem
  · exact h
theorem kings_L1 {ks ss : List Nat} {k top : Nat} (h8 : k ≤ 8) (hks : ks.length ≤ 8) (hss : ss.length = k) (hall : ∀ i, i < k → ss.getD i 0 = top → i ∈ ks) : ∀ (g j : Nat), k < j + g → j ≤ k → ∃ x, L4_TournKings_L1 300 (k : Int) (rowN ks) (rowN ss) (top : Int) g (j : Int) = some (.inl x)
  | 0, j, h, hj => by omega
  | g+1, j, h, hj => by
    rw [L4_TournKings_L1_s]
    by_cases hlt : j < k
    · have i1 : ix (rowN ss) (j : Int) = some ((ss.getD j 0 : Nat) : Int) := ix_map (by omega)
      rw [if_pos (by omega), i1, Option.bind_some, w64n (by omega)]
      by_cases c : ss.getD j 0 = top
      · rw [if_pos (by rw [beq_iff_eq]; omega), R1_Has_ev _ (by rw [rowN_len]; omega) (by rw [rowN_len]; omega), Option.bind_some, decide_eq_true (mem_rowN.2 (hall j hlt c)), if_pos rfl, Option.bind_some, if_neg (by decide)]
        exact kings_L1 h8 hks hss hall g (j+1) (by omega) (by omega)
      · rw [if_neg (by rw [beq_iff_eq]; omega), Option.bind_some, if_neg (by decide)]
        exact kings_L1 h8 hks hss hall g (j+1) (by omega) (by omega)
    · rw [if_neg (by omega)]; exact ⟨_, rfl⟩
theorem kings_ev' {n : Int} {l : List (Int × Int)} (hg : good n l) : L4_TournKings 300 n l = some true := by
  unfold L4_TournKings
  obtain ⟨e, hc, hE⟩ := check_ev hg
  rw [fact_ev, Option.bind_some, if_pos rfl]
  rcases kings_ev hg hc hE with ⟨h, q⟩ | ⟨h, q⟩
  · rw [q, Option.bind_some]
    dsimp only
    rw [if_pos (by rw [bne_iff_ne]; exact h)]; rfl
  · subst h
    obtain ⟨k, rfl, h1, h8, h24, hin, he, hT, _⟩ := ck_zero hE
    have hs : tourn_Scores 300 (k : Int) l = some (rowN ((List.range k).map (sc l k)), 0) := by
      rcases scores_ev hg hc hE with ⟨h, _⟩ | ⟨_, q⟩
      · exact absurd rfl h
      · exact q k rfl
    obtain ⟨ks, hks⟩ : ∃ ks, (List.range k).filter (isK k l) = ks := ⟨_, rfl⟩
    have hmem : ∀ v, v ∈ ks ↔ King k (gL l) v := by
      intro v
      rw [← hks, List.mem_filter, List.mem_range]
      constructor
      · rintro ⟨hv, h⟩; exact (isK_iff h8 hin hv).1 h
      · intro h; exact ⟨h.1, (isK_iff h8 hin h.1).2 h⟩
    have hnd : ks.Nodup := by rw [← hks]; exact List.nodup_range.filter _
    have hkl : ks.length ≤ 8 := by
      have := List.length_filter_le (isK k l) (List.range k)
      rw [List.length_range, hks] at this; omega
    obtain ⟨ss, hss⟩ : ∃ ss, (List.range k).map (sc l k) = ss := ⟨_, rfl⟩
    have hsl : ss.length = k := by rw [← hss, List.length_map, List.length_range]
    have hsg : ∀ i, i < k → ss.getD i 0 = sc l k i := fun i hi => by rw [← hss]; simp [List.getD, hi]
    obtain ⟨top, t1, t2, t3⟩ := most_ev (xs := ss) (by omega) (by omega)
    have htop : ∃ v, v < k ∧ sc l k v = top := by
      rw [← hss, List.mem_map] at t2
      obtain ⟨v, hv, e⟩ := t2
      exact ⟨v, List.mem_range.1 hv, e⟩
    have hle : ∀ i, i < k → sc l k i ≤ top := fun i hi => by rw [← hsg i hi]; exact t3 i (by omega)
    have hall : ∀ i, i < k → ss.getD i 0 = top → i ∈ ks := fun i hi e => (hmem i).2 (king_max hT hi (fun u hu => by
      have h2 := hle u hu
      have h3 : sc l k i = top := by rw [← hsg i hi]; exact e
      unfold sc at h2 h3; omega))
    have hne0 : ks.length ≠ 0 := by
      obtain ⟨v, hv, e⟩ := htop
      have := hall v hv (by rw [hsg v hv]; exact e)
      intro h0
      rw [List.length_eq_zero_iff] at h0
      rw [h0] at this; cases this
    have unb : ∀ v, v < k → (∀ u, gL l u v = false) → ks = [v] := by
      intro v hv hno
      have h1 : ∀ w, w ∈ ks ↔ w = v := fun w => (hmem w).trans (king_only hT hv hno w)
      match hq : ks, hnd, h1 with
      | [], _, h1 => exact absurd ((h1 v).2 rfl) (by simp)
      | [a], _, h1 => rw [(h1 a).1 List.mem_cons_self]
      | a :: b :: r, hnd, h1 =>
        have e1 := (h1 a).1 List.mem_cons_self
        have e2 := (h1 b).1 (by simp)
        rw [e1, e2] at hnd
        simp at hnd
    have beaten : ∀ v, v ∈ ks → (∀ u, gL l u v = false) ∨ ∃ w, w ∈ ks ∧ gL l w v = true := by
      intro v hv
      by_cases hno : ∀ u, gL l u v = false
      · exact .inl hno
      · right
        obtain ⟨u, hu⟩ : ∃ u, gL l u v = true := by
          apply Classical.byContradiction
          intro h
          exact hno fun u => by
            cases e : gL l u v
            · rfl
            · exact absurd ⟨u, e⟩ h
        obtain ⟨w, w1, w2⟩ := king_over hT hu
        exact ⟨w, (hmem w).2 w1, w2⟩
    have hne2 : ks.length ≠ 2 := by
      intro h2
      match ks, h2, hmem, hnd, unb, beaten with
      | [a, b], _, hmem, hnd, unb, beaten =>
        have ha := beaten a (by simp)
        have hb := beaten b (by simp)
        rcases ha with ha | ⟨w, w1, w2⟩
        · have := unb a ((hmem a).1 (by simp)).1 ha
          simp at this
        · rcases hb with hb | ⟨z, z1, z2⟩
          · have := unb b ((hmem b).1 (by simp)).1 hb
            simp at this
          · have hwb : w = b := by
              rcases List.mem_cons.1 w1 with e | e
              · subst e; rw [hT.irr] at w2; cases w2
              · simpa using e
            have hza : z = a := by
              rcases List.mem_cons.1 z1 with e | e
              · exact e
              · have : z = b := by simpa using e
                subst this; rw [hT.irr] at z2; cases z2
            subst hwb; subst hza
            rw [hT.asym w2] at z2; cases z2
    have hone : ks.length = 1 ↔ top = k - 1 := by
      constructor
      · intro h1'
        match ks, h1', hmem, hnd, unb, beaten with
        | [v], _, hmem, hnd, unb, beaten =>
          have hv : v < k := ((hmem v).1 (by simp)).1
          have hunb : ∀ u, gL l u v = false := by
            rcases beaten v (by simp) with h | ⟨w, w1, w2⟩
            · exact h
            · have : w = v := by simpa using w1
              subst this; rw [hT.irr] at w2; cases w2
          have h2 := (score_top hT hv).2 hunb
          have h3 := hle v hv
          obtain ⟨u, hu, e⟩ := htop
          have h4 := score_le hT hu
          unfold sc at h3 e; omega
      · intro h
        obtain ⟨v, hv, e⟩ := htop
        have h2 := (score_top hT hv).1 (by unfold sc at e; omega)
        rw [unb v hv h2]; rfl
    obtain ⟨x, hx⟩ := kings_L1 h8 hkl hsl hall 300 0 (by omega) (by omega)
    have hw : wrap64 ((k : Int) - 1) = ((k - 1 : Nat) : Int) := by rw [w64 (by omega) (by omega)]; omega
    rw [q k rfl, Option.bind_some, hs, hks, hss]
    dsimp only
    rw [if_neg (by decide), Option.bind_some]
    dsimp only
    rw [if_neg (by decide), rowN_len, rowN_len, if_neg (by rw [bne_iff_ne]; omega), Option.bind_some, if_neg (by decide), if_neg (by rw [beq_iff_eq]; omega), Option.bind_some, if_neg (by decide), if_neg (by rw [beq_iff_eq]; omega), Option.bind_some, if_neg (by decide), t1, Option.bind_some,
      show L4_TournKings_L1 300 (k : Int) (rowN ks) (rowN ss) (top : Int) 300 0 = _ from hx]
    simp only [Option.bind_some, hw]
    by_cases c : ks.length = 1
    · have c2 := hone.1 c
      simp [c, c2]
    · have c2 : ¬ top = k - 1 := fun h => c (hone.2 h)
      have c3 : ((ks.length : Int) == 1) = false := by rw [beq_eq_false_iff_ne]; omega
      have c4 : ((top : Int) == ((k - 1 : Nat) : Int)) = false := by rw [beq_eq_false_iff_ne]; omega
      simp [c3, c4]
theorem tournKings_any (w : World) (n : Int) (hn : (Lit.int .i64 n).wf = true) (A : Option Addr) (cap : Nat) (l : List (Int × Int)) (hr : ReadsL w w.heap.size A l) (hl : l.length ≤ maxLen) :
    Calls Try.prog 4 #[.int .i64 n, .slice A l.length cap] w fun e w' => e = .returned (.bool true) ∧ Below w.heap.size w w' :=
  L4_TournKings_ok w cap hr (kings_ev' ⟨hn, hl⟩)
end
end Go.Proofs.Ytabkmceajgpdjaa
