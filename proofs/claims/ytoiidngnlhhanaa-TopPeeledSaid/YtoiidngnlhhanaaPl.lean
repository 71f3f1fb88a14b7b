import Derived.Test.YtoiidngnlhhanaaByE
import Derived.Test.YtoiidngnlhhanaaHe
import Derived.Test.YtoiidngnlhhanaaMis
import Derived.Test.YtoiidngnlhhanaaCAd
/- greedy colours in reverse elimination order -/
set_option linter.all false
set_option maxRecDepth 100000
namespace Go.Proofs.Ytoiidngnlhhanaa
open Go.RowKit Go.Shelf
open Pl hiding adj nodup_len_le maskOf maskOf_bit maskOf_lt memb_less
theorem rowN_len (m : List Nat) : (rowN m).length = m.length := by unfold rowN; rw [List.length_map]
/-- the later ones beside a point are beside each other -/
def Peo (a : Nat → Nat → Bool) : List Nat → Prop
  | [] => True
  | v :: t => (∀ u ∈ t, ∀ w ∈ t, a v u = true → a v w = true → u ≠ w → a u w = true) ∧ Peo a t
theorem ndiff_bit (left v j : Nat) : (ndiff left (2 ^ v)).testBit j = (left.testBit j && !decide (v = j)) := by
  rw [ndiff_testBit, Nat.testBit_two_pow]
theorem peelG_peo {a : Nat → Nat → Bool} : ∀ (g : Nat) (os : List Nat) (left : Nat) (r : List Nat), left < 65536 → (memb left).length < g → peelG a g os left = some r →
    ∃ t, r = os ++ t ∧ t.Nodup ∧ (∀ v, v ∈ t ↔ left.testBit v = true) ∧ Peo a t
  | 0, os, left, r, _, h, _ => by omega
  | g+1, os, left, r, hl, hg, h => by
    unfold peelG at h
    split at h
    · rename_i hz
      obtain rfl := Option.some.inj h
      exact ⟨[], by simp, .nil, fun v => by rw [hz, Nat.zero_testBit]; simp, trivial⟩
    · split at h
      · cases h
      · rename_i v hf
        have hvm : v ∈ memb left := List.mem_of_find?_eq_some hf
        have hsv : simpB a left v = true := List.find?_some hf
        have hlt : ndiff left (2 ^ v) < 65536 := Nat.lt_of_le_of_lt (ndiff_le _ _) hl
        have hless := memb_less hvm
        obtain ⟨t, t1, t2, t3, t4⟩ := peelG_peo g (os ++ [v]) _ r hlt (by omega) h
        have hsub : ∀ u, u ∈ t → left.testBit u = true ∧ u ≠ v := fun u hu => by
          have := (t3 u).1 hu
          rw [ndiff_bit, Bool.and_eq_true, Bool.not_eq_true', decide_eq_false_iff_not] at this
          exact ⟨this.1, fun e => this.2 e.symm⟩
        refine ⟨v :: t, by rw [t1, List.append_assoc]; rfl, List.nodup_cons.2 ⟨fun hm => (hsub v hm).2 rfl, t2⟩, fun u => ?_, ⟨fun u hu w hw h1 h2 hne => (simpB_iff hl).1 hsv u w (hsub u hu).1 (hsub w hw).1 h1 h2 hne, t4⟩⟩
        rw [List.mem_cons, t3, ndiff_bit, Bool.and_eq_true, Bool.not_eq_true', decide_eq_false_iff_not]
        constructor
        · rintro (rfl | ⟨h, _⟩)
          · exact (mem_memb hl).1 hvm
          · exact h
        · intro h
          by_cases e : u = v
          · exact .inl e
          · exact .inr ⟨h, fun q => e q.symm⟩
theorem Peo.at {a : Nat → Nat → Bool} : ∀ {os : List Nat}, Peo a os → ∀ i j1 j2, i < j1 → i < j2 → j1 < os.length → j2 < os.length → a (os.getD i 0) (os.getD j1 0) = true → a (os.getD i 0) (os.getD j2 0) = true → os.getD j1 0 ≠ os.getD j2 0 → a (os.getD j1 0) (os.getD j2 0) = true
  | [], _, i, j1, j2, _, _, h, _, _, _, _ => by simp at h
  | v :: t, ⟨h1, h2⟩, 0, j1+1, j2+1, _, _, hj1, hj2, e1, e2, hne => by
    have m : ∀ j, j < t.length → t.getD j 0 ∈ t := fun j hj => by
      have : t.getD j 0 = t[j] := by simp [List.getD, hj]
      rw [this]; exact List.getElem_mem _
    have hj1' : j1 < t.length := by simpa using hj1
    have hj2' : j2 < t.length := by simpa using hj2
    exact h1 _ (m j1 hj1') _ (m j2 hj2') (by simpa using e1) (by simpa using e2) (by simpa using hne)
  | v :: t, ⟨h1, h2⟩, i+1, j1+1, j2+1, c1, c2, hj1, hj2, e1, e2, hne => by
    have := Peo.at h2 i j1 j2 (by omega) (by omega) (by simpa using hj1) (by simpa using hj2) (by simpa using e1) (by simpa using e2) (by simpa using hne)
    simpa using this
theorem getD_rev {os : List Nat} {s : Nat} (h : s < os.length) : os.reverse.getD s 0 = os.getD (os.length - 1 - s) 0 := by
  simp only [List.getD, List.getElem?_reverse h]
/-- the greatest colour is one less than the greatest clique -/
theorem greedy_peo {a : Nat → Nat → Bool} (hs : ∀ i j, a i j = a j i) {k : Nat} {os : List Nat} {out : List Int} (h1 : 1 ≤ k) (h8 : k ≤ 8) (hol : os.length = k) (hok : ∀ x ∈ os, x < k) (hn : os.Nodup) (hp : Peo a os) (hk : ∀ u v, a u v = true → v < k)
    (G : Gr a os.reverse k k out) {M : Nat} (hM1 : ∀ v, v < k → ∃ c : Nat, out.getD v (-1) = (c : Int) ∧ c ≤ M) (hM2 : ∃ v, v < k ∧ out.getD v (-1) = (M : Int)) :
    (∀ T, T < 2 ^ k → (∀ u v, T.testBit u = true → T.testBit v = true → u ≠ v → a u v = true) → (memb T).length ≤ M + 1) ∧ ∃ T, T < 2 ^ k ∧ (∀ u v, T.testBit u = true → T.testBit v = true → u ≠ v → a u v = true) ∧ (memb T).length = M + 1 := by
  have hp2 := Nat.pow_le_pow_right (n := 2) (by omega) h8
  have hrl : os.reverse.length = k := by rw [List.length_reverse]; exact hol
  have hro : ∀ x ∈ os.reverse, x < k := fun x hx => hok x (List.mem_reverse.1 hx)
  have hrn : os.reverse.Nodup := (List.reverse_perm os).nodup_iff.2 hn
  have hP := painted hs hk hrl hro hrn G
  have hup : ∀ T, T < 2 ^ k → (∀ u v, T.testBit u = true → T.testBit v = true → u ≠ v → a u v = true) → (memb T).length ≤ M + 1 := by
    intro T hT hc
    have hTl : T < 65536 := by omega
    have hlen : ((memb T).map fun v => (out.getD v (-1)).toNat).length ≤ (List.range (M + 1)).length := by
      refine nodup_len_le ?_ fun x hx => ?_
      · rw [List.Nodup, List.pairwise_map]
        refine (membNd T).imp_of_mem fun {u v} hu hv hne e => ?_
        have hu' := (mem_memb hTl).1 hu
        have hv' := (mem_memb hTl).1 hv
        obtain ⟨c, c1, _⟩ := hM1 u (bitLt hT hu')
        obtain ⟨d, d1, _⟩ := hM1 v (bitLt hT hv')
        have := hP.ne u v (bitLt hT hu') (bitLt hT hv') hne (hc u v hu' hv' hne)
        rw [c1, d1] at this e
        simp at e
        exact this (by rw [e])
      · obtain ⟨v, hv, rfl⟩ := List.mem_map.1 hx
        obtain ⟨c, c1, c2⟩ := hM1 v (bitLt hT ((mem_memb hTl).1 hv))
        rw [c1, Int.toNat_natCast]
        exact List.mem_range.2 (by omega)
    rw [List.length_map, List.length_range] at hlen; exact hlen
  refine ⟨hup, ?_⟩
  obtain ⟨v, hv, hvM⟩ := hM2
  obtain ⟨s, s1, s2⟩ := pos_of hrl hro hrn hv
  obtain ⟨c, c1, c2, c3, c4⟩ := G.co s s1
  rw [s2, hvM] at c1
  obtain rfl : M = c := by omega
  -- one of each lesser colour
  have hex : ∀ d, ∃ r, d < M → r < s ∧ a v (os.reverse.getD r 0) = true ∧ out.getD (os.reverse.getD r 0) (-1) = (d : Int) := by
    intro d
    by_cases hd : d < M
    · obtain ⟨r, r1, r2, r3⟩ := c3 d hd
      rw [s2] at r2
      exact ⟨r, fun _ => ⟨r1, r2, r3⟩⟩
    · exact ⟨0, fun h => absurd h hd⟩
  obtain ⟨f, hf⟩ := Classical.axiomOfChoice hex
  have hpos : ∀ d, d < M → os.reverse.getD (f d) 0 < k := fun d hd => by
    have := (hf d hd).1
    have e : os.reverse.getD (f d) 0 = os.reverse[f d]'(by omega) := by simp only [List.getD, List.getElem?_eq_getElem (show f d < os.reverse.length by omega), Option.getD_some]
    rw [e]; exact hro _ (List.getElem_mem _)
  have hadj : ∀ d e, d < M → e < M → d ≠ e → a (os.reverse.getD (f d) 0) (os.reverse.getD (f e) 0) = true := by
    intro d e hd he hde
    obtain ⟨d1, d2, d3⟩ := hf d hd
    obtain ⟨e1, e2, e3⟩ := hf e he
    have hne : os.reverse.getD (f d) 0 ≠ os.reverse.getD (f e) 0 := fun q => by rw [q, e3] at d3; omega
    rw [← s2] at d2 e2
    rw [getD_rev (by omega)] at d2 e2 hne ⊢
    rw [getD_rev (by omega)] at d2 e2 hne
    rw [getD_rev (by omega)]
    exact hp.at (os.length - 1 - s) _ _ (by omega) (by omega) (by omega) (by omega) d2 e2 hne
  let xs : List Nat := v :: (List.range M).map fun d => os.reverse.getD (f d) 0
  have hxs : xs = v :: (List.range M).map fun d => os.reverse.getD (f d) 0 := rfl
  have hvne : ∀ d, d < M → os.reverse.getD (f d) 0 ≠ v := fun d hd q => by
    have := (hf d hd).2.2
    rw [q, hvM] at this; omega
  have hxn : xs.Nodup := by
    rw [hxs, List.nodup_cons]
    refine ⟨fun hm => ?_, ?_⟩
    · obtain ⟨d, hd, e⟩ := List.mem_map.1 hm
      exact hvne d (List.mem_range.1 hd) e
    · rw [List.Nodup, List.pairwise_map]
      refine List.nodup_range.imp_of_mem fun {d e} hd he hne q => ?_
      have h1 := (hf d (List.mem_range.1 hd)).2.2
      have h2 := (hf e (List.mem_range.1 he)).2.2
      rw [q, h2] at h1; omega
  have hxk : ∀ x ∈ xs, x < k := fun x hx => by
    rw [hxs] at hx
    rcases List.mem_cons.1 hx with rfl | hx
    · exact hv
    · obtain ⟨d, hd, rfl⟩ := List.mem_map.1 hx
      exact hpos d (List.mem_range.1 hd)
  have hcl : ∀ u w, (Pl.maskOf xs).testBit u = true → (Pl.maskOf xs).testBit w = true → u ≠ w → a u w = true := by
    intro u w hu hw hne
    rw [Pl.maskOf_bit, decide_eq_true_eq, hxs] at hu hw
    rcases List.mem_cons.1 hu with eu | hu2 <;> rcases List.mem_cons.1 hw with ew | hw2
    · exact absurd (eu.trans ew.symm) hne
    · obtain ⟨d, hd, rfl⟩ := List.mem_map.1 hw2
      rw [eu]
      exact (hf d (List.mem_range.1 hd)).2.1
    · obtain ⟨d, hd, rfl⟩ := List.mem_map.1 hu2
      rw [ew, hs]; exact (hf d (List.mem_range.1 hd)).2.1
    · obtain ⟨d, hd, rfl⟩ := List.mem_map.1 hu2
      obtain ⟨e, he, rfl⟩ := List.mem_map.1 hw2
      exact hadj d e (List.mem_range.1 hd) (List.mem_range.1 he) (fun q => hne (by rw [q]))
  have hml := Pl.maskOf_lt hxk
  refine ⟨Pl.maskOf xs, hml, hcl, Nat.le_antisymm (hup _ hml hcl) ?_⟩
  have := maskOf_len hxn (fun x hx => Nat.lt_of_lt_of_le (hxk x hx) (by omega))
  rw [hxs, List.length_cons, List.length_map, List.length_range] at this
  exact this
theorem turned_L1 {os : List Nat} (hl : os.length ≤ 100) : ∀ (g j : Nat), j < g → j ≤ os.length → ∃ x : Int, SE_Turned_L1 300 (rowN os) g (rowN ((os.drop j).reverse)) ((j : Int) - 1) = some (rowN os.reverse, x)
  | 0, j, h, hj => by omega
  | g+1, j, h, hj => by
    rw [SE_Turned_L1_s]
    cases j with
    | zero =>
      rw [if_neg (by omega), List.drop_zero]; exact ⟨_, rfl⟩
    | succ j =>
      have i1 : ix (rowN os) (((j + 1 : Nat) : Int) - 1) = some ((os.getD j 0 : Nat) : Int) := by
        rw [show ((j + 1 : Nat) : Int) - 1 = (j : Int) by omega]; exact ix_map (by omega)
      rw [if_pos (by omega), i1, Option.bind_some]
      unfold app
      rw [if_pos (by rw [rowN_len, List.length_reverse, List.length_drop]; omega), Option.bind_some]
      have e : rowN ((os.drop (j+1)).reverse) ++ [((os.getD j 0 : Nat) : Int)] = rowN ((os.drop j).reverse) := by
        have hd : os.drop j = os.getD j 0 :: os.drop (j+1) := by rw [List.drop_eq_getElem_cons (by omega)]; simp [List.getD, show j < os.length by omega]
        rw [hd, List.reverse_cons]; unfold rowN; rw [List.map_append]; rfl
      rw [e, w64 (by omega) (by omega), show ((j + 1 : Nat) : Int) - 1 - 1 = (j : Int) - 1 by omega]
      exact turned_L1 hl g j (by omega) (by omega)
theorem turned_ev {os : List Nat} (hl : os.length ≤ 100) : SE_Turned 300 (rowN os) = some (rowN os.reverse) := by
  unfold SE_Turned
  obtain ⟨x, hx⟩ := turned_L1 hl 300 os.length (by omega) (Nat.le_refl _)
  rw [List.drop_length] at hx
  rw [rowN_len, w64 (by omega) (by omega), show SE_Turned_L1 300 (rowN os) 300 [] ((os.length : Int) - 1) = _ from hx]; rfl
theorem most_L1 {xs : List Nat} (hx : xs.length ≤ 100) : ∀ (g j m : Nat), xs.length < j + g → j ≤ xs.length → ∃ (M : Nat) (x : Int), R3_Most_L1 300 (rowN xs) g (m : Int) (j : Int) = some ((M : Int), x) ∧ m ≤ M ∧ (∀ q, j ≤ q → q < xs.length → xs.getD q 0 ≤ M) ∧ (M = m ∨ M ∈ xs)
  | 0, j, m, h, hj => by omega
  | g+1, j, m, h, hj => by
    rw [R3_Most_L1_s, rowN_len]
    by_cases hlt : j < xs.length
    · have i1 : ix (rowN xs) (j : Int) = some ((xs.getD j 0 : Nat) : Int) := ix_map hlt
      have hmem : xs.getD j 0 ∈ xs := by
        have : xs.getD j 0 = xs[j] := by simp [List.getD, hlt]
        rw [this]; exact List.getElem_mem _
      rw [if_pos (by omega), i1, Option.bind_some, Option.bind_some, w64n (by omega)]
      by_cases c : m < xs.getD j 0
      · rw [if_pos (by omega)]
        obtain ⟨M, x, q1, q2, q3, q4⟩ := most_L1 hx g (j+1) (xs.getD j 0) (by omega) (by omega)
        refine ⟨M, x, q1, by omega, fun q h1 h2 => ?_, ?_⟩
        · by_cases e : q = j
          · subst e; exact q2
          · exact q3 q (by omega) h2
        · rcases q4 with q4 | q4
          · exact .inr (q4 ▸ hmem)
          · exact .inr q4
      · rw [if_neg (by omega)]
        obtain ⟨M, x, q1, q2, q3, q4⟩ := most_L1 hx g (j+1) m (by omega) (by omega)
        refine ⟨M, x, q1, q2, fun q h1 h2 => ?_, q4⟩
        by_cases e : q = j
        · subst e; omega
        · exact q3 q (by omega) h2
    · rw [if_neg (by omega)]; exact ⟨m, _, rfl, Nat.le_refl _, fun q h1 h2 => by omega, .inl rfl⟩
theorem most_ev {xs : List Nat} (hx : xs.length ≤ 100) (h0 : 0 < xs.length) : ∃ M : Nat, R3_Most 300 (rowN xs) = some (M : Int) ∧ M ∈ xs ∧ ∀ q, q < xs.length → xs.getD q 0 ≤ M := by
  unfold R3_Most
  have i1 : ix (rowN xs) 0 = some ((xs.getD 0 0 : Nat) : Int) := ix_map (o := xs) (j := 0) h0
  have hmem : xs.getD 0 0 ∈ xs := by
    have : xs.getD 0 0 = xs[0] := by simp [List.getD, h0]
    rw [this]; exact List.getElem_mem _
  obtain ⟨M, x, q1, q2, q3, q4⟩ := most_L1 hx 300 0 (xs.getD 0 0) (by omega) (by omega)
  rw [i1, Option.bind_some, show R3_Most_L1 300 (rowN xs) 300 ((xs.getD 0 0 : Nat) : Int) 0 = _ from q1]
  refine ⟨M, rfl, ?_, fun q hq => q3 q (Nat.zero_le _) hq⟩
  rcases q4 with h | h
  · rw [h]; exact hmem
  · exact h
/-- a row without numbers below 0 -/
theorem nats_of {k : Nat} {out : List Int} (hl : out.length = k) (h : ∀ v, v < k → ∃ c : Nat, out.getD v (-1) = (c : Int)) : ∃ cs : List Nat, out = rowN cs ∧ cs.length = k ∧ ∀ v, v < k → out.getD v (-1) = ((cs.getD v 0 : Nat) : Int) := by
  have e : out = rowN (out.map Int.toNat) := by
    unfold rowN
    rw [List.map_map]
    refine (List.map_id' out).symm.trans (List.map_congr_left fun x hx => ?_)
    obtain ⟨i, hi, rfl⟩ := List.getElem_of_mem hx
    obtain ⟨c, hc⟩ := h i (by omega)
    have : out.getD i (-1) = out[i] := by simp [List.getD, hi]
    rw [this] at hc
    simp [hc]
  refine ⟨out.map Int.toNat, e, by rw [List.length_map]; exact hl, fun v hv => ?_⟩
  obtain ⟨c, hc⟩ := h v hv
  have h1 : out.getD v (-1) = out[v]'(by omega) := by simp [List.getD, show v < out.length by omega]
  have h2 : (out.map Int.toNat).getD v 0 = (out[v]'(by omega)).toNat := by simp [List.getD, show v < out.length by omega]
  rw [h2, ← h1, hc, Int.toNat_natCast]
end Go.Proofs.Ytoiidngnlhhanaa
