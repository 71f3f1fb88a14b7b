import Derived.Test.YtccdnokddkpmgaaStb2
import Derived.Test.YtccdnokddkpmgaaSym
import Derived.Test.YtccdnokddkpmgaaP1
import Derived.Test.YtccdnokddkpmgaaEv2
/- the order in which lines are taken: by cost, of those that cost as much by place -/
set_option linter.all false
set_option maxRecDepth 100000
namespace Go.Proofs.Ytccdnokddkpmgaa
open Go.RowKit Go.Shelf Go.Sort
section
variable {N : Nat} [Inhabited (Fin N)] (w : Nat → Int)
def ltW (a b : Fin N) : Bool := decide (w a.1 < w b.1)
def ltS (a b : Fin N) : Bool := decide (w a.1 < w b.1 ∨ (w a.1 = w b.1 ∧ a.1 < b.1))
theorem swoS : SWO (ltS (N := N) w) where
  irrefl := fun x => by unfold ltS; rw [decide_eq_false_iff_not]; omega
  trans := fun x y z h1 h2 => by unfold ltS at *; rw [decide_eq_true_eq] at *; omega
  ntrans := fun x y z h1 h2 => by unfold ltS at *; rw [decide_eq_false_iff_not] at *; omega
theorem inner_eq (a : Nat) : ∀ (j : Nat) (d : Array (Fin N)), j < d.size → (∀ p, a ≤ p → p < j → (d[p]!).1 < (d[j]!).1) → insInner (ltW w) a j d = insInner (ltS w) a j d
  | 0, d, _, _ => by rw [insInner, insInner]
  | j+1, d, hj, h => by
    rw [insInner, insInner]
    by_cases ha : a ≤ j
    · have hlt := h j ha (by omega)
      have e : ltW w d[j+1]! d[j]! = ltS w d[j+1]! d[j]! := by
        unfold ltW ltS
        rw [decide_eq_decide]; omega
      rw [e]
      split
      · refine inner_eq a j (swp d (j+1) j) (by simp [swp]; omega) fun p hpa hp => ?_
        rw [swp_getE d hj (by omega), swp_getE d hj (by omega), if_neg (by omega), if_neg (by omega), if_pos rfl]
        exact h p hpa (by omega)
      · rfl
    · have e1 : decide (j + 1 > a) = false := decide_eq_false (by omega)
      rw [e1]; rfl
def Inv (a i : Nat) (d : Array (Fin N)) : Prop := d.size = N ∧ (∀ p, a ≤ p → p < i → (d[p]!).1 < i) ∧ ∀ q, i ≤ q → q < N → (d[q]!).1 = q
theorem inner_inv {a i : Nat} (hi : i < N) : ∀ (j : Nat) (d : Array (Fin N)), j ≤ i → Inv a (i+1) d → Inv a (i+1) (insInner (ltS w) a j d)
  | 0, d, _, h => by rw [insInner]; exact h
  | j+1, d, hj, h => by
    rw [insInner]
    split
    · rename_i hc
      have ha : a ≤ j := by simp only [Bool.and_eq_true, decide_eq_true_eq] at hc; omega
      refine inner_inv hi j _ (by omega) ⟨by simp [swp]; exact h.1, fun p hpa hp => ?_, fun q h1 h2 => ?_⟩
      · rw [swp_getE d (by rw [h.1]; omega) (by rw [h.1]; omega)]
        split
        · exact h.2.1 _ (by omega) (by omega)
        · split
          · exact h.2.1 _ ha (by omega)
          · exact h.2.1 _ hpa hp
      · rw [swp_getE d (by rw [h.1]; omega) (by rw [h.1]; omega), if_neg (by omega), if_neg (by omega)]
        exact h.2.2 q h1 h2
    · exact h
theorem Inv.up {a i : Nat} {d : Array (Fin N)} (hi : i < N) (h : Inv a i d) : Inv a (i+1) d :=
  ⟨h.1, fun p hpa hp => by
    by_cases e : p = i
    · subst e; have := h.2.2 p (Nat.le_refl _) hi; omega
    · have := h.2.1 p hpa (by omega); omega, fun q h1 h2 => h.2.2 q (by omega) h2⟩
theorem outer_eq (a b : Nat) (hb : b ≤ N) : ∀ (n i : Nat) (d : Array (Fin N)), b - i = n → i ≤ b → Inv a i d → insOuter (ltW w) a b i d = insOuter (ltS w) a b i d
  | 0, i, d, hn, hi, _ => by rw [insOuter, if_neg (by omega), insOuter, if_neg (by omega)]
  | n+1, i, d, hn, hi, h => by
    have hlt : i < b := by omega
    conv => lhs; rw [insOuter, if_pos hlt]
    conv => rhs; rw [insOuter, if_pos hlt]
    rw [inner_eq w a i d (by rw [h.1]; omega) fun p hpa hp => by rw [h.2.2 i (Nat.le_refl _) (by omega)]; exact h.2.1 p hpa hp]
    exact outer_eq a b hb n (i+1) _ (by omega) (by omega) (inner_inv w (by omega) i d (Nat.le_refl _) (h.up (by omega)))
theorem ins_eq {a b : Nat} (hab : a ≤ b) (hb : b ≤ N) {d : Array (Fin N)} (hd : Inv a a d) : insertionSort (ltW w) d a b = insertionSort (ltS w) d a b := by
  unfold insertionSort
  by_cases h : a < b
  · exact outer_eq w a b hb _ (a+1) d rfl (by omega) (hd.up (by omega))
  · rw [insOuter, if_neg (by omega), insOuter, if_neg (by omega)]
/-- what the sorted row comes to -/
theorem ext_spec {d z : Array (Fin N)} (hd : Inv 0 0 d) (hp : PermIn 0 N d z) (hs : SortedIn (ltS w) 0 N z) : ∃ ord : List Nat, vF z = ord.map (fun (x : Nat) => (x : Int)) ∧ ord.Nodup ∧ (∀ x, x ∈ ord ↔ x < N) ∧ ord.Pairwise fun a b => w a < w b ∨ (w a = w b ∧ a < b) := by
  have hsz : z.size = N := hp.1.trans hd.1
  have hperm : z.toList.Perm d.toList := by
    have := hp.2.2
    rwa [Array.extract_eq_self_of_le (by omega), Array.extract_eq_self_of_le (by rw [hd.1]; omega)] at this
  have hdl : d.toList.map (fun x => x.1) = List.range N := by
    apply List.ext_getElem (by simp [hd.1])
    intro i hi1 hi2
    have hi : i < N := by simpa using hi2
    have := hd.2.2 i (by omega) hi
    rw [getElem!_pos d i (by rw [hd.1]; exact hi)] at this
    simpa using this
  have hpm : (z.toList.map fun x => x.1).Perm (List.range N) := by rw [← hdl]; exact hperm.map _
  refine ⟨z.toList.map fun x => x.1, by unfold vF; rw [List.map_map]; rfl, (hpm.nodup_iff).2 List.nodup_range, fun x => by rw [hpm.mem_iff, List.mem_range], ?_⟩
  rw [List.pairwise_iff_getElem]
  intro i j hi hj hij
  have hi' : i < z.size := by simpa using hi
  have hj' : j < z.size := by simpa using hj
  have := hs i j (by omega) hij (by omega)
  unfold ltS at this
  rw [decide_eq_false_iff_not, getElem!_pos z i hi', getElem!_pos z j hj'] at this
  have hne : z[i].1 ≠ z[j].1 := by
    intro e
    have hnd := (hpm.nodup_iff).2 List.nodup_range
    exact (List.pairwise_iff_getElem.1 hnd i j hi hj hij) (by simpa using e)
  simp only [List.getElem_map, Array.getElem_toList]
  omega
theorem small_spec {d : Array (Fin N)} (hd : Inv 0 0 d) : PermIn 0 N d (insertionSort (ltW w) d 0 N) ∧ SortedIn (ltS w) 0 N (insertionSort (ltW w) d 0 N) := by
  rw [ins_eq w (Nat.zero_le _) (Nat.le_refl _) hd]
  exact insertionSort_holds (swoS w) d 0 N (Nat.zero_le _) (by rw [hd.1]; exact Nat.le_refl _)
theorem big_spec (h20 : 20 ≤ N) {d : Array (Fin N)} (hd : Inv 0 0 d) : PermIn 0 N d (bigS (ltW w) d) ∧ SortedIn (ltS w) 0 N (bigS (ltW w) d) := by
  have e1 := ins_eq w (a := 0) (b := 20) (by omega) h20 hd
  obtain ⟨p1, s1⟩ := insertionSort_holds (swoS w) d 0 20 (by omega) (by rw [hd.1]; exact h20)
  rw [← e1] at p1 s1
  obtain ⟨d1, hd1⟩ : ∃ x, insertionSort (ltW w) d 0 20 = x := ⟨_, rfl⟩
  rw [hd1] at p1 s1
  have z1 : d1.size = N := p1.1.trans hd.1
  have low1 : ∀ p, 0 ≤ p → p < 20 → (d1[p]!).1 < 20 := permIn_all d d1 0 20 (fun x => x.1 < 20) (by rw [hd.1]; exact h20) p1 fun p _ hp => by
    show (d[p]!).1 < 20
    rw [hd.2.2 p (Nat.zero_le _) (by omega)]; exact hp
  have up1 : ∀ q, 20 ≤ q → q < N → (d1[q]!).1 = q := fun q h1 h2 => by rw [p1.2.1 q (.inr h1)]; exact hd.2.2 q (Nat.zero_le _) h2
  have i1 : Inv 20 20 d1 := ⟨z1, fun p h1 h2 => by omega, up1⟩
  have e2 := ins_eq w (a := 20) (b := N) h20 (Nat.le_refl _) i1
  obtain ⟨p2, s2⟩ := insertionSort_holds (swoS w) d1 20 N h20 (by rw [z1]; exact Nat.le_refl _)
  rw [← e2] at p2 s2
  obtain ⟨d2, hd2⟩ : ∃ x, insertionSort (ltW w) d1 20 N = x := ⟨_, rfl⟩
  rw [hd2] at p2 s2
  have z2 : d2.size = N := p2.1.trans z1
  have low2 : ∀ p, p < 20 → (d2[p]!).1 < 20 := fun p hp => by rw [p2.2.1 p (.inl hp)]; exact low1 p (Nat.zero_le _) hp
  have up2 : ∀ q, 20 ≤ q → q < N → 20 ≤ (d2[q]!).1 := permIn_all d1 d2 20 N (fun x => 20 ≤ x.1) (by rw [z1]; exact Nat.le_refl _) p2 fun q h1 h2 => by
    show 20 ≤ (d1[q]!).1
    rw [up1 q h1 h2]; exact h1
  have s1' : SortedIn (ltS w) 0 20 d2 := fun i j h1 h2 h3 => by rw [p2.2.1 i (.inl (by omega)), p2.2.1 j (.inl h3)]; exact s1 i j h1 h2 h3
  have pp : PermIn 0 N d d2 := permIn_trans _ _ _ 0 N (permIn_mono _ _ 0 20 0 N (Nat.le_refl _) h20 (by rw [hd.1]; exact Nat.le_refl _) p1) (permIn_mono _ _ 20 N 0 N (by omega) (Nat.le_refl _) (by rw [z1]; exact Nat.le_refl _) p2)
  unfold bigS
  rw [hd.1, hd1, hd2]
  by_cases h : N = 20
  · rw [if_pos h]
    exact ⟨pp, fun i j h1 h2 h3 => s1' i j h1 h2 (by omega)⟩
  · rw [if_neg h]
    obtain ⟨q1, q2⟩ := symM_spec (lt := ltS w) (lt' := ltW w) (swoS w) N 0 20 N d2 (by omega) (by omega) (by omega) (by rw [z2]; exact Nat.le_refl _) s1' s2 fun p q h1 h2 h3 h4 => by
      have := low2 p h2
      have := up2 q h3 h4
      unfold ltW ltS
      rw [decide_eq_decide]; omega
    exact ⟨permIn_trans _ _ _ 0 N pp q1, q2⟩
end
def cs (l : List (Int × Int × Int)) (i : Nat) : Int := (l.getD i (0, 0, 0)).2.2
theorem toF_inv {k : Nat} (hk : 0 < k) : ∀ (l : List Int) (hl : l = (List.range k).map fun (x : Nat) => (x : Int)) (h : 0 < l.length), haveI : Inhabited (Fin l.length) := ⟨⟨0, h⟩⟩; Inv 0 0 (toF l h) := by
  intro l hl h
  have hlen : l.length = k := by rw [hl]; simp
  letI : Inhabited (Fin l.length) := ⟨⟨0, h⟩⟩
  refine ⟨by simp [toF], fun p _ hp => by omega, fun q _ hq => ?_⟩
  have hqs : q < (toF l h).size := by simp [toF]; exact hq
  rw [getElem!_pos _ q hqs]
  simp only [toF, List.getElem_toArray, List.getElem_map]
  have hq2 : l[q] = (q : Int) := by
    have : q < k := by omega
    simp [hl]
  split
  · simp only [hq2]; omega
  · rename_i hc; rw [hq2] at hc; omega
theorem cmp_ev {F : Nat} (x y : Int) : cmp_Compare_int F x y = some (if x < y then -1 else if y < x then 1 else 0) := by
  unfold cmp_Compare_int cmp_isNaN_int
  rw [Option.bind_some, Option.bind_some, if_neg (by decide), if_neg (by decide)]
  split
  · rfl
  · split <;> rfl
theorem order_ev {F : Nat} (l : List (Int × Int × Int)) (hl : l.length ≤ 24) :
    ∃ ord : List Nat, slStc (fun z6 z7 => brambleweir_span_Least_1 F l z6 z7) ((List.range l.length).map fun (x : Nat) => (x : Int)) = some (ord.map fun (x : Nat) => (x : Int)) ∧ ord.Nodup ∧ (∀ x, x ∈ ord ↔ x < l.length) ∧
      ord.Pairwise fun a b => cs l a < cs l b ∨ (cs l a = cs l b ∧ a < b) := by
  obtain ⟨k, hk⟩ : ∃ k, l.length = k := ⟨_, rfl⟩
  obtain ⟨r, hr⟩ : ∃ r, r = (List.range k).map fun (x : Nat) => (x : Int) := ⟨_, rfl⟩
  have hlen : r.length = k := by rw [hr]; simp
  have hc : ∀ a b : Nat, a < k → b < k → brambleweir_span_Least_1 F l (a : Int) (b : Int) = some (if cs l a < cs l b then -1 else if cs l b < cs l a then 1 else 0) := fun a b ha hb => by
    unfold brambleweir_span_Least_1
    rw [ix_at (0, 0, 0) (by omega : a < l.length), Option.bind_some, ix_at (0, 0, 0) (by omega : b < l.length), Option.bind_some, cmp_ev]; rfl
  rw [hk, ← hr]
  unfold slStc
  by_cases h0 : r.length = 0
  · rw [if_pos h0]
    have : r = [] := List.length_eq_zero_iff.1 h0
    subst this
    exact ⟨[], rfl, List.nodup_nil, fun x => ⟨(fun h => by cases h), fun h => by simp at hlen; omega⟩, List.Pairwise.nil⟩
  · have h0 : 0 < r.length := by omega
    letI : Inhabited (Fin r.length) := ⟨⟨0, h0⟩⟩
    have hI := toF_inv (k := k) (by omega) r hr h0
    have hlt : ltOf (cfN (fun z6 z7 => brambleweir_span_Least_1 F l z6 z7) r.length) = ltW (cs l) := by
      funext a b
      have ha := a.2; have hb := b.2
      show decide ((brambleweir_span_Least_1 F l ((a.1 : Nat) : Int) ((b.1 : Nat) : Int)).getD 0 < 0) = decide (cs l a.1 < cs l b.1)
      rw [hc a.1 b.1 (by omega) (by omega), Option.getD_some]
      rw [decide_eq_decide]
      split
      · omega
      · split <;> omega
    have hin : ∀ x ∈ r, 0 ≤ x ∧ x < (r.length : Int) := fun x hx => by rw [hr] at hx; obtain ⟨y, hy, rfl⟩ := List.mem_map.1 hx; have := List.mem_range.1 hy; omega
    have hdf : ∀ i, i < r.length → ∀ j, j < r.length → (brambleweir_span_Least_1 F l (i : Int) (j : Int)).isSome = true := fun i hi j hj => by rw [hc i j (by omega) (by omega)]; rfl
    have hsz : (toF r h0).size = r.length := by simp [toF]
    rw [if_neg (by omega)]
    by_cases h20 : r.length < 20
    · rw [if_pos h20]
      obtain ⟨p1, p2⟩ := small_spec (cs l) hI
      obtain ⟨ord, o1, o2, o3, o4⟩ := ext_spec (cs l) hI p1 p2
      refine ⟨ord, ?_, o2, fun x => by rw [o3, hlen], o4⟩
      unfold slStb
      rw [dif_pos ⟨h0, h20, hin, hdf⟩]
      congr 1
      rw [← o1]
      unfold stbOf
      rw [hlt, hsz]
    · rw [if_neg h20]
      obtain ⟨p1, p2⟩ := big_spec (cs l) (by omega) hI
      obtain ⟨ord, o1, o2, o3, o4⟩ := ext_spec (cs l) hI p1 p2
      refine ⟨ord, ?_, o2, fun x => by rw [o3, hlen], o4⟩
      rw [dif_pos ⟨h0, by omega, hin, hdf⟩]
      congr 1
      rw [← o1]
      unfold bigOf
      rw [hlt]
end Go.Proofs.Ytccdnokddkpmgaa
