import Derived.Test.YtccdnokddkpmgaaDoorStb2
import Derived.Test.YtccdnokddkpmgaaDoorSym
import Derived.Test.YtccdnokddkpmgaaDoorP3
import Derived.Test.YtccdnokddkpmgaaDoorEv2
/- the order in which lines are taken: by cost, of those that cost as much by place -/
set_option linter.all false
set_option maxRecDepth 100000
namespace Go.Proofs.YtccdnokddkpmgaaDoor
open Go.RowKit Go.Shelf Go.Sort
section
variable {N : Nat} [Inhabited (Fin N)] (w : Nat → Int)
def ltW (a b : Fin N) : Bool := decide (w a.1 < w b.1)
def ltS (a b : Fin N) : Bool := decide (w a.1 < w b.1 ∨ (w a.1 = w b.1 ∧ a.1 < b.1))
theorem swoS : SWO (ltS (N := N) w) where
  irrefl := fun x => by unfold ltS; rw [decide_eq_false_iff_not]; omega
  trans := fun x y z h1 h2 => by unfold ltS at *; rw [decide_eq_true_eq] at *; omega
  ntrans := fun x y z h1 h2 => by unfold ltS at *; rw [decide_eq_false_iff_not] at *; omega
theorem inner_eq (a : Nat) : ∀ (j : Nat) (d : Array (Fin N)), j < d.size → (∀ p, a ≤ p → p < j → (d[p]!).1 < (d[j]!).1) → insInner (ltW w) a j d = insInner (ltS w) a j d
  | 0, d, _, _ => by rw [insInner, insInner]
  | j+1, d, hj, h => by
    rw [insInner, insInner]
    by_cases ha : a ≤ j
    · have hlt := h j ha (by omega)
      have e : ltW w d[j+1]! d[j]! = ltS w d[j+1]! d[j]! := by
        unfold ltW ltS
        rw [decide_eq_decide]; omega
      rw [e]
      split
      · refine inner_eq a j (swp d (j+1) j) (by simp [swp]; omega) fun p hpa hp => ?_
        rw [swp_getE d hj (by omega), swp_getE d hj (by omega), if_neg (by omega), if_neg (by omega), if_pos rfl]
        exact h p hpa (by omega)
      · rfl
    · have e1 : decide (j + 1 > a) = false := decide_eq_false (by omega)
      rw [e1]; rfl
def Inv (a i : Nat) (d : Array (Fin N)) : Prop := d.size = N ∧ (∀ p, a ≤ p → p < i → (d[p]!).1 < i) ∧ ∀ q, i ≤ q → q < N → (d[q]!).1 = q
theorem inner_inv {a i : Nat} (hi : i < N) : ∀ (j : Nat) (d : Array (Fin N)), j ≤ i → Inv a (i+1) d → Inv a (i+1) (insInner (ltS w) a j d)
  | 0, d, _, h => by rw [insInner]; exact h
  | j+1, d, hj, h => by
    rw [insInner]
    split
    · rename_i hc
      have ha : a ≤ j := by simp only [Bool.and_eq_true, decide_eq_true_eq] at hc; omega
      refine inner_inv hi j _ (by omega) ⟨by simp [swp]; exact h.1, fun p hpa hp => ?_, fun q h1 h2 => ?_⟩
      · rw [swp_getE d (by rw [h.1]; omega) (by rw [h.1]; omega)]
        split
        · exact h.2.1 _ (by omega) (by omega)
        · split
          · exact h.2.1 _ ha (by omega)
          · exact h.2.1 _ hpa hp
      · rw [swp_getE d (by rw [h.1]; omega) (by rw [h.1]; omega), if_neg (by omega), if_neg (by omega)]
        exact h.2.2 q h1 h2
    · exact h
theorem Inv.up {a i : Nat} {d : Array (Fin N)} (hi : i < N) (h : Inv a i d) : Inv a (i+1) d :=
  ⟨h.1, fun p hpa hp => by
    by_cases e : p = i
    · subst e; have := h.2.2 p (Nat.le_refl _) hi; omega
    · have := h.2.1 p hpa (by omega); omega, fun q h1 h2 => h.2.2 q (by omega) h2⟩
theorem outer_eq (a b : Nat) (hb : b ≤ N) : ∀ (n i : Nat) (d : Array (Fin N)), b - i = n → i ≤ b → Inv a i d → insOuter (ltW w) a b i d = insOuter (ltS w) a b i d
  | 0, i, d, hn, hi, _ => by rw [insOuter, if_neg (by omega), insOuter, if_neg (by omega)]
  | n+1, i, d, hn, hi, h => by
    have hlt : i < b := by omega
    conv => lhs; rw [insOuter, if_pos hlt]
    conv => rhs; rw [insOuter, if_pos hlt]
    rw [inner_eq w a i d (by rw [h.1]; omega) fun p hpa hp => by rw [h.2.2 i (Nat.le_refl _) (by omega)]; exact h.2.1 p hpa hp]
    exact outer_eq a b hb n (i+1) _ (by omega) (by omega) (inner_inv w (by omega) i d (Nat.le_refl _) (h.up (by omega)))
theorem ins_eq {a b : Nat} (hab : a ≤ b) (hb : b ≤ N) {d : Array (Fin N)} (hd : Inv a a d) : insertionSort (ltW w) d a b = insertionSort (ltS w) d a b := by
  unfold insertionSort
  by_cases h : a < b
  · exact outer_eq w a b hb _ (a+1) d rfl (by omega) (hd.up (by omega))
  · rw [insOuter, if_neg (by omega), insOuter, if_neg (by omega)]
/-- what the sorted row comes to -/
theorem ext_spec {d z : Array (Fin N)} (hd : Inv 0 0 d) (hp : PermIn 0 N d z) (hs : SortedIn (ltS w) 0 N z) : ∃ ord : List Nat, vF z = ord.map (fun (x : Nat) => (x : Int)) ∧ ord.Nodup ∧ (∀ x, x ∈ ord ↔ x < N) ∧ ord.Pairwise fun a b => w a < w b ∨ (w a = w b ∧ a < b) := by
  have hsz : z.size = N := hp.1.trans hd.1
  have hperm : z.toList.Perm d.toList := by
    have := hp.2.2
    rwa [Array.extract_eq_self_of_le (by omega), Array.extract_eq_self_of_le (by rw [hd.1]; omega)] at this
  have hdl : d.toList.map (fun x => x.1) = List.range N := by
    apply List.ext_getElem (by simp [hd.1])
    intro i hi1 hi2
    have hi : i < N := by simpa using hi2
    have := hd.2.2 i (by omega) hi
    rw [getElem!_pos d i (by rw [hd.1]; exact hi)] at this
    simpa using this
  have hpm : (z.toList.map fun x => x.1).Perm (List.range N) := by rw [← hdl]; exact hperm.map _
  refine ⟨z.toList.map fun x => x.1, by unfold vF; rw [List.map_map]; rfl, (hpm.nodup_iff).2 List.nodup_range, fun x => by rw [hpm.mem_iff, List.mem_range], ?_⟩
  rw [List.pairwise_iff_getElem]
  intro i j hi hj hij
  have hi' : i < z.size := by simpa using hi
  have hj' : j < z.size := by simpa using hj
  have := hs i j (by omega) hij (by omega)
  unfold ltS at this
  rw [decide_eq_false_iff_not, getElem!_pos z i hi', getElem!_pos z j hj'] at this
  have hne : z[i].1 ≠ z[j].1 := by
    intro e
    have hnd := (hpm.nodup_iff).2 List.nodup_range
    exact (List.pairwise_iff_getElem.1 hnd i j hi hj hij) (by simpa using e)
  simp only [List.getElem_map, Array.getElem_toList]
  omega
theorem small_spec {d : Array (Fin N)} (hd : Inv 0 0 d) : PermIn 0 N d (insertionSort (ltW w) d 0 N) ∧ SortedIn (ltS w) 0 N (insertionSort (ltW w) d 0 N) := by
  rw [ins_eq w (Nat.zero_le _) (Nat.le_refl _) hd]
  exact insertionSort_holds (swoS w) d 0 N (Nat.zero_le _) (by rw [hd.1]; exact Nat.le_refl _)
theorem big_spec (h20 : 20 ≤ N) {d : Array (Fin N)} (hd : Inv 0 0 d) : PermIn 0 N d (bigS (ltW w) d) ∧ SortedIn (ltS w) 0 N (bigS (ltW w) d) := by
  have e1 := ins_eq w (a := 0) (b := 20) (by omega) h20 hd
  obtain ⟨p1, s1⟩ := insertionSort_holds (swoS w) d 0 20 (by omega) (by rw [hd.1]; exact h20)
  rw [← e1] at p1 s1
  obtain ⟨d1, hd1⟩ : ∃ x, insertionSort (ltW w) d 0 20 = x := ⟨_, rfl⟩
  rw [hd1] at p1 s1
  have z1 : d1.size = N := p1.1.trans hd.1
  have low1 : ∀ p, 0 ≤ p → p < 20 → (d1[p]!).1 < 20 := permIn_all d d1 0 20 (fun x => x.1 < 20) (by rw [hd.1]; exact h20) p1 fun p _ hp => by
    show (d[p]!).1 < 20
    rw [hd.2.2 p (Nat.zero_le _) (by omega)]; exact hp
  have up1 : ∀ q, 20 ≤ q → q < N → (d1[q]!).1 = q := fun q h1 h2 => by rw [p1.2.1 q (.inr h1)]; exact hd.2.2 q (Nat.zero_le _) h2
  have i1 : Inv 20 20 d1 := ⟨z1, fun p h1 h2 => by omega, up1⟩
  have e2 := ins_eq w (a := 20) (b := N) h20 (Nat.le_refl _) i1
  obtain ⟨p2, s2⟩ := insertionSort_holds (swoS w) d1 20 N h20 (by rw [z1]; exact Nat.le_refl _)
  rw [← e2] at p2 s2
  obtain ⟨d2, hd2⟩ : ∃ x, insertionSort (ltW w) d1 20 N = x := ⟨_, rfl⟩
  rw [hd2] at p2 s2
  have z2 : d2.size = N := p2.1.trans z1
  have low2 : ∀ p, p < 20 → (d2[p]!).1 < 20 := fun p hp => by rw [p2.2.1 p (.inl hp)]; exact low1 p (Nat.zero_le _) hp
  have up2 : ∀ q, 20 ≤ q → q < N → 20 ≤ (d2[q]!).1 := permIn_all d1 d2 20 N (fun x => 20 ≤ x.1) (by rw [z1]; exact Nat.le_refl _) p2 fun q h1 h2 => by
    show 20 ≤ (d1[q]!).1
    rw [up1 q h1 h2]; exact h1
  have s1' : SortedIn (ltS w) 0 20 d2 := fun i j h1 h2 h3 => by rw [p2.2.1 i (.inl (by omega)), p2.2.1 j (.inl h3)]; exact s1 i j h1 h2 h3
  have pp : PermIn 0 N d d2 := permIn_trans _ _ _ 0 N (permIn_mono _ _ 0 20 0 N (Nat.le_refl _) h20 (by rw [hd.1]; exact Nat.le_refl _) p1) (permIn_mono _ _ 20 N 0 N (by omega) (Nat.le_refl _) (by rw [z1]; exact Nat.le_refl _) p2)
  unfold bigS
  rw [hd.1, hd1, hd2]
  by_cases h : N = 20
  · rw [if_pos h]
    exact ⟨pp, fun i j h1 h2 h3 => s1' i j h1 h2 (by omega)⟩
  · rw [if_neg h]
    obtain ⟨q1, q2⟩ := symM_spec (lt := ltS w) (lt' := ltW w) (swoS w) N 0 20 N d2 (by omega) (by omega) (by omega) (by rw [z2]; exact Nat.le_refl _) s1' s2 fun p q h1 h2 h3 h4 => by
      have := low2 p h2
      have := up2 q h3 h4
      unfold ltW ltS
      rw [decide_eq_decide]; omega
    exact ⟨permIn_trans _ _ _ 0 N pp q1, q2⟩
end
def cs (l : List (Int × Int × Int)) (i : Nat) : Int := (l.getD i (0, 0, 0)).2.2
theorem toF_inv {k : Nat} (hk : 0 < k) : ∀ (l : List Int) (hl : l = (List.range k).map fun (x : Nat) => (x : Int)) (h : 0 < l.length), haveI : Inhabited (Fin l.length) := ⟨⟨0, h⟩⟩; Inv 0 0 (toF l h) := by
  intro l hl h
  have hlen : l.length = k := by rw [hl]; simp
  letI : Inhabited (Fin l.length) := ⟨⟨0, h⟩⟩
  refine ⟨by simp [toF], fun p _ hp => by omega, fun q _ hq => ?_⟩
  have hqs : q < (toF l h).size := by simp [toF]; exact hq
  rw [getElem!_pos _ q hqs]
  simp only [toF, List.getElem_toArray, List.getElem_map]
  have hq2 : l[q] = (q : Int) := by
    have : q < k := by omega
    simp [hl]
  split
  · simp only [hq2]; omega
  · rename_i hc; rw [hq2] at hc; omega
theorem cmp_ev {F : Nat} (x y : Int) : cmp_Compare_int F x y = some (if x < y then -1 else if y < x then 1 else 0) := by
  unfold cmp_Compare_int cmp_isNaN_int
  rw [Option.bind_some, Option.bind_some, if_neg (by decide), if_neg (by decide)]
  split
  · rfl
  · split <;> rfl
theorem order_ev {F : Nat} (l : List (Int × Int × Int)) (hl : l.length ≤ 24) :
    ∃ ord : List Nat, slStc (fun z6 z7 => brambleweir_span_Least_1 F l z6 z7) ((List.range l.length).map fun (x : Nat) => (x : Int)) = some (ord.map fun (x : Nat) => (x : Int)) ∧ ord.Nodup ∧ (∀ x, x ∈ ord ↔ x < l.length) ∧
      ord.Pairwise fun a b => cs l a < cs l b ∨ (cs l a = cs l b ∧ a < b) := by
  obtain ⟨k, hk⟩ : ∃ k, l.length = k := ⟨_, rfl⟩
  obtain ⟨r, hr⟩ : ∃ r, r = (List.range k).map fun (x : Nat) => (x : Int) := ⟨_, rfl⟩
  have hlen : r.length = k := by rw [hr]; simp
  have hc : ∀ a b : Nat, a < k → b < k → brambleweir_span_Least_1 F l (a : Int) (b : Int) = some (if cs l a < cs l b then -1 else if cs l b < cs l a then 1 else 0) := fun a b ha hb => by
    unfold brambleweir_span_Least_1
    rw [ix_at (0, 0, 0) (by omega : a < l.length), Option.bind_some, ix_at (0, 0, 0) (by omega : b < l.length), Option.bind_some, cmp_ev]; rfl
  rw [hk, ← hr]
  unfold slStc
  by_cases h0 : r.length = 0
  · rw [if_pos h0]
    have : r = [] := List.length_eq_zero_iff.1 h0
    subst this
    exact ⟨[], rfl, List.nodup_nil, fun x => ⟨(fun h => by cases h), fun h => by simp at hlen; omega⟩, List.Pairwise.nil⟩
  · have h0 : 0 < r.length := by omega
    letI : Inhabited (Fin r.length) := ⟨⟨0, h0⟩⟩
    have hI := toF_inv (k := k) (by omega) r hr h0
    have hlt : ltOf (cfN (fun z6 z7 => brambleweir_span_Least_1 F l z6 z7) r.length) = ltW (cs l) := by
      funext a b
      have ha := a.2; have hb := b.2
      show decide ((brambleweir_span_Least_1 F l ((a.1 : Nat) : Int) ((b.1 : Nat) : Int)).getD 0 < 0) = decide (cs l a.1 < cs l b.1)
      rw [hc a.1 b.1 (by omega) (by omega), Option.getD_some]
      rw [decide_eq_decide]
      split
      · omega
      · split <;> omega
    have hin : ∀ x ∈ r, 0 ≤ x ∧ x < (r.length : Int) := fun x hx => by rw [hr] at hx; obtain ⟨y, hy, rfl⟩ := List.mem_map.1 hx; have := List.mem_range.1 hy; omega
    have hdf : ∀ i, i < r.length → ∀ j, j < r.length → (brambleweir_span_Least_1 F l (i : Int) (j : Int)).isSome = true := fun i hi j hj => by rw [hc i j (by omega) (by omega)]; rfl
    have hsz : (toF r h0).size = r.length := by simp [toF]
    rw [if_neg (by omega)]
    by_cases h20 : r.length < 20
    · rw [if_pos h20]
      obtain ⟨p1, p2⟩ := small_spec (cs l) hI
      obtain ⟨ord, o1, o2, o3, o4⟩ := ext_spec (cs l) hI p1 p2
      refine ⟨ord, ?_, o2, fun x => by rw [o3, hlen], o4⟩
      unfold slStb
      rw [dif_pos ⟨h0, h20, hin, hdf⟩]
      congr 1
      rw [← o1]
      unfold stbOf
      rw [hlt, hsz]
    · rw [if_neg h20]
      obtain ⟨p1, p2⟩ := big_spec (cs l) (by omega) hI
      obtain ⟨ord, o1, o2, o3, o4⟩ := ext_spec (cs l) hI p1 p2
      refine ⟨ord, ?_, o2, fun x => by rw [o3, hlen], o4⟩
      rw [dif_pos ⟨h0, by omega, hin, hdf⟩]
      congr 1
      rw [← o1]
      unfold bigOf
      rw [hlt]
end Go.Proofs.YtccdnokddkpmgaaDoor
/- what is wrong with lines that cost something -/
set_option linter.all false
set_option maxRecDepth 100000
namespace Go.Proofs.YtccdnokddkpmgaaDoor
open Go.RowKit Pl
def InC (k : Nat) (l : List Cost) : Prop := ∀ e ∈ l, (0 ≤ e.1 ∧ e.1 < (k : Int)) ∧ (0 ≤ e.2.1 ∧ e.2.1 < (k : Int)) ∧ (0 ≤ e.2.2 ∧ e.2.2 ≤ 20) ∧ e.1 ≠ e.2.1
def errCs (n : Int) : List Cost → Int
  | [] => 0
  | e :: l => if ¬ (((0 ≤ e.1 ∧ e.1 ≤ n - 1) ∧ (0 ≤ e.2.1 ∧ e.2.1 ≤ n - 1)) ∧ (0 ≤ e.2.2 ∧ e.2.2 ≤ 20)) then 1 else if e.1 = e.2.1 then 3 else errCs n l
def errC (n : Int) (l : List Cost) : Int := if ¬ (1 ≤ n ∧ n ≤ 8) then 1 else if 24 < l.length then 4 else errCs n l
theorem errCs_in {k : Nat} : ∀ {l : List Cost}, errCs (k : Int) l = 0 → InC k l
  | [], _ => fun e he => by cases he
  | e :: l, h => by
    unfold errCs at h
    split at h
    · cases h
    · rename_i h1
      split at h
      · cases h
      · rename_i h2
        intro x hx
        rcases List.mem_cons.1 hx with rfl | hx
        · exact ⟨by omega, by omega, by omega, h2⟩
        · exact errCs_in h x hx
theorem spanck_L1 (n : Int) (hn : 1 ≤ n ∧ n ≤ 8) (l : List Cost) (hl : l.length ≤ 24) : ∀ g t, l.length < g + t → t ≤ l.length →
    span_Check_L1 300 n l g (t : Int) = some (if errCs n (l.drop t) = 0 then .inl () else .inr (errCs n (l.drop t)))
  | 0, t, h, _ => by omega
  | g+1, t, h, ht => by
    rw [span_Check_L1_s]
    by_cases hlt : t < l.length
    · rw [if_pos (by omega), ix_nat hlt, List.drop_eq_getElem_cons hlt, w64n (by omega), w64 (by omega) (by omega)]
      have ih := spanck_L1 n hn l hl g (t+1) (by omega) (by omega)
      push_cast at ih
      generalize l[t] = e at *
      simp only [Option.bind_some, core_All_ev 0 (n - 1) (show [e.1, e.2.1].length < 300 by simp) (show [e.1, e.2.1].length < 9223372036854775807 by simp), core_Within_ev]
      have e1 : allIn [e.1, e.2.1] 0 (n - 1) = decide ((0 ≤ e.1 ∧ e.1 ≤ n - 1) ∧ (0 ≤ e.2.1 ∧ e.2.1 ≤ n - 1)) := by
        rw [Bool.eq_iff_iff]; simp [allIn]
      rw [e1]
      unfold errCs
      by_cases h1 : (0 ≤ e.1 ∧ e.1 ≤ n - 1) ∧ (0 ≤ e.2.1 ∧ e.2.1 ≤ n - 1)
      · by_cases h2 : 0 ≤ e.2.2 ∧ e.2.2 ≤ 20
        · by_cases h3 : e.1 = e.2.1
          · have h3' : (e.1 == e.2.1) = true := by simpa using h3
            rw [if_pos (decide_eq_true h1), if_pos (decide_eq_true h2), if_neg (not_not_intro (And.intro h1 h2)), if_pos h3]
            simp [h3']
          · have h3' : (e.1 == e.2.1) = false := by simpa using h3
            rw [if_pos (decide_eq_true h1), if_pos (decide_eq_true h2), if_neg (not_not_intro (And.intro h1 h2)), if_neg h3]
            simp [h3', ih]
        · rw [if_pos (decide_eq_true h1), if_neg (by simpa using h2), if_pos (fun h => h2 h.2)]
          simp
      · rw [if_neg (by simpa using h1), if_pos (fun h => h1 h.1)]
        simp
    · obtain rfl : t = l.length := by omega
      rw [if_neg (by omega), List.drop_length]; rfl
theorem spanck_ev (n : Int) (l : List Cost) : span_Check 300 n l = some (errC n l) := by
  unfold span_Check errC
  rw [core_Within_ev, Option.bind_some]
  by_cases hn : 1 ≤ n ∧ n ≤ 8
  · rw [if_pos (by simpa using hn), if_neg (not_not_intro hn)]
    by_cases hl : 24 < l.length
    · rw [if_pos (by omega), if_pos hl]
    · have h := spanck_L1 n hn l (by omega) 300 0 (by omega) (by omega)
      have h' : span_Check_L1 300 n l 300 0 = _ := h
      rw [if_neg (by omega), if_neg hl, h', List.drop_zero]
      by_cases e : errCs n l = 0 <;> simp [e]
  · rw [if_neg (by simpa using hn), if_pos hn]
theorem errC_zero {n : Int} {l : List Cost} (h : errC n l = 0) : ∃ k : Nat, n = k ∧ 1 ≤ k ∧ k ≤ 8 ∧ l.length ≤ 24 ∧ InC k l := by
  unfold errC at h
  split at h
  · cases h
  · rename_i h1
    split at h
    · cases h
    · obtain ⟨k, rfl⟩ := Int.eq_ofNat_of_zero_le (show 0 ≤ n by omega)
      exact ⟨k, rfl, by omega, by omega, by omega, errCs_in h⟩
end Go.Proofs.YtccdnokddkpmgaaDoor
/- what Least comes to: a fold over the lines in their order -/
set_option linter.all false
set_option maxRecDepth 100000
namespace Go.Proofs.YtccdnokddkpmgaaDoor
open Go.RowKit Pl
def setAll (W : List Nat) (xs : List Nat) (m : Nat) : List Nat := xs.foldl (fun W x => W.set x m) W
theorem setAll_len (m : Nat) : ∀ (xs W : List Nat), (setAll W xs m).length = W.length
  | [], W => rfl
  | x :: xs, W => by
    show (setAll (W.set x m) xs m).length = _
    rw [setAll_len m xs, List.length_set]
theorem setAll_at (m : Nat) (v : Nat) : ∀ (xs W : List Nat), v < W.length → (setAll W xs m).getD v 0 = if v ∈ xs then m else W.getD v 0
  | [], W, h => by simp [setAll]
  | x :: xs, W, h => by
    show (setAll (W.set x m) xs m).getD v 0 = _
    rw [setAll_at m v xs _ (by rw [List.length_set]; exact h)]
    by_cases hv : v ∈ xs
    · rw [if_pos hv, if_pos (List.mem_cons_of_mem _ hv)]
    · rw [if_neg hv]
      by_cases e : x = v
      · subst e
        rw [if_pos List.mem_cons_self]; simp [List.getD, h]
      · rw [if_neg (by rw [List.mem_cons]; exact fun q => q.elim (fun q => e q.symm) hv)]
        simp [List.getD, List.getElem?_set_ne e]
abbrev St := List Nat × List Bool × Int
def pA (l : List (Int × Int × Int)) (i : Nat) : Nat := (l.getD i (0, 0, 0)).1.toNat
def pB (l : List (Int × Int × Int)) (i : Nat) : Nat := (l.getD i (0, 0, 0)).2.1.toNat
def krS (l : List (Int × Int × Int)) (S : St) (i : Nat) : St :=
  if (S.1.getD (pA l i) 0).testBit (pB l i) = true then S
  else (setAll S.1 (memb (S.1.getD (pA l i) 0 ||| S.1.getD (pB l i) 0)) (S.1.getD (pA l i) 0 ||| S.1.getD (pB l i) 0), S.2.1.set i true, S.2.2 + cs l i)
section
variable {k : Nat} {l : List (Int × Int × Int)}
def okSt (k m j : Nat) (S : St) : Prop := S.1.length = k ∧ (∀ v, S.1.getD v 0 < 2 ^ k) ∧ S.2.1.length = m ∧ 0 ≤ S.2.2 ∧ S.2.2 ≤ 20 * (j : Int)
theorem bits_lt' {m n j : Nat} (hm : m < 2 ^ n) (hb : m.testBit j = true) : j < n := by
  rcases Nat.lt_or_ge j n with h | h
  · exact h
  · have := Nat.testBit_lt_two_pow (Nat.lt_of_lt_of_le hm (Nat.pow_le_pow_right (by omega) h))
    rw [this] at hb; cases hb
theorem okSt_step (hk : k ≤ 8) (hin : InC k l) {S : St} {i j : Nat} (hi : i < l.length) (h : okSt k l.length j S) : okSt k l.length (j+1) (krS l S i) := by
  obtain ⟨h1, h2, h3, h4, h5⟩ := h
  have he := hin _ (List.getElem_mem hi)
  have hc : cs l i = l[i].2.2 := by unfold cs; simp [List.getD, hi]
  unfold krS
  split
  · exact ⟨h1, h2, h3, h4, by omega⟩
  · refine ⟨by rw [setAll_len]; exact h1, fun v => ?_, by rw [List.length_set]; exact h3, by show 0 ≤ S.2.2 + cs l i; omega, by show S.2.2 + cs l i ≤ _; omega⟩
    by_cases hv : v < S.1.length
    · rw [setAll_at _ _ _ _ hv]
      split
      · exact Nat.or_lt_two_pow (h2 _) (h2 _)
      · exact h2 v
    · have : (setAll S.1 (memb (S.1.getD (pA l i) 0 ||| S.1.getD (pB l i) 0)) (S.1.getD (pA l i) 0 ||| S.1.getD (pB l i) 0)).length ≤ v := by rw [setAll_len]; omega
      rw [List.getD_eq_getElem?_getD, List.getElem?_eq_none this]
      exact Nat.two_pow_pos k
theorem ls_L4 (F m : Nat) : ∀ (xs W : List Nat), (∀ x ∈ xs, x < W.length) → span_Least_L4 F m xs W = some (setAll W xs m)
  | [], W, _ => by rw [span_Least_L4_n]; rfl
  | x :: xs, W, h => by
    rw [span_Least_L4_c, st_nat (h x List.mem_cons_self), Option.bind_some, ls_L4 F m xs _ fun y hy => by rw [List.length_set]; exact h y (List.mem_cons_of_mem _ hy)]; rfl
theorem ls_L3 (hk : k ≤ 8) (hin : InC k l) (h24 : l.length ≤ 24) {ord : List Nat} (hord : ∀ x ∈ ord, x < l.length) (hol : ord.length ≤ 24) : ∀ (g j : Nat) (S : St), ord.length < j + g → j ≤ ord.length → okSt k l.length j S →
    span_Least_L3 300 l (ord.map fun (x : Nat) => (x : Int)) g (j : Int) S.1 S.2.1 S.2.2 = some ((ord.drop j).foldl (krS l) S)
  | 0, j, S, h, hj, _ => by omega
  | g+1, j, S, h, hj, hS => by
    have hp := Nat.pow_le_pow_right (n := 2) (by omega) hk
    rw [span_Least_L3_s, List.length_map]
    by_cases c : j < ord.length
    · have hi := hord _ (List.getElem_mem c)
      have he := hin _ (List.getElem_mem hi)
      obtain ⟨i, hie⟩ : ∃ i, ord[j] = i := ⟨_, rfl⟩
      have hS' := okSt_step hk hin (i := ord[j]) hi hS
      obtain ⟨h1, h2, h3, h4, h5⟩ := hS
      have hix : ix (ord.map fun (x : Nat) => (x : Int)) (j : Int) = some ((ord[j] : Nat) : Int) := by rw [ix_nat (by rw [List.length_map]; exact c), List.getElem_map]
      rw [List.drop_eq_getElem_cons c, List.foldl_cons]
      rw [hie] at hi hS' hix ⊢
      have he := hin _ (List.getElem_mem hi)
      have hgd : l.getD i (0, 0, 0) = l[i] := by simp [List.getD, hi]
      have hA : l[i].1 = ((pA l i : Nat) : Int) := by unfold pA; rw [hgd]; omega
      have hB : l[i].2.1 = ((pB l i : Nat) : Int) := by unfold pB; rw [hgd]; omega
      have hC : l[i].2.2 = cs l i := by unfold cs; rw [hgd]
      have hAk : pA l i < k := by omega
      have hBk : pB l i < k := by omega
      have i1 : ix S.1 ((pA l i : Nat) : Int) = some (S.1.getD (pA l i) 0) := ix_at 0 (by omega)
      have i2 : ix S.1 ((pB l i : Nat) : Int) = some (S.1.getD (pB l i) 0) := ix_at 0 (by omega)
      have hhas : sHas (S.1.getD (pA l i) 0) ((pB l i : Nat) : Int) = some ((S.1.getD (pA l i) 0).testBit (pB l i)) := by
        have := h2 (pA l i)
        unfold sHas; rw [if_pos ⟨by omega, by omega, by omega⟩]; rfl
      have ih := ls_L3 hk hin h24 hord hol g (j+1) (krS l S i) (by omega) (by omega) hS'
      rw [if_pos (by omega), hix, Option.bind_some, ix_nat hi, Option.bind_some, hA, hB, hC, i1, Option.bind_some, hhas, Option.bind_some, w64n (by omega)]
      cases e : (S.1.getD (pA l i) 0).testBit (pB l i)
      · have hk1 : krS l S i = (setAll S.1 (memb (S.1.getD (pA l i) 0 ||| S.1.getD (pB l i) 0)) (S.1.getD (pA l i) 0 ||| S.1.getD (pB l i) 0), S.2.1.set i true, S.2.2 + cs l i) := by unfold krS; rw [if_neg (by rw [e]; decide)]
        have hor : S.1.getD (pA l i) 0 ||| S.1.getD (pB l i) 0 < 2 ^ k := Nat.or_lt_two_pow (h2 _) (h2 _)
        have hO : sOr (S.1.getD (pA l i) 0) (S.1.getD (pB l i) 0) = some (S.1.getD (pA l i) 0 ||| S.1.getD (pB l i) 0) := by
          have := h2 (pA l i); have := h2 (pB l i)
          unfold sOr; rw [if_pos ⟨by omega, by omega⟩]
        have hE : sEach (S.1.getD (pA l i) 0 ||| S.1.getD (pB l i) 0) = some (memb (S.1.getD (pA l i) 0 ||| S.1.getD (pB l i) 0)) := by unfold sEach; rw [if_pos (by omega)]
        have hL4 := ls_L4 300 (S.1.getD (pA l i) 0 ||| S.1.getD (pB l i) 0) (memb (S.1.getD (pA l i) 0 ||| S.1.getD (pB l i) 0)) S.1 fun x hx => by
          rw [h1]; exact bits_lt' hor ((mem_memb (by omega)).1 hx)
        have hcs : 0 ≤ cs l i ∧ cs l i ≤ 20 := by rw [← hC]; exact he.2.2.1
        rw [if_neg (by decide), st_nat (by omega : i < S.2.1.length), Option.bind_some, i2, Option.bind_some, Option.bind_some, hO, Option.bind_some, hE, Option.bind_some, hL4, Option.bind_some, w64 (by omega) (by omega)]
        rw [hk1] at ih ⊢
        exact ih
      · have hk1 : krS l S i = S := by unfold krS; rw [if_pos e]
        rw [if_pos rfl]
        rw [hk1] at ih ⊢
        exact ih
    · have : j = ord.length := by omega
      subst this
      rw [if_neg (by omega), List.drop_length]; rfl
theorem ls_L1 {m : Nat} (hm : m ≤ 24) : ∀ (g j : Nat) (v : List Int), m < j + g → j ≤ m → v.length = m → (∀ x, x < j → v.getD x 0 = (x : Int)) → span_Least_L1 300 (m : Int) g (j : Int) v = some ((List.range m).map fun (x : Nat) => (x : Int))
  | 0, j, v, h, hj, _, _ => by omega
  | g+1, j, v, h, hj, hv, hx => by
    rw [span_Least_L1_s]
    by_cases c : j < m
    · rw [if_pos (by omega), st_nat (by omega : j < v.length), Option.bind_some, w64n (by omega)]
      refine ls_L1 hm g (j+1) _ (by omega) (by omega) (by rw [List.length_set]; exact hv) fun x hxj => ?_
      by_cases e : j = x
      · subst e; simp [List.getD, hv, c]
      · rw [List.getD_eq_getElem?_getD, List.getElem?_set_ne e, ← List.getD_eq_getElem?_getD]; exact hx x (by omega)
    · rw [if_neg (by omega)]
      congr 1
      apply List.ext_getElem (by simp; omega)
      intro i h1 h2
      have := hx i (by omega)
      rw [List.getElem_map, List.getElem_range, ← this]
      simp [List.getD, h1]
theorem ls_L2 (hk : k ≤ 8) : ∀ (g j : Nat) (v : List Nat), k < j + g → j ≤ k → v.length = k → (∀ x, x < j → v.getD x 0 = 2 ^ x) → span_Least_L2 300 (k : Int) g (j : Int) v = some ((List.range k).map fun x => 2 ^ x)
  | 0, j, v, h, hj, _, _ => by omega
  | g+1, j, v, h, hj, hv, hx => by
    rw [span_Least_L2_s]
    by_cases c : j < k
    · have hw : sWith 0 (j : Int) = some (2 ^ j) := by unfold sWith; rw [if_pos ⟨by omega, by omega, by omega⟩, Int.toNat_natCast, Nat.zero_or]
      rw [if_pos (by omega), hw, Option.bind_some, st_nat (by omega : j < v.length), Option.bind_some, w64n (by omega)]
      refine ls_L2 hk g (j+1) _ (by omega) (by omega) (by rw [List.length_set]; exact hv) fun x hxj => ?_
      by_cases e : j = x
      · subst e; simp [List.getD, hv, c]
      · rw [List.getD_eq_getElem?_getD, List.getElem?_set_ne e, ← List.getD_eq_getElem?_getD]; exact hx x (by omega)
    · rw [if_neg (by omega)]
      congr 1
      apply List.ext_getElem (by simp; omega)
      intro i h1 h2
      have := hx i (by omega)
      rw [List.getElem_map, List.getElem_range, ← this]
      simp [List.getD, h1]
def st0 (k m : Nat) : St := ((List.range k).map fun x => 2 ^ x, List.replicate m false, 0)
theorem ok0 (hk : k ≤ 8) : okSt k l.length 0 (st0 k l.length) := by
  refine ⟨by simp [st0], fun v => ?_, by simp [st0], Int.le_refl _, Int.le_refl _⟩
  by_cases hv : v < k
  · have : (st0 k l.length).1.getD v 0 = 2 ^ v := by simp [st0, List.getD, hv]
    rw [this]; exact Nat.pow_lt_pow_right (by omega) hv
  · have : (st0 k l.length).1.getD v 0 = 0 := by rw [List.getD_eq_getElem?_getD, List.getElem?_eq_none (by simp [st0]; omega)]; rfl
    rw [this]; exact Nat.two_pow_pos k
theorem least_ev' (h1 : 1 ≤ k) (hk : k ≤ 8) (hin : InC k l) (h24 : l.length ≤ 24) (hch : span_Check 300 (k : Int) l = some 0) :
    ∃ ord : List Nat, ord.Nodup ∧ (∀ x, x ∈ ord ↔ x < l.length) ∧ (ord.Pairwise fun a b => cs l a < cs l b ∨ (cs l a = cs l b ∧ a < b)) ∧
      span_Least 300 (k : Int) l = some (if (ord.foldl (krS l) (st0 k l.length)).1.getD 0 0 = 2 ^ k - 1 then ((ord.foldl (krS l) (st0 k l.length)).2.1, (ord.foldl (krS l) (st0 k l.length)).2.2, 0) else ([], 0, 5)) := by
  have hp := Nat.pow_le_pow_right (n := 2) (by omega) hk
  obtain ⟨ord, o1, o2, o3, o4⟩ := order_ev (F := 300) l h24
  refine ⟨ord, o2, o3, o4, ?_⟩
  have hol : ord.length ≤ 24 := by
    have hp : ord.Perm (List.range l.length) := (List.perm_ext_iff_of_nodup o2 List.nodup_range).2 fun x => by rw [o3, List.mem_range]
    have := hp.length_eq; rw [List.length_range] at this; omega
  have e1 : mkI (l.length : Int) = some (List.replicate l.length 0) := by unfold mkI; rw [if_pos (by omega), Int.toNat_natCast]
  have e2 : span_Least_L1 300 (((List.replicate l.length (0 : Int)).length : Nat) : Int) 300 0 (List.replicate l.length 0) = some ((List.range l.length).map fun (x : Nat) => (x : Int)) := by
    rw [List.length_replicate]; exact ls_L1 h24 300 0 _ (by omega) (Nat.zero_le _) (by simp) fun x hx => by omega
  have e3 : mkM (k : Int) = some (List.replicate k 0) := by unfold mkM; rw [if_pos (by omega), Int.toNat_natCast]
  have e4 : span_Least_L2 300 (((List.replicate k (0 : Nat)).length : Nat) : Int) 300 0 (List.replicate k 0) = some ((List.range k).map fun x => 2 ^ x) := by
    rw [List.length_replicate]; exact ls_L2 hk 300 0 _ (by omega) (Nat.zero_le _) (by simp) fun x hx => by omega
  have e5 : mkB (l.length : Int) = some (List.replicate l.length false) := by unfold mkB; rw [if_pos (by omega), Int.toNat_natCast]
  have e6 := ls_L3 hk hin h24 (ord := ord) (fun x hx => (o3 x).1 hx) hol 300 0 (st0 k l.length) (by omega) (Nat.zero_le _) (ok0 hk)
  rw [List.drop_zero] at e6
  have hfin : ∀ (xs : List Nat) (j : Nat) (S : St), (∀ x ∈ xs, x < l.length) → okSt k l.length j S → okSt k l.length (j + xs.length) (xs.foldl (krS l) S) := by
    intro xs
    induction xs with
    | nil => intro j S _ h; exact h
    | cons x xs ih =>
      intro j S hx h
      have := ih (j+1) _ (fun y hy => hx y (List.mem_cons_of_mem _ hy)) (okSt_step hk hin (hx x List.mem_cons_self) h)
      rw [List.length_cons, show j + (xs.length + 1) = j + 1 + xs.length by omega]; exact this
  obtain ⟨f1, f2, _⟩ := hfin ord 0 _ (fun x hx => (o3 x).1 hx) (ok0 hk)
  obtain ⟨R, hR⟩ : ∃ R, ord.foldl (krS l) (st0 k l.length) = R := ⟨_, rfl⟩
  rw [hR] at e6 f1 f2 ⊢
  have hb : sBelow (k : Int) = some (2 ^ k - 1) := by unfold sBelow; rw [if_pos (by omega), Int.toNat_natCast]
  have h0 : ix R.1 0 = some (R.1.getD 0 0) := ix_at (l := R.1) (i := 0) 0 (by omega)
  unfold span_Least
  rw [hch, Option.bind_some, if_neg (by decide), e1, Option.bind_some, e2, Option.bind_some, o1, Option.bind_some, e3, Option.bind_some, e4, Option.bind_some, e5, Option.bind_some,
    show span_Least_L3 300 l (ord.map fun (x : Nat) => (x : Int)) 300 0 ((List.range k).map fun x => 2 ^ x) (List.replicate l.length false) 0 = _ from e6, Option.bind_some]
  rw [h0, Option.bind_some, hb, Option.bind_some]
  by_cases c : R.1.getD 0 0 = 2 ^ k - 1
  · rw [if_pos c, if_neg (by rw [bne_iff_ne]; exact fun h => h c)]
  · rw [if_neg c, if_pos (by rw [bne_iff_ne]; exact c)]
end
end Go.Proofs.YtccdnokddkpmgaaDoor
/- SpanBoruvka -/
set_option linter.all false
set_option maxRecDepth 100000
namespace Go.Proofs.YtccdnokddkpmgaaDoor
open Go.RowKit Pl
/-! ### hanging together -/
inductive Cn (l : List (Int × Int × Int)) (T : List Nat) : Nat → Nat → Prop
  | refl (a : Nat) : Cn l T a a
  | step {a b c i : Nat} : Cn l T a b → i ∈ T → (pA l i = b ∧ pB l i = c ∨ pA l i = c ∧ pB l i = b) → Cn l T a c
section
variable {l : List (Int × Int × Int)} {T : List Nat}
theorem Cn.trans {a b c : Nat} (h : Cn l T a b) (k : Cn l T b c) : Cn l T a c := by
  induction k with
  | refl => exact h
  | step _ hi hj ih => exact .step ih hi hj
theorem Cn.symm {a b : Nat} (h : Cn l T a b) : Cn l T b a := by
  induction h with
  | refl => exact .refl _
  | step _ hi hj ih => exact Cn.trans (.step (.refl _) hi (hj.elim (fun q => .inr ⟨q.1, q.2⟩) fun q => .inl ⟨q.1, q.2⟩)) ih
theorem Cn.mono {T' : List Nat} (hs : ∀ x ∈ T, x ∈ T') {a b : Nat} (h : Cn l T a b) : Cn l T' a b := by
  induction h with
  | refl => exact .refl _
  | step _ hi hj ih => exact .step ih (hs _ hi) hj
theorem Cn.line {i : Nat} (hi : i ∈ T) : Cn l T (pA l i) (pB l i) := .step (.refl _) hi (.inl ⟨rfl, rfl⟩)
/-- a point that no line touches stands alone -/
theorem Cn.alone {q : Nat} (hq : ∀ i ∈ T, pA l i ≠ q ∧ pB l i ≠ q) {u : Nat} (h : Cn l T q u) : u = q := by
  induction h with
  | refl => rfl
  | step _ hi hj ih =>
    subst ih
    rcases hj with ⟨e, _⟩ | ⟨_, e⟩
    · exact absurd e (hq _ hi).1
    · exact absurd e (hq _ hi).2
variable {k : Nat}
def Sd (l : List (Int × Int × Int)) (T : List Nat) (S : St) : Prop := ∀ v u, (S.1.getD v 0).testBit u = true → Cn l T v u
theorem sd_step (hk : k ≤ 8) {S : St} {i m j : Nat} (hok : okSt k m j S) (h : Sd l T S) : Sd l (T ++ [i]) (krS l S i) := by
  have hp := Nat.pow_le_pow_right (n := 2) (by omega) hk
  have hm : ∀ x ∈ T, x ∈ T ++ [i] := fun x hx => List.mem_append_left _ hx
  intro v u hb
  unfold krS at hb
  split at hb
  · exact (h v u hb).mono hm
  · by_cases hv : v < S.1.length
    · have hb' : ((setAll S.1 (memb (S.1.getD (pA l i) 0 ||| S.1.getD (pB l i) 0)) (S.1.getD (pA l i) 0 ||| S.1.getD (pB l i) 0)).getD v 0).testBit u = true := hb
      rw [setAll_at _ _ _ _ hv] at hb'
      have hor : S.1.getD (pA l i) 0 ||| S.1.getD (pB l i) 0 < 2 ^ k := Nat.or_lt_two_pow (hok.2.1 _) (hok.2.1 _)
      have side : ∀ x, (S.1.getD (pA l i) 0 ||| S.1.getD (pB l i) 0).testBit x = true → Cn l (T ++ [i]) (pA l i) x := fun x hx => by
        rw [Nat.testBit_or, Bool.or_eq_true] at hx
        rcases hx with hx | hx
        · exact (h _ _ hx).mono hm
        · exact (Cn.line (List.mem_append_right _ (List.mem_singleton.2 rfl))).trans ((h _ _ hx).mono hm)
      by_cases c : v ∈ memb (S.1.getD (pA l i) 0 ||| S.1.getD (pB l i) 0)
      · rw [if_pos c] at hb'
        exact (side v ((mem_memb (by omega)).1 c)).symm.trans (side u hb')
      · rw [if_neg c] at hb'
        exact (h v u hb').mono hm
    · have hb' : ((setAll S.1 (memb (S.1.getD (pA l i) 0 ||| S.1.getD (pB l i) 0)) (S.1.getD (pA l i) 0 ||| S.1.getD (pB l i) 0)).getD v 0).testBit u = true := hb
      rw [List.getD_eq_getElem?_getD, List.getElem?_eq_none (by rw [setAll_len]; omega)] at hb'
      simp at hb'
theorem sd_fold (hk : k ≤ 8) (hin : InC k l) : ∀ (P T : List Nat) (j : Nat) (S : St), (∀ x ∈ P, x < l.length) → okSt k l.length j S → Sd l T S → Sd l (T ++ P) (P.foldl (krS l) S) ∧ okSt k l.length (j + P.length) (P.foldl (krS l) S)
  | [], T, j, S, _, h1, h2 => ⟨by rw [List.append_nil]; exact h2, h1⟩
  | x :: P, T, j, S, hx, h1, h2 => by
    have := sd_fold hk hin P (T ++ [x]) (j+1) (krS l S x) (fun y hy => hx y (List.mem_cons_of_mem _ hy)) (okSt_step hk hin (hx x List.mem_cons_self) h1) (sd_step hk h1 h2)
    rw [List.append_assoc] at this
    rw [List.length_cons, show j + (P.length + 1) = j + 1 + P.length by omega]
    exact this
theorem sd0 : Sd l [] (st0 k l.length) := fun v u hb => by
  by_cases hv : v < k
  · have : (st0 k l.length).1.getD v 0 = 2 ^ v := by simp [st0, List.getD, hv]
    rw [this, Nat.testBit_two_pow, decide_eq_true_eq] at hb
    subst hb; exact .refl _
  · rw [List.getD_eq_getElem?_getD, List.getElem?_eq_none (by simp [st0]; omega)] at hb
    simp at hb
theorem keeps (b : Nat) : ∀ (Q : List Nat) (S : St), b < S.2.1.length → S.2.1.getD b false = true → (Q.foldl (krS l) S).2.1.getD b false = true
  | [], S, _, h => h
  | x :: Q, S, hl, h => by
    refine keeps b Q (krS l S x) ?_ ?_
    · unfold krS; split
      · exact hl
      · rw [List.length_set]; exact hl
    · unfold krS; split
      · exact h
      · show (S.2.1.set x true).getD b false = true
        by_cases e : x = b
        · subst e; simp [List.getD, hl]
        · rw [List.getD_eq_getElem?_getD, List.getElem?_set_ne e, ← List.getD_eq_getElem?_getD]; exact h
/-- a line is taken if its ends don't hang together by those before it -/
theorem taken (hk : k ≤ 8) (hin : InC k l) {P Q : List Nat} {b : Nat} (hP : ∀ x ∈ P, x < l.length) (hb : b < l.length) (hn : ¬ Cn l P (pA l b) (pB l b)) :
    ((P ++ b :: Q).foldl (krS l) (st0 k l.length)).2.1.getD b false = true := by
  obtain ⟨h1, h2⟩ := sd_fold hk hin P [] 0 (st0 k l.length) hP (ok0 hk) sd0
  rw [List.nil_append] at h1
  rw [List.foldl_append, List.foldl_cons]
  obtain ⟨S, hS⟩ : ∃ S, P.foldl (krS l) (st0 k l.length) = S := ⟨_, rfl⟩
  rw [hS] at h1 h2 ⊢
  have hbit : (S.1.getD (pA l b) 0).testBit (pB l b) = false := by
    cases e : (S.1.getD (pA l b) 0).testBit (pB l b)
    · rfl
    · exact absurd (h1 _ _ e) hn
  have e : krS l S b = (setAll S.1 (memb (S.1.getD (pA l b) 0 ||| S.1.getD (pB l b) 0)) (S.1.getD (pA l b) 0 ||| S.1.getD (pB l b) 0), S.2.1.set b true, S.2.2 + cs l b) := by unfold krS; rw [if_neg (by rw [hbit]; decide)]
  have hl : b < S.2.1.length := by rw [h2.2.2.1]; exact hb
  refine keeps b Q _ ?_ ?_
  · rw [e]; show b < (S.2.1.set b true).length; rw [List.length_set]; exact hl
  · rw [e]; show (S.2.1.set b true).getD b false = true; simp [List.getD, hl]
theorem fold_len : ∀ (P : List Nat) (S : St), (P.foldl (krS l) S).2.1.length = S.2.1.length
  | [], S => rfl
  | x :: P, S => by
    rw [List.foldl_cons, fold_len P]
    unfold krS; split
    · rfl
    · exact List.length_set
/-! ### Boruvka -/
def tch (l : List (Int × Int × Int)) (i : Int) (x : Nat) : Prop := (l.getD x (0, 0, 0)).1 = i ∨ (l.getD x (0, 0, 0)).2.1 = i
theorem boruvka (hk : k ≤ 8) (hin : InC k l) {ord : List Nat} (hn : ord.Nodup) (hord : ∀ x, x ∈ ord ↔ x < l.length) (hp : ord.Pairwise fun a b => cs l a < cs l b ∨ (cs l a = cs l b ∧ a < b)) {i : Int} {b : Nat} (hb : b < l.length) (ht : tch l i b)
    (hm : ∀ x, x < l.length → tch l i x → x = b ∨ cs l b < cs l x ∨ (cs l b = cs l x ∧ b < x)) : (ord.foldl (krS l) (st0 k l.length)).2.1.getD b false = true := by
  obtain ⟨P, Q, e⟩ := List.append_of_mem ((hord b).2 hb)
  rw [e] at hp hn ⊢
  have hP : ∀ x ∈ P, x < l.length := fun x hx => (hord x).1 (by rw [e]; exact List.mem_append_left _ hx)
  refine taken hk hin hP hb fun hc => ?_
  have heb := hin _ (List.getElem_mem hb)
  have hgb : l.getD b (0, 0, 0) = l[b] := by simp [List.getD, hb]
  have hi0 : 0 ≤ i := by unfold tch at ht; rw [hgb] at ht; rcases ht with q | q <;> omega
  have hno : ∀ x ∈ P, pA l x ≠ i.toNat ∧ pB l x ≠ i.toNat := fun x hx => by
    have hxl := hP x hx
    have hex := hin _ (List.getElem_mem hxl)
    have hgx : l.getD x (0, 0, 0) = l[x] := by simp [List.getD, hxl]
    have hbef := (List.pairwise_append.1 hp).2.2 x hx b List.mem_cons_self
    have hnt : ¬ tch l i x := fun q => by
      rcases hm x hxl q with q | q | q
      · subst q; omega
      · omega
      · omega
    unfold tch at hnt
    rw [hgx] at hnt
    unfold pA pB
    rw [hgx]
    exact ⟨fun q => hnt (.inl (by omega)), fun q => hnt (.inr (by omega))⟩
  have hne : pA l b ≠ pB l b := by unfold pA pB; rw [hgb]; omega
  unfold tch at ht
  rw [hgb] at ht
  rcases ht with q | q
  · have hq : pA l b = i.toNat := by unfold pA; rw [hgb, q]
    rw [hq] at hc hne
    exact hne (Cn.alone hno hc).symm
  · have hq : pB l b = i.toNat := by unfold pB; rw [hgb, q]
    rw [hq] at hc hne
    exact hne (Cn.alone hno hc.symm)
end
/-! ### the closed fact -/
def lF : List (Int × Int × Int) := [(0, 1, 5), (1, 2, 1), (0, 2, 2)]
theorem ord3 : ∀ a, a < 3 → ∀ b, b < 3 → ∀ c, c < 3 → (cs lF a < cs lF b ∨ (cs lF a = cs lF b ∧ a < b)) → (cs lF a < cs lF c ∨ (cs lF a = cs lF c ∧ a < c)) → (cs lF b < cs lF c ∨ (cs lF b = cs lF c ∧ b < c)) → [a, b, c] = [1, 2, 0] := by
  intro a ha b hb c hc h1 h2 h3
  have e0 : cs lF 0 = 5 := rfl
  have e1 : cs lF 1 = 1 := rfl
  have e2 : cs lF 2 = 2 := rfl
  have qa : a = 0 ∨ a = 1 ∨ a = 2 := by omega
  have qb : b = 0 ∨ b = 1 ∨ b = 2 := by omega
  have qc : c = 0 ∨ c = 1 ∨ c = 2 := by omega
  rcases qa with rfl | rfl | rfl <;> rcases qb with rfl | rfl | rfl <;> rcases qc with rfl | rfl | rfl <;> first | rfl | (exfalso; omega)
theorem neckF : span_Neck 300 3 lF 0 1 = some (2, 0) := by decide +kernel
theorem boolsF : SE_Bools 300 [false, true, true] [false, true, true] = some true := by decide +kernel
theorem leastF : span_Least 300 3 lF = some ([false, true, true], 3, 0) := by
  have hch : span_Check 300 ((3 : Nat) : Int) lF = some 0 := by rw [spanck_ev]; rfl
  have hin : InC 3 lF := errCs_in (k := 3) (l := lF) rfl
  obtain ⟨ord, o1, o2, o3, o4⟩ := least_ev' (k := 3) (l := lF) (by omega) (by omega) hin (by decide) hch
  have hp : ord.Perm (List.range 3) := (List.perm_ext_iff_of_nodup o1 List.nodup_range).2 fun x => by rw [o2, List.mem_range]; rfl
  have hl : ord.length = 3 := by rw [hp.length_eq]; rfl
  have hord : ord = [1, 2, 0] := by
    match ord, hl, o2, o3 with
    | [a, b, c], _, o2, o3 =>
      obtain ⟨p1, p2⟩ := List.pairwise_cons.1 o3
      exact ord3 a ((o2 a).1 (by simp)) b ((o2 b).1 (by simp)) c ((o2 c).1 (by simp)) (p1 b (by simp)) (p1 c (by simp)) ((List.pairwise_cons.1 p2).1 c (by simp))
  subst hord
  have e : ([1, 2, 0].foldl (krS lF) (st0 3 lF.length)) = ([7, 7, 7], [false, true, true], 3) := by decide +kernel
  rw [e] at o4
  exact o4
theorem least_bad {n : Int} {l : List (Int × Int × Int)} (h : errC n l ≠ 0) : span_Least 300 n l = some ([], 0, errC n l) := by
  unfold span_Least
  rw [spanck_ev, Option.bind_some, if_pos (by rw [bne_iff_ne]; exact h)]
end Go.Proofs.YtccdnokddkpmgaaDoor
