import Derived.Test.YtfabhdadckohdaaStb2
import Derived.Test.YtfabhdadckohdaaSym
import Derived.Test.YtfabhdadckohdaaP3
import Derived.Test.YtfabhdadckohdaaEv2
import Derived.Test.YtfabhdadckohdaaRd
import Derived.Test.YtfabhdadckohdaaFwT
/- the order in which lines are taken: by cost, of those that cost as much by place -/
set_option linter.all false
set_option maxRecDepth 100000
namespace Go.Proofs.Ytfabhdadckohdaa.Sp
open Go.RowKit Go.Shelf Go.Sort
section
variable {N : Nat} [Inhabited (Fin N)] (w : Nat → Int)
def ltW (a b : Fin N) : Bool := decide (w a.1 < w b.1)
def ltS (a b : Fin N) : Bool := decide (w a.1 < w b.1 ∨ (w a.1 = w b.1 ∧ a.1 < b.1))
theorem swoS : SWO (ltS (N := N) w) where
  irrefl := fun x => by unfold ltS; rw [decide_eq_false_iff_not]; omega
  trans := fun x y z h1 h2 => by unfold ltS at *; rw [decide_eq_true_eq] at *; omega
  ntrans := fun x y z h1 h2 => by unfold ltS at *; rw [decide_eq_false_iff_not] at *; omega
theorem inner_eq (a : Nat) : ∀ (j : Nat) (d : Array (Fin N)), j < d.size → (∀ p, a ≤ p → p < j → (d[p]!).1 < (d[j]!).1) → insInner (ltW w) a j d = insInner (ltS w) a j d
  | 0, d, _, _ => by rw [insInner, insInner]
  | j+1, d, hj, h => by
    rw [insInner, insInner]
    by_cases ha : a ≤ j
    · have hlt := h j ha (by omega)
      have e : ltW w d[j+1]! d[j]! = ltS w d[j+1]! d[j]! := by
        unfold ltW ltS
        rw [decide_eq_decide]; omega
      rw [e]
      split
      · refine inner_eq a j (swp d (j+1) j) (by simp [swp]; omega) fun p hpa hp => ?_
        rw [swp_getE d hj (by omega), swp_getE d hj (by omega), if_neg (by omega), if_neg (by omega), if_pos rfl]
        exact h p hpa (by omega)
      · rfl
    · have e1 : decide (j + 1 > a) = false := decide_eq_false (by omega)
      rw [e1]; rfl
def Inv (a i : Nat) (d : Array (Fin N)) : Prop := d.size = N ∧ (∀ p, a ≤ p → p < i → (d[p]!).1 < i) ∧ ∀ q, i ≤ q → q < N → (d[q]!).1 = q
theorem inner_inv {a i : Nat} (hi : i < N) : ∀ (j : Nat) (d : Array (Fin N)), j ≤ i → Inv a (i+1) d → Inv a (i+1) (insInner (ltS w) a j d)
  | 0, d, _, h => by rw [insInner]; exact h
  | j+1, d, hj, h => by
    rw [insInner]
    split
    · rename_i hc
      have ha : a ≤ j := by simp only [Bool.and_eq_true, decide_eq_true_eq] at hc; omega
      refine inner_inv hi j _ (by omega) ⟨by simp [swp]; exact h.1, fun p hpa hp => ?_, fun q h1 h2 => ?_⟩
      · rw [swp_getE d (by rw [h.1]; omega) (by rw [h.1]; omega)]
        split
        · exact h.2.1 _ (by omega) (by omega)
        · split
          · exact h.2.1 _ ha (by omega)
          · exact h.2.1 _ hpa hp
      · rw [swp_getE d (by rw [h.1]; omega) (by rw [h.1]; omega), if_neg (by omega), if_neg (by omega)]
        exact h.2.2 q h1 h2
    · exact h
theorem Inv.up {a i : Nat} {d : Array (Fin N)} (hi : i < N) (h : Inv a i d) : Inv a (i+1) d :=
  ⟨h.1, fun p hpa hp => by
    by_cases e : p = i
    · subst e; have := h.2.2 p (Nat.le_refl _) hi; omega
    · have := h.2.1 p hpa (by omega); omega, fun q h1 h2 => h.2.2 q (by omega) h2⟩
theorem outer_eq (a b : Nat) (hb : b ≤ N) : ∀ (n i : Nat) (d : Array (Fin N)), b - i = n → i ≤ b → Inv a i d → insOuter (ltW w) a b i d = insOuter (ltS w) a b i d
  | 0, i, d, hn, hi, _ => by rw [insOuter, if_neg (by omega), insOuter, if_neg (by omega)]
  | n+1, i, d, hn, hi, h => by
    have hlt : i < b := by omega
    conv => lhs; rw [insOuter, if_pos hlt]
    conv => rhs; rw [insOuter, if_pos hlt]
    rw [inner_eq w a i d (by rw [h.1]; omega) fun p hpa hp => by rw [h.2.2 i (Nat.le_refl _) (by omega)]; exact h.2.1 p hpa hp]
    exact outer_eq a b hb n (i+1) _ (by omega) (by omega) (inner_inv w (by omega) i d (Nat.le_refl _) (h.up (by omega)))
theorem ins_eq {a b : Nat} (hab : a ≤ b) (hb : b ≤ N) {d : Array (Fin N)} (hd : Inv a a d) : insertionSort (ltW w) d a b = insertionSort (ltS w) d a b := by
  unfold insertionSort
  by_cases h : a < b
  · exact outer_eq w a b hb _ (a+1) d rfl (by omega) (hd.up (by omega))
  · rw [insOuter, if_neg (by omega), insOuter, if_neg (by omega)]
/-- what the sorted row comes to -/
theorem ext_spec {d z : Array (Fin N)} (hd : Inv 0 0 d) (hp : PermIn 0 N d z) (hs : SortedIn (ltS w) 0 N z) : ∃ ord : List Nat, vF z = ord.map (fun (x : Nat) => (x : Int)) ∧ ord.Nodup ∧ (∀ x, x ∈ ord ↔ x < N) ∧ ord.Pairwise fun a b => w a < w b ∨ (w a = w b ∧ a < b) := by
  have hsz : z.size = N := hp.1.trans hd.1
  have hperm : z.toList.Perm d.toList := by
    have := hp.2.2
    rwa [Array.extract_eq_self_of_le (by omega), Array.extract_eq_self_of_le (by rw [hd.1]; omega)] at this
  have hdl : d.toList.map (fun x => x.1) = List.range N := by
    apply List.ext_getElem (by simp [hd.1])
    intro i hi1 hi2
    have hi : i < N := by simpa using hi2
    have := hd.2.2 i (by omega) hi
    rw [getElem!_pos d i (by rw [hd.1]; exact hi)] at this
    simpa using this
  have hpm : (z.toList.map fun x => x.1).Perm (List.range N) := by rw [← hdl]; exact hperm.map _
  refine ⟨z.toList.map fun x => x.1, by unfold vF; rw [List.map_map]; rfl, (hpm.nodup_iff).2 List.nodup_range, fun x => by rw [hpm.mem_iff, List.mem_range], ?_⟩
  rw [List.pairwise_iff_getElem]
  intro i j hi hj hij
  have hi' : i < z.size := by simpa using hi
  have hj' : j < z.size := by simpa using hj
  have := hs i j (by omega) hij (by omega)
  unfold ltS at this
  rw [decide_eq_false_iff_not, getElem!_pos z i hi', getElem!_pos z j hj'] at this
  have hne : z[i].1 ≠ z[j].1 := by
    intro e
    have hnd := (hpm.nodup_iff).2 List.nodup_range
    exact (List.pairwise_iff_getElem.1 hnd i j hi hj hij) (by simpa using e)
  simp only [List.getElem_map, Array.getElem_toList]
  omega
theorem small_spec {d : Array (Fin N)} (hd : Inv 0 0 d) : PermIn 0 N d (insertionSort (ltW w) d 0 N) ∧ SortedIn (ltS w) 0 N (insertionSort (ltW w) d 0 N) := by
  rw [ins_eq w (Nat.zero_le _) (Nat.le_refl _) hd]
  exact insertionSort_holds (swoS w) d 0 N (Nat.zero_le _) (by rw [hd.1]; exact Nat.le_refl _)
theorem big_spec (h20 : 20 ≤ N) {d : Array (Fin N)} (hd : Inv 0 0 d) : PermIn 0 N d (bigS (ltW w) d) ∧ SortedIn (ltS w) 0 N (bigS (ltW w) d) := by
  have e1 := ins_eq w (a := 0) (b := 20) (by omega) h20 hd
  obtain ⟨p1, s1⟩ := insertionSort_holds (swoS w) d 0 20 (by omega) (by rw [hd.1]; exact h20)
  rw [← e1] at p1 s1
  obtain ⟨d1, hd1⟩ : ∃ x, insertionSort (ltW w) d 0 20 = x := ⟨_, rfl⟩
  rw [hd1] at p1 s1
  have z1 : d1.size = N := p1.1.trans hd.1
  have low1 : ∀ p, 0 ≤ p → p < 20 → (d1[p]!).1 < 20 := permIn_all d d1 0 20 (fun x => x.1 < 20) (by rw [hd.1]; exact h20) p1 fun p _ hp => by
    show (d[p]!).1 < 20
    rw [hd.2.2 p (Nat.zero_le _) (by omega)]; exact hp
  have up1 : ∀ q, 20 ≤ q → q < N → (d1[q]!).1 = q := fun q h1 h2 => by rw [p1.2.1 q (.inr h1)]; exact hd.2.2 q (Nat.zero_le _) h2
  have i1 : Inv 20 20 d1 := ⟨z1, fun p h1 h2 => by omega, up1⟩
  have e2 := ins_eq w (a := 20) (b := N) h20 (Nat.le_refl _) i1
  obtain ⟨p2, s2⟩ := insertionSort_holds (swoS w) d1 20 N h20 (by rw [z1]; exact Nat.le_refl _)
  rw [← e2] at p2 s2
  obtain ⟨d2, hd2⟩ : ∃ x, insertionSort (ltW w) d1 20 N = x := ⟨_, rfl⟩
  rw [hd2] at p2 s2
  have z2 : d2.size = N := p2.1.trans z1
  have low2 : ∀ p, p < 20 → (d2[p]!).1 < 20 := fun p hp => by rw [p2.2.1 p (.inl hp)]; exact low1 p (Nat.zero_le _) hp
  have up2 : ∀ q, 20 ≤ q → q < N → 20 ≤ (d2[q]!).1 := permIn_all d1 d2 20 N (fun x => 20 ≤ x.1) (by rw [z1]; exact Nat.le_refl _) p2 fun q h1 h2 => by
    show 20 ≤ (d1[q]!).1
    rw [up1 q h1 h2]; exact h1
  have s1' : SortedIn (ltS w) 0 20 d2 := fun i j h1 h2 h3 => by rw [p2.2.1 i (.inl (by omega)), p2.2.1 j (.inl h3)]; exact s1 i j h1 h2 h3
  have pp : PermIn 0 N d d2 := permIn_trans _ _ _ 0 N (permIn_mono _ _ 0 20 0 N (Nat.le_refl _) h20 (by rw [hd.1]; exact Nat.le_refl _) p1) (permIn_mono _ _ 20 N 0 N (by omega) (Nat.le_refl _) (by rw [z1]; exact Nat.le_refl _) p2)
  unfold bigS
  rw [hd.1, hd1, hd2]
  by_cases h : N = 20
  · rw [if_pos h]
    exact ⟨pp, fun i j h1 h2 h3 => s1' i j h1 h2 (by omega)⟩
  · rw [if_neg h]
    obtain ⟨q1, q2⟩ := symM_spec (lt := ltS w) (lt' := ltW w) (swoS w) N 0 20 N d2 (by omega) (by omega) (by omega) (by rw [z2]; exact Nat.le_refl _) s1' s2 fun p q h1 h2 h3 h4 => by
      have := low2 p h2
      have := up2 q h3 h4
      unfold ltW ltS
      rw [decide_eq_decide]; omega
    exact ⟨permIn_trans _ _ _ 0 N pp q1, q2⟩
end
def cs (l : List (Int × Int × Int)) (i : Nat) : Int := (l.getD i (0, 0, 0)).2.2
theorem toF_inv {k : Nat} (hk : 0 < k) : ∀ (l : List Int) (hl : l = (List.range k).map fun (x : Nat) => (x : Int)) (h : 0 < l.length), haveI : Inhabited (Fin l.length) := ⟨⟨0, h⟩⟩; Inv 0 0 (toF l h) := by
  intro l hl h
  have hlen : l.length = k := by rw [hl]; simp
  letI : Inhabited (Fin l.length) := ⟨⟨0, h⟩⟩
  refine ⟨by simp [toF], fun p _ hp => by omega, fun q _ hq => ?_⟩
  have hqs : q < (toF l h).size := by simp [toF]; exact hq
  rw [getElem!_pos _ q hqs]
  simp only [toF, List.getElem_toArray, List.getElem_map]
  have hq2 : l[q] = (q : Int) := by
    have : q < k := by omega
    simp [hl]
  split
  · simp only [hq2]; omega
  · rename_i hc; rw [hq2] at hc; omega
theorem cmp_ev {F : Nat} (x y : Int) : cmp_Compare_int F x y = some (if x < y then -1 else if y < x then 1 else 0) := by
  unfold cmp_Compare_int cmp_isNaN_int
  rw [Option.bind_some, Option.bind_some, if_neg (by decide), if_neg (by decide)]
  split
  · rfl
  · split <;> rfl
theorem order_ev {F : Nat} (l : List (Int × Int × Int)) (hl : l.length ≤ 24) :
    ∃ ord : List Nat, slStc (fun z6 z7 => brambleweir_span_Least_1 F l z6 z7) ((List.range l.length).map fun (x : Nat) => (x : Int)) = some (ord.map fun (x : Nat) => (x : Int)) ∧ ord.Nodup ∧ (∀ x, x ∈ ord ↔ x < l.length) ∧
      ord.Pairwise fun a b => cs l a < cs l b ∨ (cs l a = cs l b ∧ a < b) := by
  obtain ⟨k, hk⟩ : ∃ k, l.length = k := ⟨_, rfl⟩
  obtain ⟨r, hr⟩ : ∃ r, r = (List.range k).map fun (x : Nat) => (x : Int) := ⟨_, rfl⟩
  have hlen : r.length = k := by rw [hr]; simp
  have hc : ∀ a b : Nat, a < k → b < k → brambleweir_span_Least_1 F l (a : Int) (b : Int) = some (if cs l a < cs l b then -1 else if cs l b < cs l a then 1 else 0) := fun a b ha hb => by
    unfold brambleweir_span_Least_1
    rw [ix_at (0, 0, 0) (by omega : a < l.length), Option.bind_some, ix_at (0, 0, 0) (by omega : b < l.length), Option.bind_some, cmp_ev]; rfl
  rw [hk, ← hr]
  unfold slStc
  by_cases h0 : r.length = 0
  · rw [if_pos h0]
    have : r = [] := List.length_eq_zero_iff.1 h0
    subst this
    exact ⟨[], rfl, List.nodup_nil, fun x => ⟨(fun h => by cases h), fun h => by simp at hlen; omega⟩, List.Pairwise.nil⟩
  · have h0 : 0 < r.length := by omega
    letI : Inhabited (Fin r.length) := ⟨⟨0, h0⟩⟩
    have hI := toF_inv (k := k) (by omega) r hr h0
    have hlt : ltOf (cfN (fun z6 z7 => brambleweir_span_Least_1 F l z6 z7) r.length) = ltW (cs l) := by
      funext a b
      have ha := a.2; have hb := b.2
      show decide ((brambleweir_span_Least_1 F l ((a.1 : Nat) : Int) ((b.1 : Nat) : Int)).getD 0 < 0) = decide (cs l a.1 < cs l b.1)
      rw [hc a.1 b.1 (by omega) (by omega), Option.getD_some]
      rw [decide_eq_decide]
      split
      · omega
      · split <;> omega
    have hin : ∀ x ∈ r, 0 ≤ x ∧ x < (r.length : Int) := fun x hx => by rw [hr] at hx; obtain ⟨y, hy, rfl⟩ := List.mem_map.1 hx; have := List.mem_range.1 hy; omega
    have hdf : ∀ i, i < r.length → ∀ j, j < r.length → (brambleweir_span_Least_1 F l (i : Int) (j : Int)).isSome = true := fun i hi j hj => by rw [hc i j (by omega) (by omega)]; rfl
    have hsz : (toF r h0).size = r.length := by simp [toF]
    rw [if_neg (by omega)]
    by_cases h20 : r.length < 20
    · rw [if_pos h20]
      obtain ⟨p1, p2⟩ := small_spec (cs l) hI
      obtain ⟨ord, o1, o2, o3, o4⟩ := ext_spec (cs l) hI p1 p2
      refine ⟨ord, ?_, o2, fun x => by rw [o3, hlen], o4⟩
      unfold slStb
      rw [dif_pos ⟨h0, h20, hin, hdf⟩]
      congr 1
      rw [← o1]
      unfold stbOf
      rw [hlt, hsz]
    · rw [if_neg h20]
      obtain ⟨p1, p2⟩ := big_spec (cs l) (by omega) hI
      obtain ⟨ord, o1, o2, o3, o4⟩ := ext_spec (cs l) hI p1 p2
      refine ⟨ord, ?_, o2, fun x => by rw [o3, hlen], o4⟩
      rw [dif_pos ⟨h0, by omega, hin, hdf⟩]
      congr 1
      rw [← o1]
      unfold bigOf
      rw [hlt]
end Go.Proofs.Ytfabhdadckohdaa.Sp
/- what is wrong with lines that cost something -/
set_option linter.all false
set_option maxRecDepth 100000
namespace Go.Proofs.Ytfabhdadckohdaa.Sp
open Go.RowKit Pl
def InC (k : Nat) (l : List Cost) : Prop := ∀ e ∈ l, (0 ≤ e.1 ∧ e.1 < (k : Int)) ∧ (0 ≤ e.2.1 ∧ e.2.1 < (k : Int)) ∧ (0 ≤ e.2.2 ∧ e.2.2 ≤ 20) ∧ e.1 ≠ e.2.1
def errCs (n : Int) : List Cost → Int
  | [] => 0
  | e :: l => if ¬ (((0 ≤ e.1 ∧ e.1 ≤ n - 1) ∧ (0 ≤ e.2.1 ∧ e.2.1 ≤ n - 1)) ∧ (0 ≤ e.2.2 ∧ e.2.2 ≤ 20)) then 1 else if e.1 = e.2.1 then 3 else errCs n l
def errC (n : Int) (l : List Cost) : Int := if ¬ (1 ≤ n ∧ n ≤ 8) then 1 else if 24 < l.length then 4 else errCs n l
theorem errCs_in {k : Nat} : ∀ {l : List Cost}, errCs (k : Int) l = 0 → InC k l
  | [], _ => fun e he => by cases he
  | e :: l, h => by
    unfold errCs at h
    split at h
    · cases h
    · rename_i h1
      split at h
      · cases h
      · rename_i h2
        intro x hx
        rcases List.mem_cons.1 hx with rfl | hx
        · exact ⟨by omega, by omega, by omega, h2⟩
        · exact errCs_in h x hx
theorem spanck_L1 (n : Int) (hn : 1 ≤ n ∧ n ≤ 8) (l : List Cost) (hl : l.length ≤ 24) : ∀ g t, l.length < g + t → t ≤ l.length →
    span_Check_L1 300 n l g (t : Int) = some (if errCs n (l.drop t) = 0 then .inl () else .inr (errCs n (l.drop t)))
  | 0, t, h, _ => by omega
  | g+1, t, h, ht => by
    rw [span_Check_L1_s]
    by_cases hlt : t < l.length
    · rw [if_pos (by omega), ix_nat hlt, List.drop_eq_getElem_cons hlt, w64n (by omega), w64 (by omega) (by omega)]
      have ih := spanck_L1 n hn l hl g (t+1) (by omega) (by omega)
      push_cast at ih
      generalize l[t] = e at *
      simp only [Option.bind_some, core_All_ev 0 (n - 1) (show [e.1, e.2.1].length < 300 by simp) (show [e.1, e.2.1].length < 9223372036854775807 by simp), core_Within_ev]
      have e1 : allIn [e.1, e.2.1] 0 (n - 1) = decide ((0 ≤ e.1 ∧ e.1 ≤ n - 1) ∧ (0 ≤ e.2.1 ∧ e.2.1 ≤ n - 1)) := by
        rw [Bool.eq_iff_iff]; simp [allIn]
      rw [e1]
      unfold errCs
      by_cases h1 : (0 ≤ e.1 ∧ e.1 ≤ n - 1) ∧ (0 ≤ e.2.1 ∧ e.2.1 ≤ n - 1)
      · by_cases h2 : 0 ≤ e.2.2 ∧ e.2.2 ≤ 20
        · by_cases h3 : e.1 = e.2.1
          · have h3' : (e.1 == e.2.1) = true := by simpa using h3
            rw [if_pos (decide_eq_true h1), if_pos (decide_eq_true h2), if_neg (not_not_intro (And.intro h1 h2)), if_pos h3]
            simp [h3']
          · have h3' : (e.1 == e.2.1) = false := by simpa using h3
            rw [if_pos (decide_eq_true h1), if_pos (decide_eq_true h2), if_neg (not_not_intro (And.intro h1 h2)), if_neg h3]
            simp [h3', ih]
        · rw [if_pos (decide_eq_true h1), if_neg (by simpa using h2), if_pos (fun h => h2 h.2)]
          simp
      · rw [if_neg (by simpa using h1), if_pos (fun h => h1 h.1)]
        simp
    · obtain rfl : t = l.length := by omega
      rw [if_neg (by omega), List.drop_length]; rfl
theorem spanck_ev (n : Int) (l : List Cost) : span_Check 300 n l = some (errC n l) := by
  unfold span_Check errC
  rw [core_Within_ev, Option.bind_some]
  by_cases hn : 1 ≤ n ∧ n ≤ 8
  · rw [if_pos (by simpa using hn), if_neg (not_not_intro hn)]
    by_cases hl : 24 < l.length
    · rw [if_pos (by omega), if_pos hl]
    · have h := spanck_L1 n hn l (by omega) 300 0 (by omega) (by omega)
      have h' : span_Check_L1 300 n l 300 0 = _ := h
      rw [if_neg (by omega), if_neg hl, h', List.drop_zero]
      by_cases e : errCs n l = 0 <;> simp [e]
  · rw [if_neg (by simpa using hn), if_pos hn]
theorem errC_zero {n : Int} {l : List Cost} (h : errC n l = 0) : ∃ k : Nat, n = k ∧ 1 ≤ k ∧ k ≤ 8 ∧ l.length ≤ 24 ∧ InC k l := by
  unfold errC at h
  split at h
  · cases h
  · rename_i h1
    split at h
    · cases h
    · obtain ⟨k, rfl⟩ := Int.eq_ofNat_of_zero_le (show 0 ≤ n by omega)
      exact ⟨k, rfl, by omega, by omega, by omega, errCs_in h⟩
end Go.Proofs.Ytfabhdadckohdaa.Sp
/- what Least comes to: a fold over the lines in their order -/
set_option linter.all false
set_option maxRecDepth 100000
namespace Go.Proofs.Ytfabhdadckohdaa.Sp
open Go.RowKit Pl
def setAll (W : List Nat) (xs : List Nat) (m : Nat) : List Nat := xs.foldl (fun W x => W.set x m) W
theorem setAll_len (m : Nat) : ∀ (xs W : List Nat), (setAll W xs m).length = W.length
  | [], W => rfl
  | x :: xs, W => by
    show (setAll (W.set x m) xs m).length = _
    rw [setAll_len m xs, List.length_set]
theorem setAll_at (m : Nat) (v : Nat) : ∀ (xs W : List Nat), v < W.length → (setAll W xs m).getD v 0 = if v ∈ xs then m else W.getD v 0
  | [], W, h => by simp [setAll]
  | x :: xs, W, h => by
    show (setAll (W.set x m) xs m).getD v 0 = _
    rw [setAll_at m v xs _ (by rw [List.length_set]; exact h)]
    by_cases hv : v ∈ xs
    · rw [if_pos hv, if_pos (List.mem_cons_of_mem _ hv)]
    · rw [if_neg hv]
      by_cases e : x = v
      · subst e
        rw [if_pos List.mem_cons_self]; simp [List.getD, h]
      · rw [if_neg (by rw [List.mem_cons]; exact fun q => q.elim (fun q => e q.symm) hv)]
        simp [List.getD, List.getElem?_set_ne e]
abbrev St := List Nat × List Bool × Int
def pA (l : List (Int × Int × Int)) (i : Nat) : Nat := (l.getD i (0, 0, 0)).1.toNat
def pB (l : List (Int × Int × Int)) (i : Nat) : Nat := (l.getD i (0, 0, 0)).2.1.toNat
def krS (l : List (Int × Int × Int)) (S : St) (i : Nat) : St :=
  if (S.1.getD (pA l i) 0).testBit (pB l i) = true then S
  else (setAll S.1 (memb (S.1.getD (pA l i) 0 ||| S.1.getD (pB l i) 0)) (S.1.getD (pA l i) 0 ||| S.1.getD (pB l i) 0), S.2.1.set i true, S.2.2 + cs l i)
section
variable {k : Nat} {l : List (Int × Int × Int)}
def okSt (k m j : Nat) (S : St) : Prop := S.1.length = k ∧ (∀ v, S.1.getD v 0 < 2 ^ k) ∧ S.2.1.length = m ∧ 0 ≤ S.2.2 ∧ S.2.2 ≤ 20 * (j : Int)
theorem bits_lt' {m n j : Nat} (hm : m < 2 ^ n) (hb : m.testBit j = true) : j < n := by
  rcases Nat.lt_or_ge j n with h | h
  · exact h
  · have := Nat.testBit_lt_two_pow (Nat.lt_of_lt_of_le hm (Nat.pow_le_pow_right (by omega) h))
    rw [this] at hb; cases hb
theorem okSt_step (hk : k ≤ 8) (hin : InC k l) {S : St} {i j : Nat} (hi : i < l.length) (h : okSt k l.length j S) : okSt k l.length (j+1) (krS l S i) := by
  obtain ⟨h1, h2, h3, h4, h5⟩ := h
  have he := hin _ (List.getElem_mem hi)
  have hc : cs l i = l[i].2.2 := by unfold cs; simp [List.getD, hi]
  unfold krS
  split
  · exact ⟨h1, h2, h3, h4, by omega⟩
  · refine ⟨by rw [setAll_len]; exact h1, fun v => ?_, by rw [List.length_set]; exact h3, by show 0 ≤ S.2.2 + cs l i; omega, by show S.2.2 + cs l i ≤ _; omega⟩
    by_cases hv : v < S.1.length
    · rw [setAll_at _ _ _ _ hv]
      split
      · exact Nat.or_lt_two_pow (h2 _) (h2 _)
      · exact h2 v
    · have : (setAll S.1 (memb (S.1.getD (pA l i) 0 ||| S.1.getD (pB l i) 0)) (S.1.getD (pA l i) 0 ||| S.1.getD (pB l i) 0)).length ≤ v := by rw [setAll_len]; omega
      rw [List.getD_eq_getElem?_getD, List.getElem?_eq_none this]
      exact Nat.two_pow_pos k
theorem ls_L4 (F m : Nat) : ∀ (xs W : List Nat), (∀ x ∈ xs, x < W.length) → span_Least_L4 F m xs W = some (setAll W xs m)
  | [], W, _ => by rw [span_Least_L4_n]; rfl
  | x :: xs, W, h => by
    rw [span_Least_L4_c, st_nat (h x List.mem_cons_self), Option.bind_some, ls_L4 F m xs _ fun y hy => by rw [List.length_set]; exact h y (List.mem_cons_of_mem _ hy)]; rfl
theorem ls_L3 (hk : k ≤ 8) (hin : InC k l) (h24 : l.length ≤ 24) {ord : List Nat} (hord : ∀ x ∈ ord, x < l.length) (hol : ord.length ≤ 24) : ∀ (g j : Nat) (S : St), ord.length < j + g → j ≤ ord.length → okSt k l.length j S →
    span_Least_L3 300 l (ord.map fun (x : Nat) => (x : Int)) g (j : Int) S.1 S.2.1 S.2.2 = some ((ord.drop j).foldl (krS l) S)
  | 0, j, S, h, hj, _ => by omega
  | g+1, j, S, h, hj, hS => by
    have hp := Nat.pow_le_pow_right (n := 2) (by omega) hk
    rw [span_Least_L3_s, List.length_map]
    by_cases c : j < ord.length
    · have hi := hord _ (List.getElem_mem c)
      have he := hin _ (List.getElem_mem hi)
      obtain ⟨i, hie⟩ : ∃ i, ord[j] = i := ⟨_, rfl⟩
      have hS' := okSt_step hk hin (i := ord[j]) hi hS
      obtain ⟨h1, h2, h3, h4, h5⟩ := hS
      have hix : ix (ord.map fun (x : Nat) => (x : Int)) (j : Int) = some ((ord[j] : Nat) : Int) := by rw [ix_nat (by rw [List.length_map]; exact c), List.getElem_map]
      rw [List.drop_eq_getElem_cons c, List.foldl_cons]
      rw [hie] at hi hS' hix ⊢
      have he := hin _ (List.getElem_mem hi)
      have hgd : l.getD i (0, 0, 0) = l[i] := by simp [List.getD, hi]
      have hA : l[i].1 = ((pA l i : Nat) : Int) := by unfold pA; rw [hgd]; omega
      have hB : l[i].2.1 = ((pB l i : Nat) : Int) := by unfold pB; rw [hgd]; omega
      have hC : l[i].2.2 = cs l i := by unfold cs; rw [hgd]
      have hAk : pA l i < k := by omega
      have hBk : pB l i < k := by omega
      have i1 : ix S.1 ((pA l i : Nat) : Int) = some (S.1.getD (pA l i) 0) := ix_at 0 (by omega)
      have i2 : ix S.1 ((pB l i : Nat) : Int) = some (S.1.getD (pB l i) 0) := ix_at 0 (by omega)
      have hhas : sHas (S.1.getD (pA l i) 0) ((pB l i : Nat) : Int) = some ((S.1.getD (pA l i) 0).testBit (pB l i)) := by
        have := h2 (pA l i)
        unfold sHas; rw [if_pos ⟨by omega, by omega, by omega⟩]; rfl
      have ih := ls_L3 hk hin h24 hord hol g (j+1) (krS l S i) (by omega) (by omega) hS'
      rw [if_pos (by omega), hix, Option.bind_some, ix_nat hi, Option.bind_some, hA, hB, hC, i1, Option.bind_some, hhas, Option.bind_some, w64n (by omega)]
      cases e : (S.1.getD (pA l i) 0).testBit (pB l i)
      · have hk1 : krS l S i = (setAll S.1 (memb (S.1.getD (pA l i) 0 ||| S.1.getD (pB l i) 0)) (S.1.getD (pA l i) 0 ||| S.1.getD (pB l i) 0), S.2.1.set i true, S.2.2 + cs l i) := by unfold krS; rw [if_neg (by rw [e]; decide)]
        have hor : S.1.getD (pA l i) 0 ||| S.1.getD (pB l i) 0 < 2 ^ k := Nat.or_lt_two_pow (h2 _) (h2 _)
        have hO : sOr (S.1.getD (pA l i) 0) (S.1.getD (pB l i) 0) = some (S.1.getD (pA l i) 0 ||| S.1.getD (pB l i) 0) := by
          have := h2 (pA l i); have := h2 (pB l i)
          unfold sOr; rw [if_pos ⟨by omega, by omega⟩]
        have hE : sEach (S.1.getD (pA l i) 0 ||| S.1.getD (pB l i) 0) = some (memb (S.1.getD (pA l i) 0 ||| S.1.getD (pB l i) 0)) := by unfold sEach; rw [if_pos (by omega)]
        have hL4 := ls_L4 300 (S.1.getD (pA l i) 0 ||| S.1.getD (pB l i) 0) (memb (S.1.getD (pA l i) 0 ||| S.1.getD (pB l i) 0)) S.1 fun x hx => by
          rw [h1]; exact bits_lt' hor ((mem_memb (by omega)).1 hx)
        have hcs : 0 ≤ cs l i ∧ cs l i ≤ 20 := by rw [← hC]; exact he.2.2.1
        rw [if_neg (by decide), st_nat (by omega : i < S.2.1.length), Option.bind_some, i2, Option.bind_some, Option.bind_some, hO, Option.bind_some, hE, Option.bind_some, hL4, Option.bind_some, w64 (by omega) (by omega)]
        rw [hk1] at ih ⊢
        exact ih
      · have hk1 : krS l S i = S := by unfold krS; rw [if_pos e]
        rw [if_pos rfl]
        rw [hk1] at ih ⊢
        exact ih
    · have : j = ord.length := by omega
      subst this
      rw [if_neg (by omega), List.drop_length]; rfl
theorem ls_L1 {m : Nat} (hm : m ≤ 24) : ∀ (g j : Nat) (v : List Int), m < j + g → j ≤ m → v.length = m → (∀ x, x < j → v.getD x 0 = (x : Int)) → span_Least_L1 300 (m : Int) g (j : Int) v = some ((List.range m).map fun (x : Nat) => (x : Int))
  | 0, j, v, h, hj, _, _ => by omega
  | g+1, j, v, h, hj, hv, hx => by
    rw [span_Least_L1_s]
    by_cases c : j < m
    · rw [if_pos (by omega), st_nat (by omega : j < v.length), Option.bind_some, w64n (by omega)]
      refine ls_L1 hm g (j+1) _ (by omega) (by omega) (by rw [List.length_set]; exact hv) fun x hxj => ?_
      by_cases e : j = x
      · subst e; simp [List.getD, hv, c]
      · rw [List.getD_eq_getElem?_getD, List.getElem?_set_ne e, ← List.getD_eq_getElem?_getD]; exact hx x (by omega)
    · rw [if_neg (by omega)]
      congr 1
      apply List.ext_getElem (by simp; omega)
      intro i h1 h2
      have := hx i (by omega)
      rw [List.getElem_map, List.getElem_range, ← this]
      simp [List.getD, h1]
theorem ls_L2 (hk : k ≤ 8) : ∀ (g j : Nat) (v : List Nat), k < j + g → j ≤ k → v.length = k → (∀ x, x < j → v.getD x 0 = 2 ^ x) → span_Least_L2 300 (k : Int) g (j : Int) v = some ((List.range k).map fun x => 2 ^ x)
  | 0, j, v, h, hj, _, _ => by omega
  | g+1, j, v, h, hj, hv, hx => by
    rw [span_Least_L2_s]
    by_cases c : j < k
    · have hw : sWith 0 (j : Int) = some (2 ^ j) := by unfold sWith; rw [if_pos ⟨by omega, by omega, by omega⟩, Int.toNat_natCast, Nat.zero_or]
      rw [if_pos (by omega), hw, Option.bind_some, st_nat (by omega : j < v.length), Option.bind_some, w64n (by omega)]
      refine ls_L2 hk g (j+1) _ (by omega) (by omega) (by rw [List.length_set]; exact hv) fun x hxj => ?_
      by_cases e : j = x
      · subst e; simp [List.getD, hv, c]
      · rw [List.getD_eq_getElem?_getD, List.getElem?_set_ne e, ← List.getD_eq_getElem?_getD]; exact hx x (by omega)
    · rw [if_neg (by omega)]
      congr 1
      apply List.ext_getElem (by simp; omega)
      intro i h1 h2
      have := hx i (by omega)
      rw [List.getElem_map, List.getElem_range, ← this]
      simp [List.getD, h1]
def st0 (k m : Nat) : St := ((List.range k).map fun x => 2 ^ x, List.replicate m false, 0)
theorem ok0 (hk : k ≤ 8) : okSt k l.length 0 (st0 k l.length) := by
  refine ⟨by simp [st0], fun v => ?_, by simp [st0], Int.le_refl _, Int.le_refl _⟩
  by_cases hv : v < k
  · have : (st0 k l.length).1.getD v 0 = 2 ^ v := by simp [st0, List.getD, hv]
    rw [this]; exact Nat.pow_lt_pow_right (by omega) hv
  · have : (st0 k l.length).1.getD v 0 = 0 := by rw [List.getD_eq_getElem?_getD, List.getElem?_eq_none (by simp [st0]; omega)]; rfl
    rw [this]; exact Nat.two_pow_pos k
theorem least_ev' (h1 : 1 ≤ k) (hk : k ≤ 8) (hin : InC k l) (h24 : l.length ≤ 24) (hch : span_Check 300 (k : Int) l = some 0) :
    ∃ ord : List Nat, ord.Nodup ∧ (∀ x, x ∈ ord ↔ x < l.length) ∧ (ord.Pairwise fun a b => cs l a < cs l b ∨ (cs l a = cs l b ∧ a < b)) ∧
      span_Least 300 (k : Int) l = some (if (ord.foldl (krS l) (st0 k l.length)).1.getD 0 0 = 2 ^ k - 1 then ((ord.foldl (krS l) (st0 k l.length)).2.1, (ord.foldl (krS l) (st0 k l.length)).2.2, 0) else ([], 0, 5)) := by
  have hp := Nat.pow_le_pow_right (n := 2) (by omega) hk
  obtain ⟨ord, o1, o2, o3, o4⟩ := order_ev (F := 300) l h24
  refine ⟨ord, o2, o3, o4, ?_⟩
  have hol : ord.length ≤ 24 := by
    have hp : ord.Perm (List.range l.length) := (List.perm_ext_iff_of_nodup o2 List.nodup_range).2 fun x => by rw [o3, List.mem_range]
    have := hp.length_eq; rw [List.length_range] at this; omega
  have e1 : mkI (l.length : Int) = some (List.replicate l.length 0) := by unfold mkI; rw [if_pos (by omega), Int.toNat_natCast]
  have e2 : span_Least_L1 300 (((List.replicate l.length (0 : Int)).length : Nat) : Int) 300 0 (List.replicate l.length 0) = some ((List.range l.length).map fun (x : Nat) => (x : Int)) := by
    rw [List.length_replicate]; exact ls_L1 h24 300 0 _ (by omega) (Nat.zero_le _) (by simp) fun x hx => by omega
  have e3 : mkM (k : Int) = some (List.replicate k 0) := by unfold mkM; rw [if_pos (by omega), Int.toNat_natCast]
  have e4 : span_Least_L2 300 (((List.replicate k (0 : Nat)).length : Nat) : Int) 300 0 (List.replicate k 0) = some ((List.range k).map fun x => 2 ^ x) := by
    rw [List.length_replicate]; exact ls_L2 hk 300 0 _ (by omega) (Nat.zero_le _) (by simp) fun x hx => by omega
  have e5 : mkB (l.length : Int) = some (List.replicate l.length false) := by unfold mkB; rw [if_pos (by omega), Int.toNat_natCast]
  have e6 := ls_L3 hk hin h24 (ord := ord) (fun x hx => (o3 x).1 hx) hol 300 0 (st0 k l.length) (by omega) (Nat.zero_le _) (ok0 hk)
  rw [List.drop_zero] at e6
  have hfin : ∀ (xs : List Nat) (j : Nat) (S : St), (∀ x ∈ xs, x < l.length) → okSt k l.length j S → okSt k l.length (j + xs.length) (xs.foldl (krS l) S) := by
    intro xs
    induction xs with
    | nil => intro j S _ h; exact h
    | cons x xs ih =>
      intro j S hx h
      have := ih (j+1) _ (fun y hy => hx y (List.mem_cons_of_mem _ hy)) (okSt_step hk hin (hx x List.mem_cons_self) h)
      rw [List.length_cons, show j + (xs.length + 1) = j + 1 + xs.length by omega]; exact this
  obtain ⟨f1, f2, _⟩ := hfin ord 0 _ (fun x hx => (o3 x).1 hx) (ok0 hk)
  obtain ⟨R, hR⟩ : ∃ R, ord.foldl (krS l) (st0 k l.length) = R := ⟨_, rfl⟩
  rw [hR] at e6 f1 f2 ⊢
  have hb : sBelow (k : Int) = some (2 ^ k - 1) := by unfold sBelow; rw [if_pos (by omega), Int.toNat_natCast]
  have h0 : ix R.1 0 = some (R.1.getD 0 0) := ix_at (l := R.1) (i := 0) 0 (by omega)
  unfold span_Least
  rw [hch, Option.bind_some, if_neg (by decide), e1, Option.bind_some, e2, Option.bind_some, o1, Option.bind_some, e3, Option.bind_some, e4, Option.bind_some, e5, Option.bind_some,
    show span_Least_L3 300 l (ord.map fun (x : Nat) => (x : Int)) 300 0 ((List.range k).map fun x => 2 ^ x) (List.replicate l.length false) 0 = _ from e6, Option.bind_some]
  rw [h0, Option.bind_some, hb, Option.bind_some]
  by_cases c : R.1.getD 0 0 = 2 ^ k - 1
  · rw [if_pos c, if_neg (by rw [bne_iff_ne]; exact fun h => h c)]
  · rw [if_neg c, if_pos (by rw [bne_iff_ne]; exact c)]
end
end Go.Proofs.Ytfabhdadckohdaa.Sp
/- SpanBoruvka -/
set_option linter.all false
set_option maxRecDepth 100000
namespace Go.Proofs.Ytfabhdadckohdaa.Sp
open Go.RowKit Pl
/-! ### hanging together -/
inductive Cn (l : List (Int × Int × Int)) (T : List Nat) : Nat → Nat → Prop
  | refl (a : Nat) : Cn l T a a
  | step {a b c i : Nat} : Cn l T a b → i ∈ T → (pA l i = b ∧ pB l i = c ∨ pA l i = c ∧ pB l i = b) → Cn l T a c
section
variable {l : List (Int × Int × Int)} {T : List Nat}
theorem Cn.trans {a b c : Nat} (h : Cn l T a b) (k : Cn l T b c) : Cn l T a c := by
  induction k with
  | refl => exact h
  | step _ hi hj ih => exact .step ih hi hj
theorem Cn.symm {a b : Nat} (h : Cn l T a b) : Cn l T b a := by
  induction h with
  | refl => exact .refl _
  | step _ hi hj ih => exact Cn.trans (.step (.refl _) hi (hj.elim (fun q => .inr ⟨q.1, q.2⟩) fun q => .inl ⟨q.1, q.2⟩)) ih
theorem Cn.mono {T' : List Nat} (hs : ∀ x ∈ T, x ∈ T') {a b : Nat} (h : Cn l T a b) : Cn l T' a b := by
  induction h with
  | refl => exact .refl _
  | step _ hi hj ih => exact .step ih (hs _ hi) hj
theorem Cn.line {i : Nat} (hi : i ∈ T) : Cn l T (pA l i) (pB l i) := .step (.refl _) hi (.inl ⟨rfl, rfl⟩)
/-- a point that no line touches stands alone -/
theorem Cn.alone {q : Nat} (hq : ∀ i ∈ T, pA l i ≠ q ∧ pB l i ≠ q) {u : Nat} (h : Cn l T q u) : u = q := by
  induction h with
  | refl => rfl
  | step _ hi hj ih =>
    subst ih
    rcases hj with ⟨e, _⟩ | ⟨_, e⟩
    · exact absurd e (hq _ hi).1
    · exact absurd e (hq _ hi).2
variable {k : Nat}
def Sd (l : List (Int × Int × Int)) (T : List Nat) (S : St) : Prop := ∀ v u, (S.1.getD v 0).testBit u = true → Cn l T v u
theorem sd_step (hk : k ≤ 8) {S : St} {i m j : Nat} (hok : okSt k m j S) (h : Sd l T S) : Sd l (T ++ [i]) (krS l S i) := by
  have hp := Nat.pow_le_pow_right (n := 2) (by omega) hk
  have hm : ∀ x ∈ T, x ∈ T ++ [i] := fun x hx => List.mem_append_left _ hx
  intro v u hb
  unfold krS at hb
  split at hb
  · exact (h v u hb).mono hm
  · by_cases hv : v < S.1.length
    · have hb' : ((setAll S.1 (memb (S.1.getD (pA l i) 0 ||| S.1.getD (pB l i) 0)) (S.1.getD (pA l i) 0 ||| S.1.getD (pB l i) 0)).getD v 0).testBit u = true := hb
      rw [setAll_at _ _ _ _ hv] at hb'
      have hor : S.1.getD (pA l i) 0 ||| S.1.getD (pB l i) 0 < 2 ^ k := Nat.or_lt_two_pow (hok.2.1 _) (hok.2.1 _)
      have side : ∀ x, (S.1.getD (pA l i) 0 ||| S.1.getD (pB l i) 0).testBit x = true → Cn l (T ++ [i]) (pA l i) x := fun x hx => by
        rw [Nat.testBit_or, Bool.or_eq_true] at hx
        rcases hx with hx | hx
        · exact (h _ _ hx).mono hm
        · exact (Cn.line (List.mem_append_right _ (List.mem_singleton.2 rfl))).trans ((h _ _ hx).mono hm)
      by_cases c : v ∈ memb (S.1.getD (pA l i) 0 ||| S.1.getD (pB l i) 0)
      · rw [if_pos c] at hb'
        exact (side v ((mem_memb (by omega)).1 c)).symm.trans (side u hb')
      · rw [if_neg c] at hb'
        exact (h v u hb').mono hm
    · have hb' : ((setAll S.1 (memb (S.1.getD (pA l i) 0 ||| S.1.getD (pB l i) 0)) (S.1.getD (pA l i) 0 ||| S.1.getD (pB l i) 0)).getD v 0).testBit u = true := hb
      rw [List.getD_eq_getElem?_getD, List.getElem?_eq_none (by rw [setAll_len]; omega)] at hb'
      simp at hb'
theorem sd_fold (hk : k ≤ 8) (hin : InC k l) : ∀ (P T : List Nat) (j : Nat) (S : St), (∀ x ∈ P, x < l.length) → okSt k l.length j S → Sd l T S → Sd l (T ++ P) (P.foldl (krS l) S) ∧ okSt k l.length (j + P.length) (P.foldl (krS l) S)
  | [], T, j, S, _, h1, h2 => ⟨by rw [List.append_nil]; exact h2, h1⟩
  | x :: P, T, j, S, hx, h1, h2 => by
    have := sd_fold hk hin P (T ++ [x]) (j+1) (krS l S x) (fun y hy => hx y (List.mem_cons_of_mem _ hy)) (okSt_step hk hin (hx x List.mem_cons_self) h1) (sd_step hk h1 h2)
    rw [List.append_assoc] at this
    rw [List.length_cons, show j + (P.length + 1) = j + 1 + P.length by omega]
    exact this
theorem sd0 : Sd l [] (st0 k l.length) := fun v u hb => by
  by_cases hv : v < k
  · have : (st0 k l.length).1.getD v 0 = 2 ^ v := by simp [st0, List.getD, hv]
    rw [this, Nat.testBit_two_pow, decide_eq_true_eq] at hb
    subst hb; exact .refl _
  · rw [List.getD_eq_getElem?_getD, List.getElem?_eq_none (by simp [st0]; omega)] at hb
    simp at hb
theorem keeps (b : Nat) : ∀ (Q : List Nat) (S : St), b < S.2.1.length → S.2.1.getD b false = true → (Q.foldl (krS l) S).2.1.getD b false = true
  | [], S, _, h => h
  | x :: Q, S, hl, h => by
    refine keeps b Q (krS l S x) ?_ ?_
    · unfold krS; split
      · exact hl
      · rw [List.length_set]; exact hl
    · unfold krS; split
      · exact h
      · show (S.2.1.set x true).getD b false = true
        by_cases e : x = b
        · subst e; simp [List.getD, hl]
        · rw [List.getD_eq_getElem?_getD, List.getElem?_set_ne e, ← List.getD_eq_getElem?_getD]; exact h
/-- a line is taken if its ends don't hang together by those before it -/
theorem taken (hk : k ≤ 8) (hin : InC k l) {P Q : List Nat} {b : Nat} (hP : ∀ x ∈ P, x < l.length) (hb : b < l.length) (hn : ¬ Cn l P (pA l b) (pB l b)) :
    ((P ++ b :: Q).foldl (krS l) (st0 k l.length)).2.1.getD b false = true := by
  obtain ⟨h1, h2⟩ := sd_fold hk hin P [] 0 (st0 k l.length) hP (ok0 hk) sd0
  rw [List.nil_append] at h1
  rw [List.foldl_append, List.foldl_cons]
  obtain ⟨S, hS⟩ : ∃ S, P.foldl (krS l) (st0 k l.length) = S := ⟨_, rfl⟩
  rw [hS] at h1 h2 ⊢
  have hbit : (S.1.getD (pA l b) 0).testBit (pB l b) = false := by
    cases e : (S.1.getD (pA l b) 0).testBit (pB l b)
    · rfl
    · exact absurd (h1 _ _ e) hn
  have e : krS l S b = (setAll S.1 (memb (S.1.getD (pA l b) 0 ||| S.1.getD (pB l b) 0)) (S.1.getD (pA l b) 0 ||| S.1.getD (pB l b) 0), S.2.1.set b true, S.2.2 + cs l b) := by unfold krS; rw [if_neg (by rw [hbit]; decide)]
  have hl : b < S.2.1.length := by rw [h2.2.2.1]; exact hb
  refine keeps b Q _ ?_ ?_
  · rw [e]; show b < (S.2.1.set b true).length; rw [List.length_set]; exact hl
  · rw [e]; show (S.2.1.set b true).getD b false = true; simp [List.getD, hl]
theorem fold_len : ∀ (P : List Nat) (S : St), (P.foldl (krS l) S).2.1.length = S.2.1.length
  | [], S => rfl
  | x :: P, S => by
    rw [List.foldl_cons, fold_len P]
    unfold krS; split
    · rfl
    · exact List.length_set
end
end Go.Proofs.Ytfabhdadckohdaa.Sp
/- Kruskal: whatever lines hang all together cost as much -/
set_option linter.all false
set_option maxRecDepth 100000
namespace Go.Proofs.Ytfabhdadckohdaa.Sp
open Go.RowKit Pl
section
variable {l : List (Int × Int × Int)} {T : List Nat} {k : Nat}
/-- the masks tell what hangs together -/
def Iv (l : List (Int × Int × Int)) (k : Nat) (T : List Nat) (S : St) : Prop := S.1.length = k ∧ ∀ v, v < k → ∀ u, u < k → ((S.1.getD v 0).testBit u = true ↔ Cn l T v u)
theorem Cn.lt (hin : InC k l) (hT : ∀ x ∈ T, x < l.length) {a b : Nat} (h : Cn l T a b) (ha : a < k) : b < k := by
  induction h with
  | refl => exact ha
  | step _ hi hj ih =>
    have hi' := hT _ hi
    have he := hin _ (List.getElem_mem hi')
    unfold pA pB at hj
    have hg : ∀ (z : Nat) (hz : z < l.length), l.getD z (0, 0, 0) = l[z] := fun z hz => by simp [List.getD, hz]
    rw [hg _ hi'] at hj
    omega
/-- one line more -/
theorem Cn.more {i : Nat} {a b : Nat} : Cn l (T ++ [i]) a b ↔ Cn l T a b ∨ (Cn l T a (pA l i) ∧ Cn l T (pB l i) b) ∨ (Cn l T a (pB l i) ∧ Cn l T (pA l i) b) := by
  constructor
  · intro h
    induction h with
    | refl => exact .inl (.refl _)
    | @step b c j _ hj hl ih =>
      rcases List.mem_append.1 hj with hj | hj
      · have hs : ∀ {x}, Cn l T x b → Cn l T x c := fun hx => .step hx hj hl
        rcases ih with q | ⟨q1, q2⟩ | ⟨q1, q2⟩
        · exact .inl (hs q)
        · exact .inr (.inl ⟨q1, hs q2⟩)
        · exact .inr (.inr ⟨q1, hs q2⟩)
      · rw [List.mem_singleton.1 hj] at hl
        rcases hl with ⟨e1, e2⟩ | ⟨e1, e2⟩
        · subst e1; subst e2
          rcases ih with q | ⟨q1, q2⟩ | ⟨q1, q2⟩
          · exact .inr (.inl ⟨q, .refl _⟩)
          · exact .inr (.inl ⟨q1, .refl _⟩)
          · exact .inl q1
        · subst e1; subst e2
          rcases ih with q | ⟨q1, q2⟩ | ⟨q1, q2⟩
          · exact .inr (.inr ⟨q, .refl _⟩)
          · exact .inl q1
          · exact .inr (.inr ⟨q1, .refl _⟩)
  · have hm : ∀ x ∈ T, x ∈ T ++ [i] := fun x hx => List.mem_append_left _ hx
    have hl : Cn l (T ++ [i]) (pA l i) (pB l i) := Cn.line (List.mem_append_right _ (List.mem_singleton.2 rfl))
    rintro (q | ⟨q1, q2⟩ | ⟨q1, q2⟩)
    · exact q.mono hm
    · exact ((q1.mono hm).trans hl).trans (q2.mono hm)
    · exact ((q1.mono hm).trans hl.symm).trans (q2.mono hm)
theorem iv_step (hk : k ≤ 8) (hin : InC k l) {S : St} {i m j : Nat} (hi : i < l.length) (hok : okSt k m j S) (h : Iv l k T S) : Iv l k (T ++ [i]) (krS l S i) := by
  have hp := Nat.pow_le_pow_right (n := 2) (by omega) hk
  have he := hin _ (List.getElem_mem hi)
  have hgi : l.getD i (0, 0, 0) = l[i] := by simp [List.getD, hi]
  have hA : pA l i < k := by unfold pA; rw [hgi]; omega
  have hB : pB l i < k := by unfold pB; rw [hgi]; omega
  refine ⟨?_, fun v hv u hu => ?_⟩
  · unfold krS; split
    · exact h.1
    · show (setAll _ _ _).length = k
      rw [setAll_len]; exact h.1
  · rw [Cn.more]
    by_cases c : (S.1.getD (pA l i) 0).testBit (pB l i) = true
    · have hAB := (h.2 _ hA _ hB).1 c
      unfold krS; rw [if_pos c, h.2 v hv u hu]
      constructor
      · exact .inl
      · rintro (q | ⟨q1, q2⟩ | ⟨q1, q2⟩)
        · exact q
        · exact (q1.trans hAB).trans q2
        · exact (q1.trans hAB.symm).trans q2
    · unfold krS; rw [if_neg c]
      show ((setAll S.1 _ _).getD v 0).testBit u = true ↔ _
      rw [setAll_at _ _ _ _ (by rw [h.1]; exact hv)]
      have hor : S.1.getD (pA l i) 0 ||| S.1.getD (pB l i) 0 < 2 ^ k := Nat.or_lt_two_pow (hok.2.1 _) (hok.2.1 _)
      have hbits : ∀ x, x < k → ((S.1.getD (pA l i) 0 ||| S.1.getD (pB l i) 0).testBit x = true ↔ Cn l T (pA l i) x ∨ Cn l T (pB l i) x) := fun x hx => by
        rw [Nat.testBit_or, Bool.or_eq_true, h.2 _ hA x hx, h.2 _ hB x hx]
      split
      · rename_i hc
        rw [mem_memb (by omega), hbits v hv] at hc
        rw [hbits u hu]
        constructor
        · intro q
          rcases hc with hc | hc <;> rcases q with q | q
          · exact .inl (hc.symm.trans q)
          · exact .inr (.inl ⟨hc.symm, q⟩)
          · exact .inr (.inr ⟨hc.symm, q⟩)
          · exact .inl (hc.symm.trans q)
        · rintro (q | ⟨_, q⟩ | ⟨_, q⟩)
          · rcases hc with hc | hc
            · exact .inl (hc.trans q)
            · exact .inr (hc.trans q)
          · exact .inr q
          · exact .inl q
      · rename_i hc
        rw [mem_memb (by omega), hbits v hv] at hc
        rw [h.2 v hv u hu]
        constructor
        · exact .inl
        · rintro (q | ⟨q, _⟩ | ⟨q, _⟩)
          · exact q
          · exact absurd (.inl q.symm) hc
          · exact absurd (.inr q.symm) hc
/-! ### how many parts there are -/
def rep (S : St) (v : Nat) : Bool := (List.range v).all fun u => !(S.1.getD u 0).testBit v
def comps (k : Nat) (S : St) : Nat := ((List.range k).filter (rep S)).length
theorem rep_iff {S : St} (h : Iv l k T S) {v : Nat} (hv : v < k) : rep S v = true ↔ ∀ u, u < v → ¬ Cn l T u v := by
  unfold rep
  rw [List.all_eq_true]
  constructor
  · intro q u hu hc
    have := q u (List.mem_range.2 hu)
    rw [(h.2 u (by omega) v hv).2 hc] at this; cases this
  · intro q u hu
    have hu := List.mem_range.1 hu
    cases e : (S.1.getD u 0).testBit v
    · rfl
    · exact absurd ((h.2 u (by omega) v hv).1 e) (q u hu)
/-- the least point of a part -/
theorem least_rep {S : St} (h : Iv l k T S) (hin : InC k l) (hT : ∀ x ∈ T, x < l.length) {q : Nat} (hq : q < k) : ∃ a, a ≤ q ∧ Cn l T a q ∧ rep S a = true := by
  induction q using Nat.strongRecOn with
  | _ q ih =>
    by_cases c : ∃ u, u < q ∧ Cn l T u q
    · obtain ⟨u, u1, u2⟩ := c
      obtain ⟨a, a1, a2, a3⟩ := ih u u1 (by omega)
      exact ⟨a, by omega, a2.trans u2, a3⟩
    · exact ⟨q, Nat.le_refl _, .refl _, (rep_iff h hq).2 fun u hu hc => c ⟨u, hu, hc⟩⟩
theorem filter_one {p q : Nat → Bool} {m : Nat} : ∀ (xs : List Nat), xs.Nodup → m ∈ xs → p m = true → q m = false → (∀ x ∈ xs, x ≠ m → q x = p x) → (xs.filter q).length + 1 = (xs.filter p).length
  | x :: xs, hn, hm, hp, hq, h => by
    obtain ⟨n1, n2⟩ := List.nodup_cons.1 hn
    by_cases e : x = m
    · subst e
      have : xs.filter q = xs.filter p := List.filter_congr fun y hy => h y (List.mem_cons_of_mem _ hy) fun e => n1 (e ▸ hy)
      rw [List.filter_cons_of_neg (by rw [hq]; decide), List.filter_cons_of_pos hp, this, List.length_cons]
    · have hx := h x List.mem_cons_self e
      have ih := filter_one xs n2 ((List.mem_cons.1 hm).resolve_left fun q => e q.symm) hp hq fun y hy => h y (List.mem_cons_of_mem _ hy)
      cases e2 : p x
      · rw [List.filter_cons_of_neg (by rw [hx, e2]; decide), List.filter_cons_of_neg (by rw [e2]; decide)]; exact ih
      · rw [List.filter_cons_of_pos (by rw [hx, e2]), List.filter_cons_of_pos e2, List.length_cons, List.length_cons]; omega
/-- a line that is taken makes one part of two -/
theorem comps_step (hk : k ≤ 8) (hin : InC k l) (hT : ∀ x ∈ T, x < l.length) {S : St} {i m j : Nat} (hi : i < l.length) (hok : okSt k m j S) (h : Iv l k T S) (hn : ¬ (S.1.getD (pA l i) 0).testBit (pB l i) = true) : comps k (krS l S i) + 1 = comps k S := by
  have h' := iv_step hk hin hi hok h
  have he := hin _ (List.getElem_mem hi)
  have hgi : l.getD i (0, 0, 0) = l[i] := by simp [List.getD, hi]
  have hA : pA l i < k := by unfold pA; rw [hgi]; omega
  have hB : pB l i < k := by unfold pB; rw [hgi]; omega
  have hnc : ¬ Cn l T (pA l i) (pB l i) := fun q => hn ((h.2 _ hA _ hB).2 q)
  obtain ⟨a, a1, a2, a3⟩ := least_rep h hin hT hA
  obtain ⟨b, b1, b2, b3⟩ := least_rep h hin hT hB
  have ha := (rep_iff h (by omega)).1 a3
  have hb := (rep_iff h (by omega)).1 b3
  have hne : a ≠ b := fun e => by subst e; exact hnc (a2.symm.trans b2)
  have one : ∀ v, v < k → rep S v = true → Cn l T (pA l i) v → v = a := fun v hv hr hc => by
    rcases Nat.lt_trichotomy v a with q | q | q
    · exact absurd (hc.symm.trans a2.symm) (ha v q)
    · exact q
    · exact absurd (a2.trans hc) ((rep_iff h hv).1 hr a q)
  have two : ∀ v, v < k → rep S v = true → Cn l T (pB l i) v → v = b := fun v hv hr hc => by
    rcases Nat.lt_trichotomy v b with q | q | q
    · exact absurd (hc.symm.trans b2.symm) (hb v q)
    · exact q
    · exact absurd (b2.trans hc) ((rep_iff h hv).1 hr b q)
  have main : ∀ m', m' = max a b → comps k (krS l S i) + 1 = comps k S := fun m' hm' => by
    unfold comps
    refine filter_one (m := m') (List.range k) List.nodup_range (List.mem_range.2 (by omega)) ?_ ?_ fun v hv hvm => ?_
    · rcases Nat.le_total a b with q | q
      · rw [hm', Nat.max_eq_right q]; exact b3
      · rw [hm', Nat.max_eq_left q]; exact a3
    · cases e : rep (krS l S i) m'
      · rfl
      · exfalso
        have hr := (rep_iff h' (v := m') (by omega)).1 e
        rcases Nat.lt_or_gt_of_ne hne with q | q
        · rw [hm', Nat.max_eq_right (by omega)] at hr
          exact hr a q (Cn.more.2 (.inr (.inl ⟨a2, b2.symm⟩)))
        · rw [hm', Nat.max_eq_left (by omega)] at hr
          exact hr b q (Cn.more.2 (.inr (.inr ⟨b2, a2.symm⟩)))
    · have hv := List.mem_range.1 hv
      rw [Bool.eq_iff_iff, rep_iff h' hv]
      constructor
      · intro q
        exact (rep_iff h hv).2 fun u hu hc => q u hu (Cn.more.2 (.inl hc))
      · intro q u hu hc
        rcases Cn.more.1 hc with w | ⟨w1, w2⟩ | ⟨w1, w2⟩
        · exact (rep_iff h hv).1 q u hu w
        · have hvb := two v hv q w2
          have : b < a := by omega
          exact ha u (by omega) (w1.trans a2.symm)
        · have hva := one v hv q w2
          have : a < b := by omega
          exact hb u (by omega) (w1.trans b2.symm)
  exact main _ rfl
theorem comps_le (hk : k ≤ 8) (hin : InC k l) (hT : ∀ x ∈ T, x < l.length) {S : St} {i m j : Nat} (hi : i < l.length) (hok : okSt k m j S) (h : Iv l k T S) : comps k S ≤ comps k (krS l S i) + 1 := by
  by_cases c : (S.1.getD (pA l i) 0).testBit (pB l i) = true
  · have : krS l S i = S := by unfold krS; rw [if_pos c]
    rw [this]; omega
  · have := comps_step hk hin hT hi hok h c; omega
theorem iv_fold (hk : k ≤ 8) (hin : InC k l) : ∀ (P T : List Nat) (j : Nat) (S : St), (∀ x ∈ P, x < l.length) → (∀ x ∈ T, x < l.length) → okSt k l.length j S → Iv l k T S →
    Iv l k (T ++ P) (P.foldl (krS l) S) ∧ okSt k l.length (j + P.length) (P.foldl (krS l) S) ∧ comps k S ≤ comps k (P.foldl (krS l) S) + P.length
  | [], T, j, S, _, _, h1, h2 => ⟨by rw [List.append_nil]; exact h2, h1, by simp⟩
  | x :: P, T, j, S, hx, hT, h1, h2 => by
    have hxl := hx x List.mem_cons_self
    obtain ⟨q1, q2, q3⟩ := iv_fold hk hin P (T ++ [x]) (j+1) (krS l S x) (fun y hy => hx y (List.mem_cons_of_mem _ hy)) (fun y hy => (List.mem_append.1 hy).elim (hT y) fun q => by rw [List.mem_singleton.1 q]; exact hxl) (okSt_step hk hin hxl h1) (iv_step hk hin hxl h1 h2)
    have := comps_le hk hin hT hxl h1 h2
    rw [List.append_assoc] at q1
    refine ⟨q1, ?_, ?_⟩
    · rw [List.length_cons, show j + (P.length + 1) = j + 1 + P.length by omega]; exact q2
    · rw [List.length_cons, List.foldl_cons]; omega
theorem iv0 (hk : k ≤ 8) : Iv l k [] (st0 k l.length) := ⟨by simp [st0], fun v hv u hu => by
  have e : (st0 k l.length).1.getD v 0 = 2 ^ v := by simp [st0, List.getD, hv]
  rw [e, Nat.testBit_two_pow, decide_eq_true_eq]
  constructor
  · intro q; subst q; exact .refl _
  · intro h; exact (Cn.alone (fun i hi => by cases hi) h).symm⟩
end
end Go.Proofs.Ytfabhdadckohdaa.Sp
/- forests of lines: what hangs together, counted; they are fair -/
set_option linter.all false
set_option maxRecDepth 100000
namespace Go.Proofs.Ytfabhdadckohdaa.Sp
open Go.RowKit Pl
section
variable {k : Nat} {l : List (Int × Int × Int)}
theorem comps_one {T : List Nat} {S : St} (h : Iv l k T S) (hk1 : 1 ≤ k) (hc : ∀ v, v < k → Cn l T 0 v) : comps k S = 1 := by
  obtain ⟨n, rfl⟩ : ∃ n, k = n + 1 := ⟨k - 1, by omega⟩
  unfold comps
  rw [List.range_succ_eq_map, List.filter_cons_of_pos rfl, List.length_cons]
  have : (((List.range n).map Nat.succ).filter (rep S)) = [] := by
    rw [List.filter_eq_nil_iff]
    intro v hv hr
    obtain ⟨x, hx, rfl⟩ := List.mem_map.1 hv
    have hx := List.mem_range.1 hx
    exact (rep_iff h (by omega)).1 hr 0 (by omega) (hc _ (by omega))
  rw [this]; rfl
theorem comps_zero : comps k (st0 k l.length) = k := by
  unfold comps
  rw [List.filter_eq_self.2, List.length_range]
  intro v hv
  have hv := List.mem_range.1 hv
  unfold rep
  rw [List.all_eq_true]
  intro u hu
  have hu := List.mem_range.1 hu
  have e : (st0 k l.length).1.getD u 0 = 2 ^ u := by simp [st0, List.getD, show u < k by omega]
  rw [e, Nat.testBit_two_pow, decide_eq_false (by omega)]; rfl
/-- the state behind lines -/
def stOf (k : Nat) (l : List (Int × Int × Int)) (T : List Nat) : St := T.foldl (krS l) (st0 k l.length)
theorem st_iv (hk : k ≤ 8) (hin : InC k l) {T : List Nat} (hT : ∀ x ∈ T, x < l.length) : Iv l k T (stOf k l T) ∧ okSt k l.length T.length (stOf k l T) := by
  obtain ⟨h1, h2, _⟩ := iv_fold hk hin T [] 0 (st0 k l.length) hT (fun x h => by cases h) (ok0 hk) (iv0 hk)
  rw [List.nil_append] at h1
  rw [Nat.zero_add] at h2
  exact ⟨h1, h2⟩
theorem flt_mono {p q : Nat → Bool} : ∀ xs : List Nat, (∀ x ∈ xs, p x = true → q x = true) → (xs.filter p).length ≤ (xs.filter q).length
  | [], _ => Nat.le_refl _
  | x :: xs, h => by
    have ih := flt_mono xs fun y hy => h y (List.mem_cons_of_mem _ hy)
    cases e : p x
    · rw [List.filter_cons_of_neg (by rw [e]; decide)]
      cases e2 : q x
      · rw [List.filter_cons_of_neg (by rw [e2]; decide)]; exact ih
      · rw [List.filter_cons_of_pos e2, List.length_cons]; omega
    · rw [List.filter_cons_of_pos e, List.filter_cons_of_pos (h x List.mem_cons_self e), List.length_cons, List.length_cons]; omega
theorem comps_mono {T T' : List Nat} {S S' : St} (h : Iv l k T S) (h' : Iv l k T' S') (hc : ∀ a b, Cn l T a b → Cn l T' a b) : comps k S' ≤ comps k S := by
  unfold comps
  refine flt_mono _ fun v hv hr => ?_
  have hv := List.mem_range.1 hv
  exact (rep_iff h hv).2 fun u hu hcn => (rep_iff h' hv).1 hr u hu (hc _ _ hcn)
theorem ends_lt (hin : InC k l) {i : Nat} (hi : i < l.length) : pA l i < k ∧ pB l i < k := by
  have he := hin _ (List.getElem_mem hi)
  have hgi : l.getD i (0, 0, 0) = l[i] := by simp [List.getD, hi]
  constructor
  · unfold pA; rw [hgi]; omega
  · unfold pB; rw [hgi]; omega
/-- lines one after the other, none between points that hang together already -/
def Fo (l : List (Int × Int × Int)) : List Nat → List Nat → Prop
  | _, [] => True
  | P, i :: Q => ¬ Cn l P (pA l i) (pB l i) ∧ Fo l (P ++ [i]) Q
theorem fo_app : ∀ (Q P R : List Nat), Fo l P (Q ++ R) ↔ Fo l P Q ∧ Fo l (P ++ Q) R
  | [], P, R => by simp [Fo]
  | i :: Q, P, R => by
    rw [List.cons_append]
    show (_ ∧ Fo l (P ++ [i]) (Q ++ R)) ↔ ((_ ∧ Fo l (P ++ [i]) Q) ∧ _)
    rw [fo_app Q (P ++ [i]) R, List.append_assoc, List.singleton_append, and_assoc]
theorem fo_comps (hk : k ≤ 8) (hin : InC k l) : ∀ (Q P : List Nat), (∀ x ∈ P, x < l.length) → (∀ x ∈ Q, x < l.length) → (Fo l P Q ↔ comps k (stOf k l (P ++ Q)) + Q.length = comps k (stOf k l P))
  | [], P, _, _ => by simp [Fo]
  | i :: Q, P, hP, hQ => by
    have hi := hQ i List.mem_cons_self
    obtain ⟨h1, h2⟩ := st_iv hk hin hP
    have hP' : ∀ x ∈ P ++ [i], x < l.length := fun x hx => (List.mem_append.1 hx).elim (hP x) fun q => by rw [List.mem_singleton.1 q]; exact hi
    have hQ' : ∀ x ∈ Q, x < l.length := fun x hx => hQ x (List.mem_cons_of_mem _ hx)
    have ih := fo_comps hk hin Q (P ++ [i]) hP' hQ'
    have e1 : P ++ i :: Q = (P ++ [i]) ++ Q := by rw [List.append_assoc]; rfl
    have e2 : stOf k l (P ++ [i]) = krS l (stOf k l P) i := by unfold stOf; rw [List.foldl_append]; rfl
    obtain ⟨a1, a2⟩ := ends_lt hin hi
    obtain ⟨g1, g2⟩ := st_iv hk hin hP'
    obtain ⟨_, _, h3⟩ := iv_fold hk hin Q (P ++ [i]) _ _ hQ' hP' g2 g1
    have e3 : Q.foldl (krS l) (stOf k l (P ++ [i])) = stOf k l ((P ++ [i]) ++ Q) := by unfold stOf; exact List.foldl_append.symm
    rw [e3] at h3
    show (¬ Cn l P (pA l i) (pB l i) ∧ Fo l (P ++ [i]) Q) ↔ _
    rw [ih, e1, List.length_cons]
    by_cases c : ((stOf k l P).1.getD (pA l i) 0).testBit (pB l i) = true
    · have hc := (h1.2 _ a1 _ a2).1 c
      have e4 : krS l (stOf k l P) i = stOf k l P := by unfold krS; rw [if_pos c]
      rw [e2, e4] at h3 ⊢
      constructor
      · rintro ⟨q, _⟩; exact absurd hc q
      · intro q; omega
    · have hs := comps_step hk hin hP hi h2 h1 c
      rw [e2]
      constructor
      · rintro ⟨_, q⟩; omega
      · intro q
        exact ⟨fun hc => c ((h1.2 _ a1 _ a2).2 hc), by omega⟩
theorem fo0 (hk : k ≤ 8) (hin : InC k l) {T : List Nat} (hT : ∀ x ∈ T, x < l.length) : Fo l [] T ↔ comps k (stOf k l T) + T.length = k := by
  rw [fo_comps hk hin T [] (fun x h => by cases h) hT, List.nil_append]
  rw [show stOf k l [] = st0 k l.length from rfl, comps_zero]
theorem fo_set (hk : k ≤ 8) (hin : InC k l) {T T' : List Nat} (hT : ∀ x ∈ T, x < l.length) (hs : ∀ x, x ∈ T ↔ x ∈ T') (hl : T.length = T'.length) : Fo l [] T ↔ Fo l [] T' := by
  have hT' : ∀ x ∈ T', x < l.length := fun x hx => hT x ((hs x).2 hx)
  have h1 := (st_iv hk hin hT).1
  have h2 := (st_iv hk hin hT').1
  have q1 := comps_mono h1 h2 fun a b h => h.mono fun x hx => (hs x).1 hx
  have q2 := comps_mono h2 h1 fun a b h => h.mono fun x hx => (hs x).2 hx
  rw [fo0 hk hin hT, fo0 hk hin hT']; omega
theorem fo_down (hk : k ≤ 8) (hin : InC k l) {T T' : List Nat} (hT : ∀ x ∈ T, x < l.length) (hn : T.Nodup) (hn' : T'.Nodup) (hs : ∀ x ∈ T', x ∈ T) (h : Fo l [] T) : Fo l [] T' := by
  obtain ⟨R, hR⟩ : ∃ R, R = T.filter fun x => !decide (x ∈ T') := ⟨_, rfl⟩
  have hm : ∀ x, x ∈ T' ++ R ↔ x ∈ T := fun x => by
    rw [List.mem_append, hR, List.mem_filter]
    by_cases c : x ∈ T'
    · exact ⟨fun _ => hs x c, fun _ => .inl c⟩
    · exact ⟨fun q => q.elim (fun q => absurd q c) (·.1), fun q => .inr ⟨q, by rw [decide_eq_false c]; rfl⟩⟩
  have hnd : (T' ++ R).Nodup := by
    rw [List.nodup_append]
    refine ⟨hn', by rw [hR]; exact hn.filter _, fun a ha b hb e => ?_⟩
    rw [hR, List.mem_filter, ← e, decide_eq_true ha] at hb
    exact absurd hb.2 (by decide)
  have hlen : (T' ++ R).length = T.length := len_ext hnd hn hm
  have h2 : Fo l [] (T' ++ R) := (fo_set hk hin (fun x hx => hT x ((hm x).1 hx)) hm hlen).2 h
  exact ((fo_app T' [] R).1 h2).1
theorem fo_aug (hk : k ≤ 8) (hin : InC k l) {A B : List Nat} (hA : ∀ x ∈ A, x < l.length) (hB : ∀ x ∈ B, x < l.length) (fA : Fo l [] A) (fB : Fo l [] B) (hlt : A.length < B.length) : ∃ b ∈ B, ¬ Cn l A (pA l b) (pB l b) := by
  apply Classical.byContradiction
  intro hn
  have hall : ∀ b ∈ B, Cn l A (pA l b) (pB l b) := fun b hb => Classical.byContradiction fun q => hn ⟨b, hb, q⟩
  have key : ∀ {u v}, Cn l B u v → Cn l A u v := by
    intro u v h
    induction h with
    | refl => exact .refl _
    | step _ hi hj ih =>
      rcases hj with ⟨e1, e2⟩ | ⟨e1, e2⟩
      · subst e1; subst e2; exact ih.trans (hall _ hi)
      · subst e1; subst e2; exact ih.trans (hall _ hi).symm
  have q := comps_mono (st_iv hk hin hB).1 (st_iv hk hin hA).1 fun a b h => key h
  have q1 := (fo0 hk hin hA).1 fA
  have q2 := (fo0 hk hin hB).1 fB
  omega
/-! ### as masks -/
/-- a set of lines without a ring -/
def frB (k : Nat) (l : List (Int × Int × Int)) (s : Nat) : Bool := decide (s < 2 ^ l.length) && (comps k (stOf k l (memb s)) + (memb s).length == k)
variable (hk : k ≤ 8) (hin : InC k l) (h5 : l.length ≤ 5)
include hk hin h5
theorem mlt {s x : Nat} (hs : s < 2 ^ l.length) (hx : x ∈ memb s) : x < l.length := by
  have hp := Nat.pow_le_pow_right (n := 2) (by omega) h5
  exact bits_lt hs ((mem_memb (by omega)).1 hx)
theorem frB_iff {s : Nat} : frB k l s = true ↔ s < 2 ^ l.length ∧ Fo l [] (memb s) := by
  unfold frB
  rw [Bool.and_eq_true, decide_eq_true_eq, beq_iff_eq]
  constructor
  · rintro ⟨a, b⟩; exact ⟨a, (fo0 hk hin fun x hx => mlt hk hin h5 a hx).2 b⟩
  · rintro ⟨a, b⟩; exact ⟨a, (fo0 hk hin fun x hx => mlt hk hin h5 a hx).1 b⟩
theorem frB_of {s : Nat} {T : List Nat} (hs : s < 2 ^ l.length) (hn : T.Nodup) (hm : ∀ x, x ∈ T ↔ s.testBit x = true) : frB k l s = true ↔ Fo l [] T := by
  have hp := Nat.pow_le_pow_right (n := 2) (by omega) h5
  rw [frB_iff hk hin h5]
  have hb : ∀ x, x ∈ memb s ↔ x ∈ T := fun x => by rw [mem_memb (by omega), hm]
  rw [fo_set hk hin (fun x hx => mlt hk hin h5 hs hx) hb (len_ext (nd_memb _) hn hb)]
  exact ⟨fun q => q.2, fun q => ⟨hs, q⟩⟩
theorem frB_zero : frB k l 0 = true := by
  rw [frB_iff hk hin h5]
  refine ⟨Nat.two_pow_pos _, ?_⟩
  rw [show memb 0 = [] by decide]; trivial
theorem frB_down : Down (frB k l) := fun a b hab ha => by
  have hp := Nat.pow_le_pow_right (n := 2) (by omega) h5
  obtain ⟨h1, h2⟩ := (frB_iff hk hin h5).1 ha
  have hb : b < 2 ^ l.length := lt_bits fun j hj => bits_lt h1 (hab j hj)
  refine (frB_iff hk hin h5).2 ⟨hb, fo_down hk hin (fun x hx => mlt hk hin h5 h1 hx) (nd_memb _) (nd_memb _) (fun x hx => ?_) h2⟩
  rw [mem_memb (by omega)] at hx ⊢
  exact hab x hx
/-- with one line more -/
theorem frB_more {a i : Nat} (ha : frB k l a = true) (hi : i < l.length) : frB k l (a ||| 2 ^ i) = true ↔ a.testBit i = true ∨ ¬ Cn l (memb a) (pA l i) (pB l i) := by
  have hp := Nat.pow_le_pow_right (n := 2) (by omega) h5
  obtain ⟨h1, h2⟩ := (frB_iff hk hin h5).1 ha
  have hlt : a ||| 2 ^ i < 2 ^ l.length := lt_bits fun j hj => by
    rcases (or_bit a i j).1 hj with q | q
    · exact bits_lt h1 q
    · rw [q]; exact hi
  by_cases c : a.testBit i = true
  · have e : a ||| 2 ^ i = a := Nat.eq_of_testBit_eq fun j => by
      rw [Bool.eq_iff_iff, or_bit]
      exact ⟨fun q => q.elim id fun q => by rw [q]; exact c, .inl⟩
    rw [e]; exact ⟨fun _ => .inl c, fun _ => ha⟩
  · have hni : i ∉ memb a := fun q => c ((mem_memb (by omega)).1 q)
    rw [frB_of hk hin h5 (T := memb a ++ [i]) hlt (List.nodup_append.2 ⟨nd_memb _, by simp, fun x hx y hy e => hni (by rw [← List.mem_singleton.1 hy, ← e]; exact hx)⟩) (fun x => by rw [List.mem_append, mem_memb (by omega), List.mem_singleton, or_bit]), fo_app]
    show (_ ∧ (¬ Cn l ([] ++ memb a) (pA l i) (pB l i) ∧ True)) ↔ _
    rw [List.nil_append]
    exact ⟨fun q => .inr q.2.1, fun q => ⟨h2, q.resolve_left c, trivial⟩⟩
theorem frB_fair {a b : Nat} (ha : frB k l a = true) (hb : frB k l b = true) (hlt : (memb a).length < (memb b).length) : ∃ i, b.testBit i = true ∧ a.testBit i = false ∧ frB k l (a ||| 2 ^ i) = true := by
  have hp := Nat.pow_le_pow_right (n := 2) (by omega) h5
  obtain ⟨a1, a2⟩ := (frB_iff hk hin h5).1 ha
  obtain ⟨b1, b2⟩ := (frB_iff hk hin h5).1 hb
  obtain ⟨i, i1, i2⟩ := fo_aug hk hin (fun x hx => mlt hk hin h5 a1 hx) (fun x hx => mlt hk hin h5 b1 hx) a2 b2 hlt
  refine ⟨i, (mem_memb (by omega)).1 i1, ?_, (frB_more hk hin h5 ha (mlt hk hin h5 b1 i1)).2 (.inr i2)⟩
  cases e : a.testBit i
  · rfl
  · exact absurd (Cn.line ((mem_memb (by omega)).2 e)) i2
/-! ### those that none can join -/
def isBs (k : Nat) (l : List (Int × Int × Int)) (s : Nat) : Bool := frB k l s && (List.range l.length).all fun i => s.testBit i || !frB k l (s ||| 2 ^ i)
def bases (k : Nat) (l : List (Int × Int × Int)) : List (List Int) := ((List.range (2 ^ l.length)).filter (isBs k l)).map membI
omit hin in
theorem membI_mem {s : Nat} (hs : s < 2 ^ l.length) (i : Nat) : (i : Int) ∈ membI s ↔ s.testBit i = true := by
  have hp := Nat.pow_le_pow_right (n := 2) (by omega) h5
  rw [← mem_memb (by omega)]
  unfold membI
  rw [List.mem_map]
  constructor
  · rintro ⟨x, hx, e⟩
    have : x = i := by have : (x : Int) = (i : Int) := e; omega
    rw [← this]; exact hx
  · intro h; exact ⟨i, h, rfl⟩
theorem bases_rw : Rw l.length (bases k l) := fun r hr => by
  obtain ⟨s, hs, rfl⟩ := List.mem_map.1 hr
  have hs := List.mem_range.1 (List.mem_filter.1 hs).1
  have hp := Nat.pow_le_pow_right (n := 2) (by omega) h5
  refine ⟨fun x hx => ?_, ?_⟩
  · obtain ⟨i, hi, rfl⟩ := List.mem_map.1 hx
    have := mlt hk hin h5 hs hi
    show 0 ≤ (i : Int) ∧ (i : Int) < _
    omega
  · exact List.Pairwise.map _ (fun a b h e => h (by have : (a : Int) = (b : Int) := e; omega)) (nd_memb s)
theorem may_iff {s : Nat} (hs : s < 2 ^ l.length) : mayB (bases k l) s = frB k l s := by
  rw [Bool.eq_iff_iff, mayB_iff (bases_rw hk hin h5)]
  constructor
  · rintro (rfl | ⟨r, hr, h⟩)
    · exact frB_zero hk hin h5
    · obtain ⟨b, hb, rfl⟩ := List.mem_map.1 hr
      obtain ⟨hb1, hb2⟩ := List.mem_filter.1 hb
      have hb1 := List.mem_range.1 hb1
      unfold isBs at hb2
      rw [Bool.and_eq_true] at hb2
      exact frB_down hk hin h5 b s (fun i hi => (membI_mem hk h5 hb1 i).1 (h i hi)) hb2.1
  · intro h
    right
    obtain ⟨b, hb⟩ : ∃ b, b = G (frB k l) (List.range l.length) s := ⟨_, rfl⟩
    have hbm : frB k l b = true := by rw [hb]; exact G_may _ _ h
    have hbl := ((frB_iff hk hin h5).1 hbm).1
    refine ⟨membI b, List.mem_map.2 ⟨b, List.mem_filter.2 ⟨List.mem_range.2 hbl, ?_⟩, rfl⟩, fun i hi => (membI_mem hk h5 hbl i).2 (by rw [hb]; exact G_sub _ _ _ hi)⟩
    unfold isBs
    rw [Bool.and_eq_true]
    refine ⟨hbm, List.all_eq_true.2 fun i hi => ?_⟩
    cases e : b.testBit i
    · rw [hb] at e ⊢
      rw [G_full (frB_down hk hin h5) _ _ i hi e]; rfl
    · rfl
theorem bases_fair : FairP (mayB (bases k l)) l.length := fun a b ha hb hlt h1 h2 => by
  rw [may_iff hk hin h5 ha] at h1
  rw [may_iff hk hin h5 hb] at h2
  obtain ⟨i, i1, i2, i3⟩ := frB_fair hk hin h5 h1 h2 hlt
  exact ⟨i, i1, i2, by rw [may_iff hk hin h5 ((frB_iff hk hin h5).1 i3).1]; exact i3⟩
/-! ### the two ways to take are one -/
omit hk hin h5 in
theorem ord_uniq {R : Nat → Nat → Prop} (hR : ∀ a b, R a b → ¬ R b a) : ∀ (x y : List Nat), x.Nodup → y.Nodup → (∀ a, a ∈ x ↔ a ∈ y) → x.Pairwise R → y.Pairwise R → x = y
  | [], [], _, _, _, _, _ => rfl
  | [], b :: y, _, _, h, _, _ => by have := (h b).2 List.mem_cons_self; cases this
  | a :: x, [], _, _, h, _, _ => by have := (h a).1 List.mem_cons_self; cases this
  | a :: x, b :: y, h1, h2, h, p1, p2 => by
    obtain ⟨n1, n2⟩ := List.nodup_cons.1 h1
    obtain ⟨m1, m2⟩ := List.nodup_cons.1 h2
    obtain ⟨q1, q2⟩ := List.pairwise_cons.1 p1
    obtain ⟨r1, r2⟩ := List.pairwise_cons.1 p2
    have e : a = b := by
      apply Classical.byContradiction
      intro hne
      have hb : b ∈ x := (List.mem_cons.1 ((h b).2 List.mem_cons_self)).resolve_left fun q => hne q.symm
      have ha : a ∈ y := (List.mem_cons.1 ((h a).1 List.mem_cons_self)).resolve_left hne
      exact hR _ _ (q1 b hb) (r1 a ha)
    subst e
    rw [ord_uniq hR x y n2 m2 (fun z => ?_) q2 r2]
    constructor
    · intro hz
      rcases List.mem_cons.1 ((h z).1 (List.mem_cons_of_mem _ hz)) with q | q
      · exact absurd (q ▸ hz) n1
      · exact q
    · intro hz
      rcases List.mem_cons.1 ((h z).2 (List.mem_cons_of_mem _ hz)) with q | q
      · exact absurd (q ▸ hz) m1
      · exact q
theorem both {m : Nat → Bool} (hm : ∀ s, s < 2 ^ l.length → m s = frB k l s) : ∀ (Q P : List Nat) (h : Nat), (∀ x ∈ P, x < l.length) → (∀ x ∈ Q, x < l.length) → Q.Nodup → (∀ x ∈ Q, h.testBit x = false) → frB k l h = true →
    (∀ u v, Cn l P u v ↔ Cn l (memb h) u v) → (stOf k l P).2.2 = sumL (cs l) (memb h) →
    frB k l (G m Q h) = true ∧ (∀ u v, Cn l (P ++ Q) u v ↔ Cn l (memb (G m Q h)) u v) ∧ (stOf k l (P ++ Q)).2.2 = sumL (cs l) (memb (G m Q h))
  | [], P, h, _, _, _, _, hf, hc, hs => by rw [List.append_nil]; exact ⟨hf, hc, hs⟩
  | i :: Q, P, h, hP, hQ, hn, hb, hf, hc, hs => by
    have hp := Nat.pow_le_pow_right (n := 2) (by omega) h5
    have hi := hQ i List.mem_cons_self
    have hbi := hb i List.mem_cons_self
    obtain ⟨n1, n2⟩ := List.nodup_cons.1 hn
    obtain ⟨a1, a2⟩ := ends_lt hin hi
    have hP' : ∀ x ∈ P ++ [i], x < l.length := fun x hx => (List.mem_append.1 hx).elim (hP x) fun q => by rw [List.mem_singleton.1 q]; exact hi
    have hQ' : ∀ x ∈ Q, x < l.length := fun x hx => hQ x (List.mem_cons_of_mem _ hx)
    have hl := ((frB_iff hk hin h5).1 hf).1
    have hlt : h ||| 2 ^ i < 2 ^ l.length := lt_bits fun j hj => by
      rcases (or_bit h i j).1 hj with q | q
      · exact bits_lt hl q
      · rw [q]; exact hi
    have e1 : P ++ i :: Q = (P ++ [i]) ++ Q := by rw [List.append_assoc]; rfl
    have e2 : stOf k l (P ++ [i]) = krS l (stOf k l P) i := by unfold stOf; rw [List.foldl_append]; rfl
    have eG : G m (i :: Q) h = G m Q (gr m h i) := rfl
    have hiv := (st_iv hk hin hP).1
    rw [e1, eG]
    by_cases c : Cn l P (pA l i) (pB l i)
    · have hno : m (h ||| 2 ^ i) = false := by
        rw [hm _ hlt]
        cases e : frB k l (h ||| 2 ^ i)
        · rfl
        · rcases (frB_more hk hin h5 hf hi).1 e with q | q
          · rw [hbi] at q; cases q
          · exact absurd ((hc _ _).1 c) q
      have eg : gr m h i = h := by unfold gr; rw [if_neg (by rw [hno]; decide)]
      have e3 : krS l (stOf k l P) i = stOf k l P := by unfold krS; rw [if_pos ((hiv.2 _ a1 _ a2).2 c)]
      rw [eg]
      refine both hm Q (P ++ [i]) h hP' hQ' n2 (fun x hx => hb x (List.mem_cons_of_mem _ hx)) hf (fun u v => ?_) (by rw [e2, e3]; exact hs)
      rw [Cn.more, ← hc u v]
      constructor
      · rintro (q | ⟨q1, q2⟩ | ⟨q1, q2⟩)
        · exact q
        · exact (q1.trans c).trans q2
        · exact (q1.trans c.symm).trans q2
      · exact .inl
    · have hyes : m (h ||| 2 ^ i) = true := by
        rw [hm _ hlt]
        exact (frB_more hk hin h5 hf hi).2 (.inr fun q => c ((hc _ _).2 q))
      have eg : gr m h i = h ||| 2 ^ i := by unfold gr; rw [if_pos hyes]
      have e3 : (krS l (stOf k l P) i).2.2 = (stOf k l P).2.2 + cs l i := by unfold krS; rw [if_neg fun q => c ((hiv.2 _ a1 _ a2).1 q)]
      have hset : ∀ x, x ∈ memb (h ||| 2 ^ i) ↔ x ∈ memb h ++ [i] := fun x => by
        rw [mem_memb (by omega), or_bit, List.mem_append, mem_memb (by omega), List.mem_singleton]
      rw [eg]
      refine both hm Q (P ++ [i]) _ hP' hQ' n2 (fun x hx => ?_) (by rw [← hm _ hlt]; exact hyes) (fun u v => ?_) ?_
      · cases e : (h ||| 2 ^ i).testBit x
        · rfl
        · rcases (or_bit h i x).1 e with q | q
          · rw [hb x (List.mem_cons_of_mem _ hx)] at q; cases q
          · rw [q] at hx; exact absurd hx n1
      · have : Cn l (memb (h ||| 2 ^ i)) u v ↔ Cn l (memb h ++ [i]) u v := ⟨fun q => q.mono fun x hx => (hset x).1 hx, fun q => q.mono fun x hx => (hset x).2 hx⟩
        rw [this, Cn.more, Cn.more, hc, hc, hc, hc, hc]
      · rw [e2, e3, hs, W_more (by omega) (by omega) hbi]
end
end Go.Proofs.Ytfabhdadckohdaa.Sp
