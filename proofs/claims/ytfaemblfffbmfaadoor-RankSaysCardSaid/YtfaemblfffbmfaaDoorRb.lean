import Derived.Test.YtfaemblfffbmfaaDoorRa
import Derived.Sort.LotA
/- the order in which things are taken -/
set_option linter.all false
set_option maxRecDepth 100000
namespace Go.Proofs.YtfaemblfffbmfaaDoor
open Go.RowKit Pl Go.Shelf Go.Sort
/-! ### insertion keeps equal ones in order -/
section
variable {N : Nat} [Inhabited (Fin N)] (w : Nat → Int)
def ltW (a b : Fin N) : Bool := decide (w b.1 < w a.1)
def ltS (a b : Fin N) : Bool := decide (w b.1 < w a.1 ∨ (w a.1 = w b.1 ∧ a.1 < b.1))
theorem swp_at {d : Array (Fin N)} {i j k : Nat} (hi : i < d.size) (hj : j < d.size) : (swp d i j)[k]! = if k = j then d[i]! else if k = i then d[j]! else d[k]! := by
  unfold swp
  by_cases e : k = j
  · subst e; rw [if_pos rfl, getElem!_set_same _ _ _ (by simpa using hj)]
  · rw [if_neg e, getElem!_set_other _ _ _ _ e]
    by_cases e2 : k = i
    · subst e2; rw [if_pos rfl, getElem!_set_same _ _ _ hi]
    · rw [if_neg e2, getElem!_set_other _ _ _ _ e2]
theorem inner_eq : ∀ (j : Nat) (d : Array (Fin N)), j < d.size → (∀ p, p < j → (d[p]!).1 < (d[j]!).1) → insInner (ltW w) 0 j d = insInner (ltS w) 0 j d
  | 0, d, _, _ => by rw [insInner, insInner]
  | j+1, d, hj, h => by
    have hlt := h j (by omega)
    have e : ltW w d[j+1]! d[j]! = ltS w d[j+1]! d[j]! := by
      unfold ltW ltS
      rw [decide_eq_decide]; omega
    rw [insInner, insInner, e]
    split
    · refine inner_eq j (swp d (j+1) j) (by simp [swp]; omega) fun p hp => ?_
      rw [swp_at hj (by omega), swp_at hj (by omega), if_neg (by omega), if_neg (by omega), if_pos rfl]
      exact h p (by omega)
    · rfl
def Inv (i : Nat) (d : Array (Fin N)) : Prop := d.size = N ∧ (∀ p, p < i → (d[p]!).1 < i) ∧ ∀ q, i ≤ q → q < N → (d[q]!).1 = q
theorem inner_inv {i : Nat} (hi : i < N) : ∀ (j : Nat) (d : Array (Fin N)), j ≤ i → Inv (i+1) d → Inv (i+1) (insInner (ltS w) 0 j d)
  | 0, d, _, h => by rw [insInner]; exact h
  | j+1, d, hj, h => by
    rw [insInner]
    split
    · refine inner_inv hi j _ (by omega) ⟨by simp [swp]; exact h.1, fun p hp => ?_, fun q h1 h2 => ?_⟩
      · rw [swp_at (by rw [h.1]; omega) (by rw [h.1]; omega)]
        split
        · exact h.2.1 _ (by omega)
        · split
          · exact h.2.1 _ (by omega)
          · exact h.2.1 _ hp
      · rw [swp_at (by rw [h.1]; omega) (by rw [h.1]; omega), if_neg (by omega), if_neg (by omega)]
        exact h.2.2 q h1 h2
    · exact h
theorem Inv.up {i : Nat} {d : Array (Fin N)} (hi : i < N) (h : Inv i d) : Inv (i+1) d :=
  ⟨h.1, fun p hp => by
    by_cases e : p = i
    · subst e; have := h.2.2 p (Nat.le_refl _) hi; omega
    · have := h.2.1 p (by omega); omega, fun q h1 h2 => h.2.2 q (by omega) h2⟩
theorem outer_eq : ∀ (n i : Nat) (d : Array (Fin N)), N - i = n → i ≤ N → Inv i d → insOuter (ltW w) 0 N i d = insOuter (ltS w) 0 N i d
  | 0, i, d, hn, hi, _ => by rw [insOuter, if_neg (by omega), insOuter, if_neg (by omega)]
  | n+1, i, d, hn, hi, h => by
    have hlt : i < N := by omega
    conv => lhs; rw [insOuter, if_pos hlt]
    conv => rhs; rw [insOuter, if_pos hlt]
    rw [inner_eq w i d (by rw [h.1]; omega) fun p hp => by rw [h.2.2 i (Nat.le_refl _) hlt]; exact h.2.1 p hp]
    exact outer_eq n (i+1) _ (by omega) (by omega) (inner_inv w hlt i d (Nat.le_refl _) (h.up hlt))
theorem swoS : SWO (ltS (N := N) w) where
  irrefl := fun x => by unfold ltS; rw [decide_eq_false_iff_not]; omega
  trans := fun x y z h1 h2 => by unfold ltS at *; rw [decide_eq_true_eq] at *; omega
  ntrans := fun x y z h1 h2 => by unfold ltS at *; rw [decide_eq_false_iff_not] at *; omega
/-- the sorted row -/
theorem sort_spec (hN : 0 < N) {d : Array (Fin N)} (hd : Inv 0 d) : ∃ ord : List Nat, vF (insertionSort (ltW w) d 0 N) = ord.map (fun (x : Nat) => (x : Int)) ∧ ord.Nodup ∧ (∀ x, x ∈ ord ↔ x < N) ∧ ord.Pairwise fun a b => w b < w a ∨ (w a = w b ∧ a < b) := by
  have h1 : insertionSort (ltW w) d 0 N = insertionSort (ltS w) d 0 N := by
    unfold insertionSort
    exact outer_eq w _ _ d rfl (by omega) (hd.up hN)
  obtain ⟨hp, hs⟩ := insertionSort_holds (lt := ltS (N := N) w) (swoS w) d 0 N (by omega) (by rw [hd.1]; omega)
  rw [← h1] at hp hs
  obtain ⟨z, hz⟩ : ∃ z, insertionSort (ltW w) d 0 N = z := ⟨_, rfl⟩
  rw [hz] at hp hs ⊢
  have hsz : z.size = N := hp.1.trans hd.1
  have hperm : z.toList.Perm d.toList := by
    have := hp.2.2
    rwa [Array.extract_eq_self_of_le (by omega), Array.extract_eq_self_of_le (by rw [hd.1]; omega)] at this
  have hdl : d.toList.map (fun x => x.1) = List.range N := by
    apply List.ext_getElem (by simp [hd.1])
    intro i hi1 hi2
    have hi : i < N := by simpa using hi2
    have := hd.2.2 i (by omega) hi
    rw [getElem!_pos d i (by rw [hd.1]; exact hi)] at this
    simpa using this
  have hpm : (z.toList.map fun x => x.1).Perm (List.range N) := by rw [← hdl]; exact hperm.map _
  refine ⟨z.toList.map fun x => x.1, by unfold vF; rw [List.map_map]; rfl, (hpm.nodup_iff).2 List.nodup_range, fun x => by rw [hpm.mem_iff, List.mem_range], ?_⟩
  rw [List.pairwise_iff_getElem]
  intro i j hi hj hij
  have hi' : i < z.size := by simpa using hi
  have hj' : j < z.size := by simpa using hj
  have := hs i j (by omega) hij (by omega)
  unfold ltS at this
  rw [decide_eq_false_iff_not, getElem!_pos z i hi', getElem!_pos z j hj'] at this
  have hne : z[i].1 ≠ z[j].1 := by
    intro e
    have hnd := (hpm.nodup_iff).2 List.nodup_range
    exact (List.pairwise_iff_getElem.1 hnd i j hi hj hij) (by simpa using e)
  simp only [List.getElem_map, Array.getElem_toList]
  omega
end
/-! ### the order of Greedy -/
theorem toF_inv {k : Nat} (hk : 0 < k) : ∀ (l : List Int) (hl : l = (List.range k).map fun (x : Nat) => (x : Int)) (h : 0 < l.length), haveI : Inhabited (Fin l.length) := ⟨⟨0, h⟩⟩; Inv 0 (toF l h) := by
  intro l hl h
  have hlen : l.length = k := by rw [hl]; simp
  letI : Inhabited (Fin l.length) := ⟨⟨0, h⟩⟩
  refine ⟨by simp [toF], fun p hp => by omega, fun q _ hq => ?_⟩
  have hqs : q < (toF l h).size := by simp [toF]; exact hq
  rw [getElem!_pos _ q hqs]
  simp only [toF, List.getElem_toArray, List.getElem_map]
  have hq2 : l[q] = (q : Int) := by
    have : q < k := by omega
    simp [hl]
  split
  · simp only [hq2]; omega
  · rename_i hc; rw [hq2] at hc; omega
theorem cmp_ev {F : Nat} (x y : Int) : cmp_Compare_int F x y = some (if x < y then -1 else if y < x then 1 else 0) := by
  unfold cmp_Compare_int cmp_isNaN_int
  rw [Option.bind_some, Option.bind_some, if_neg (by decide), if_neg (by decide)]
  split
  · rfl
  · split <;> rfl
theorem order_ev {F k : Nat} (h1 : 1 ≤ k) (h6 : k ≤ 6) {ws : List Int} (hw : ws.length = k) :
    ∃ ord : List Nat, slStb (fun z5 z6 => brambleweir_rank_Greedy_1 F ws z5 z6) ((List.range k).map fun (x : Nat) => (x : Int)) = some (ord.map fun (x : Nat) => (x : Int)) ∧ ord.Nodup ∧ (∀ x, x ∈ ord ↔ x < k) ∧
      ord.Pairwise fun a b => ws.getD b 0 < ws.getD a 0 ∨ (ws.getD a 0 = ws.getD b 0 ∧ a < b) := by
  obtain ⟨l, hl⟩ : ∃ l, l = (List.range k).map fun (x : Nat) => (x : Int) := ⟨_, rfl⟩
  have hlen : l.length = k := by rw [hl]; simp
  have hc : ∀ a b : Nat, a < k → b < k → brambleweir_rank_Greedy_1 F ws (a : Int) (b : Int) = some (if ws.getD b 0 < ws.getD a 0 then -1 else if ws.getD a 0 < ws.getD b 0 then 1 else 0) := fun a b ha hb => by
    unfold brambleweir_rank_Greedy_1
    rw [ix_at 0 (by omega), Option.bind_some, ix_at 0 (by omega), Option.bind_some, cmp_ev]; rfl
  rw [← hl]
  have h0 : 0 < l.length := by omega
  letI : Inhabited (Fin l.length) := ⟨⟨0, h0⟩⟩
  obtain ⟨ord, o1, o2, o3, o4⟩ := sort_spec (fun i => ws.getD i 0) h0 (toF_inv (by omega) l hl h0)
  refine ⟨ord, ?_, o2, fun x => by rw [o3, hlen], o4⟩
  unfold slStb
  rw [dif_pos ⟨h0, by omega, fun x hx => by rw [hl] at hx; obtain ⟨y, hy, rfl⟩ := List.mem_map.1 hx; have := List.mem_range.1 hy; omega, fun i hi j hj => by
    show (brambleweir_rank_Greedy_1 F ws (i : Int) (j : Int)).isSome = true
    rw [hc i j (by omega) (by omega)]; rfl⟩]
  congr 1
  rw [← o1]
  unfold stbOf
  have hlt : ltOf (cfN (fun z5 z6 => brambleweir_rank_Greedy_1 F ws z5 z6) l.length) = ltW (fun i => ws.getD i 0) := by
    funext a b
    have ha := a.2; have hb := b.2
    show decide ((brambleweir_rank_Greedy_1 F ws ((a.1 : Nat) : Int) ((b.1 : Nat) : Int)).getD 0 < 0) = decide (ws.getD b.1 0 < ws.getD a.1 0)
    rw [hc a.1 b.1 (by omega) (by omega), Option.getD_some]
    rw [decide_eq_decide]
    split
    · omega
    · split <;> omega
  have hsz : (toF l h0).size = l.length := by simp [toF]
  rw [hlt, hsz]
end Go.Proofs.YtfaemblfffbmfaaDoor
