import Derived.Test.YtfabhdadckohdaaHP2
import Derived.Test.YtfabhdadckohdaaTl
import Derived.Shelf.SlSortCmp.Insertion1
import Derived.Lib.AppendIntMem
/- slices.SortStableFunc of a row of fewer than 20 numbers -/
set_option linter.all false
set_option maxRecDepth 100000
namespace Go.Proofs.Ytfabhdadckohdaa
open Go.RowKit Go.Shelf Go.Lib Go.Sort
def inscRen : Ren := ⟨fun x => if x = 20 then 70 else 0,
  fun x => if x = 0 then 0 else if x = 3 then 3 else if x = 4 then 4 else if x = 22 then 23 else if x = 24 then 3 else if x = 25 then 81 else 0, fun x => x⟩
theorem inscLays : SlLaysF.n20 Try.prog inscRen :=
  { mixed := by kernel_rfl
    f20 := ⟨ "slices.insertionSortCmpFunc[int]", by decide, Try.func70.trans (congrArg some (by kernel_rfl))⟩
    t0 := Try.underlying0
    a0 := Try.isAgg0
    z0 := Try.sizeOf0
    v0 := Try.zeroValue0
    t3 := Try.underlying3
    a3 := Try.isAgg3
    z3 := Try.sizeOf3
    v3 := Try.zeroValue3
    t4 := Try.underlying4
    a4 := Try.isAgg4
    z4 := Try.sizeOf4
    v4 := Try.zeroValue4
    t22 := Try.underlying23
    a22 := Try.isAgg23
    z22 := Try.sizeOf23
    v22 := Try.zeroValue23
    a24 := Try.isAgg3
    z24 := Try.sizeOf3
    t25 := Try.underlying81
    a25 := Try.isAgg81
    z25 := Try.sizeOf81
    v25 := Try.zeroValue81 }
set_option maxHeartbeats 4000000 in
set_option maxRecDepth 1000000 in
theorem stab_small {α : Type} [Inhabited α] (enc : α → Value) (cf : α → α → Int) (g : Nat) (cb : Array Value) (blk cap : Nat) (d : Array α) (w : World)
    (eg : ∀ args w, (callFunc g args).run Try.prog w = .ok (.enter g args) w) (hcmp : CmpLays1 Try.prog g cb enc cf blk 0 d.size w) (R : Row1 enc w blk 0 d) (hd : d.size < 20) :
    Calls Try.prog 64 #[.slice (some ⟨blk, 0, none⟩) d.size cap, .int .i64 d.size, .func (.func g) #[] cb] w fun e w' => e = .returned (.tuple #[]) ∧ SW enc w blk 0 (Sort.insertionSort (ltOf cf) d 0 d.size) w' := by
  have h0 := Any.insertionSortCmpFunc_s inscLays enc cf g cb blk 0 cap 0 d.size d d w w eg hcmp R rfl (SW.start R.hH) (Nat.zero_le _) (Nat.le_refl _) (by omega)
  have HC := Lib.hid h0; clear h0
  clear hcmp R
  go_enter Try.func64, Try.ntmps64
  have c1 : ¬ ((20 : Int) ≤ (d.size : Int)) := by omega
  have c2 : ¬ ((20 : Int) < (d.size : Int)) := by omega
  go_wp2_with fail
  go_loopg [7, 8] 0 (fun gg ua ub wr => ua = .int .i64 0 ∧ ub = .int .i64 20 ∧ w = wr)
  case atStart => exact ⟨rfl, rfl, rfl⟩
  case round =>
    obtain ⟨rfl, rfl, rfl⟩ := hrel
    go_wp2_with fail
    refine HC.out.mono ?_; rintro e w1 ⟨rfl, hS⟩
    have HS := Lib.hid hS; clear hS
    go_wp2_with fail
    go_loopg [6] 0 (fun gg ua wr => ua = .int .i64 20 ∧ w1 = wr)
    case atStart => exact ⟨rfl, rfl⟩
    case round =>
      obtain ⟨rfl, rfl⟩ := hrel
      go_wp2_with fail
      go_end0
      exact ⟨rfl, HS.out⟩

section
variable {α : Type} [Inhabited α] (lt : α → α → Bool)
theorem insInner_size (a : Nat) : ∀ (j : Nat) (d : Array α), (Sort.insInner lt a j d).size = d.size
  | 0, d => by rw [Sort.insInner]
  | j+1, d => by
    rw [Sort.insInner]
    split
    · rw [insInner_size a j]; simp [Sort.swp]
    · rfl
theorem insOuter_size (a b : Nat) : ∀ (n i : Nat) (d : Array α), b - i = n → (Sort.insOuter lt a b i d).size = d.size
  | 0, i, d, h => by rw [Sort.insOuter, if_neg (by omega)]
  | n+1, i, d, h => by rw [Sort.insOuter, if_pos (by omega), insOuter_size a b n (i+1) _ (by omega), insInner_size]
theorem insertionSort_size (d : Array α) (a b : Nat) : (Sort.insertionSort lt d a b).size = d.size := insOuter_size lt a b _ _ d rfl
end
section
variable {N : Nat} [Inhabited (Fin N)]
def enF (x : Fin N) : Value := .int .i64 ((x.1 : Nat) : Int)
def vF (d : Array (Fin N)) : List Int := d.toList.map fun x => ((x.1 : Nat) : Int)
theorem vF_len (d : Array (Fin N)) : (vF d).length = d.size := by simp [vF]
theorem vF_at {d : Array (Fin N)} {i : Nat} (h : i < d.size) : (vF d)[i]'(by rw [vF_len]; exact h) = (((d[i]!).1 : Nat) : Int) := by
  simp [vF, getElem!_pos, h]
theorem vF_set {d : Array (Fin N)} {i : Nat} {x : Fin N} : vF (d.setIfInBounds i x) = (vF d).set i ((x.1 : Nat) : Int) := by
  simp [vF]
variable {w W : World} {B blk cap n : Nat} {its : List It}
theorem holds_of {d : Array (Fin N)} (h : HP W B (.fl (owI (.slice (some ⟨blk, 0, none⟩) n cap) (vF d)) :: its)) : Holds enF W blk 0 d := fun j hj => by
  have hr := HP.rd_I h (List.Mem.head _)
  have hl := vF_len d
  obtain ⟨b, o, e, _, hc⟩ := ReadsI.at_ hr (k := j) (by omega)
  cases e
  obtain ⟨g, e, hf, _, _, _⟩ := HP.setI (its1 := []) (x := 0) h (i := (j : Int)) (by omega)
  cases e
  rw [Int.toNat_natCast] at hf
  rw [Nat.zero_add] at hc ⊢
  exact ⟨by rw [hc, vF_at hj]; rfl, hf⟩
theorem hp_put {d : Array (Fin N)} (hB : B ≤ W.heap.size) (h : HP W B (.fl (owI (.slice (some ⟨blk, 0, none⟩) n cap) (vF d)) :: its)) (d2 : Array (Fin N)) (hs : d2.size = d.size) :
    HP (putRow enF W blk 0 d2) B (.fl (owI (.slice (some ⟨blk, 0, none⟩) n cap) (vF d2)) :: its) ∧ Below B W (putRow enF W blk 0 d2) := by
  have key : ∀ (m k : Nat) (d1 : Array (Fin N)), k + m = d.size → d1.size = d.size → (∀ i, i < k → d1[i]! = d2[i]!) →
      HP (putRow enF W blk 0 d1) B (.fl (owI (.slice (some ⟨blk, 0, none⟩) n cap) (vF d1)) :: its) → Below B W (putRow enF W blk 0 d1) →
      HP (putRow enF W blk 0 d2) B (.fl (owI (.slice (some ⟨blk, 0, none⟩) n cap) (vF d2)) :: its) ∧ Below B W (putRow enF W blk 0 d2) := by
    intro m
    induction m with
    | zero =>
      intro k d1 hk h1 h2 h3 h4
      have e : d1 = d2 := by
        apply Array.ext (by omega)
        intro i hi1 hi2
        have := h2 i (by omega)
        rwa [getElem!_pos d1 i hi1, getElem!_pos d2 i hi2] at this
      subst e
      exact ⟨h3, h4⟩
    | succ m ih =>
      intro k d1 hk h1 h2 h3 h4
      have hkl : k < d1.size := by omega
      have hl := vF_len d1
      obtain ⟨g, e, _, _, hp, hb⟩ := HP.setI (its1 := []) (x := (((d2[k]!).1 : Nat) : Int)) h3 (i := (k : Int)) (by omega)
      cases e
      rw [Int.toNat_natCast] at hp hb
      have e := putRow_set enF W blk 0 d1 k (d2[k]!) hkl
      rw [Nat.zero_add] at e
      have e' : (putRow enF W blk 0 d1).setCell ⟨blk, k, none⟩ (Value.int .i64 (((d2[k]!).1 : Nat) : Int)) = putRow enF W blk 0 (d1.setIfInBounds k (d2[k]!)) := e
      rw [e'] at hp hb
      rw [← vF_set] at hp
      refine ih (k+1) (d1.setIfInBounds k (d2[k]!)) (by omega) (by rw [Array.size_setIfInBounds]; exact h1) (fun i hi => ?_) hp (h4.trans hb)
      by_cases e : i = k
      · subst e; exact getElem!_set_same d1 i _ hkl
      · rw [getElem!_set_other d1 k i _ e]; exact h2 i (by omega)
  have e := putRow_self enF W blk 0 d (holds_of h)
  exact key d.size 0 d (by omega) rfl (fun i hi => by omega) (by rw [e]; exact h) (by rw [e]; exact Below.refl _ _)
theorem hp_sw {d : Array (Fin N)} (hB : B ≤ W.heap.size) (h : HP W B (.fl (owI (.slice (some ⟨blk, 0, none⟩) n cap) (vF d)) :: its)) (d2 : Array (Fin N)) (hs : d2.size = d.size) (m : Nat) (os : Array Obj) :
    HP (sortWorld enF W blk 0 m d2 os) B (.fl (owI (.slice (some ⟨blk, 0, none⟩) n cap) (vF d2)) :: its) ∧ Below B W (sortWorld enF W blk 0 m d2 os) := by
  obtain ⟨h1, h2⟩ := hp_put hB h d2 hs
  have e : sortWorld enF W blk 0 m d2 os = grow ((putRow enF W blk 0 d2).drewN m) os := rfl
  have hb := below_grow (putRow enF W blk 0 d2).heap.size (putRow enF W blk 0 d2) (Nat.le_refl _) m os
  have hsz := h2.size
  rw [e]
  exact ⟨h1.below hb, h2.trans (hb.mono (by omega))⟩
end
def cfN (c : Int → Int → Option Int) (n : Nat) : Fin n → Fin n → Int := fun a b => (c ((a.1 : Nat) : Int) ((b.1 : Nat) : Int)).getD 0
def toF (l : List Int) (h : 0 < l.length) : Array (Fin l.length) := (l.map fun x => if q : x.toNat < l.length then (⟨x.toNat, q⟩ : Fin l.length) else ⟨0, h⟩).toArray
def stbOf (c : Int → Int → Option Int) (l : List Int) (h : 0 < l.length) : List Int :=
  haveI : Inhabited (Fin l.length) := ⟨⟨0, h⟩⟩
  vF (Sort.insertionSort (ltOf (cfN c l.length)) (toF l h) 0 (toF l h).size)
/-- the row, sorted -/
def slStb (c : Int → Int → Option Int) (l : List Int) : Option (List Int) :=
  if h : 0 < l.length ∧ l.length < 20 ∧ (∀ x ∈ l, 0 ≤ x ∧ x < (l.length : Int)) ∧ (∀ i, i < l.length → ∀ j, j < l.length → (c (i : Int) (j : Int)).isSome = true) then
    some (stbOf c l h.1)
  else none
theorem vF_toF {l : List Int} (h : 0 < l.length) (hl : ∀ x ∈ l, 0 ≤ x ∧ x < (l.length : Int)) : vF (toF l h) = l := by
  unfold vF toF
  rw [List.toList_toArray, List.map_map]
  conv => rhs; rw [← List.map_id l]
  refine List.map_congr_left fun x hx => ?_
  have := hl x hx
  simp only [Function.comp]
  rw [dif_pos (by omega)]
  show ((x.toNat : Nat) : Int) = x
  omega
set_option maxHeartbeats 4000000 in
theorem hp_stab {w W : World} {its : List It} {A : Option Addr} {cap n : Nat} {l l' : List Int} {c : Int → Int → Option Int} (g : Nat) (cb : Array Value)
    (eg : ∀ args w, (callFunc g args).run Try.prog w = .ok (.enter g args) w) (hd : Below w.heap.size w W) (h : HP W w.heap.size (.fl (owI (.slice A n cap) l) :: its))
    (hc : ∀ (W' : World) (a b r : Int), Below w.heap.size w W' → HP W' w.heap.size its → c a b = some r → Calls Try.prog g (#[.int .i64 a, .int .i64 b] ++ cb) W' fun e w' => e = .returned (.int .i64 r) ∧ Dr W' w')
    (hs : slStb c l = some l') :
    Calls Try.prog 46 #[.slice A n cap, .func (.func g) #[] cb] W fun e W' => e = .returned (.tuple #[]) ∧ HP W' w.heap.size (.fl (owI (.slice A n cap) l') :: its) ∧ Below w.heap.size w W' := by
  unfold slStb at hs
  split at hs
  · rename_i hh
    obtain ⟨h0, h20, hin, hdef⟩ := hh
    obtain rfl := Option.some.inj hs
    letI : Inhabited (Fin l.length) := ⟨⟨0, h0⟩⟩
    obtain ⟨blk, e, _, _, _, _⟩ := HP.setI (its1 := []) (x := 0) h (i := ((0 : Nat) : Int)) (by omega)
    subst e
    have hn := HP.len_I h (List.Mem.head _)
    subst hn
    have hv := vF_toF h0 hin
    have hsz : (toF l h0).size = l.length := by rw [← vF_len, hv]
    have hW := hd.size
    have h' : HP W w.heap.size (.fl (owI (.slice (some ⟨blk, 0, none⟩) l.length cap) (vF (toF l h0))) :: its) := by rw [hv]; exact h
    have hH := holds_of h'
    have hblk : blk < W.heap.size := by
      have := (hH 0 (by omega)).1
      exact World.block_lt_of_cell? _ _ this
    have R : Row1 enF W blk 0 (toF l h0) := ⟨fun x => rfl, hH, hblk⟩
    have hcmp : CmpLays1 Try.prog g cb enF (cfN c l.length) blk 0 (toF l h0).size W := fun m os dk hk x y => by
      obtain ⟨q1, q2⟩ := hp_sw hW h' dk hk m os
      have hx := hdef x.1 x.2 y.1 y.2
      obtain ⟨r, hr⟩ := Option.isSome_iff_exists.1 hx
      refine (hc _ _ _ r (hd.trans q2) (HP.sub q1 (List.sublist_cons_self _ _)) hr).mono ?_
      rintro e w' ⟨rfl, m', hm⟩
      refine ⟨?_, m', #[], by rw [grow_empty]; exact hm⟩
      show Ending.returned _ = Ending.returned _
      unfold cfN
      rw [hr]; rfl
    have hst := stab_small enF (cfN c l.length) g cb blk cap (toF l h0) W eg hcmp R (by omega)
    rw [hsz] at hst
    have HST := Lib.hid hst; clear hst
    have hfin : ∀ W', SW enF W blk 0 (Sort.insertionSort (ltOf (cfN c l.length)) (toF l h0) 0 l.length) W' → HP W' w.heap.size (.fl (owI (.slice (some ⟨blk, 0, none⟩) l.length cap) (stbOf c l h0)) :: its) ∧ Below w.heap.size w W' := fun W' ⟨m, os, hw⟩ => by
      have hsz2 : (Sort.insertionSort (ltOf (cfN c l.length)) (toF l h0) 0 l.length).size = (toF l h0).size := insertionSort_size ..
      obtain ⟨q1, q2⟩ := hp_sw hW h' _ hsz2 m os
      rw [hw]
      refine ⟨?_, hd.trans q2⟩
      have e : stbOf c l h0 = vF (Sort.insertionSort (ltOf (cfN c l.length)) (toF l h0) 0 l.length) := by
        unfold stbOf; rw [hsz]
      rw [e]; exact q1
    have HF := Lib.hid hfin; clear hfin
    clear hcmp R hH h' h hc
    go_enter Try.func46, Try.ntmps46
    go_wp2_with fail
    refine HST.out.mono ?_; rintro e W' ⟨rfl, hS⟩
    have hq := HF.out W' hS
    have HQ := Lib.hid hq; clear hq hS
    go_wp2_with fail
    go_end0
    exact ⟨rfl, HQ.out⟩
  · cases hs
end Go.Proofs.Ytfabhdadckohdaa
