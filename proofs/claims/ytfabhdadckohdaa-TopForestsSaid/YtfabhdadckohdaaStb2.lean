import Derived.Test.YtfabhdadckohdaaSymW
import Derived.Test.YtfabhdadckohdaaStb
/- slices.SortStableFunc of a row of fewer than 40 numbers -/
set_option linter.all false
set_option maxRecDepth 100000
namespace Go.Proofs.Ytfabhdadckohdaa
open Go.RowKit Go.Shelf Go.Lib Go.Sort
section
variable {α : Type} [Inhabited α]
def bigS (lt : α → α → Bool) (d : Array α) : Array α := if d.size = 20 then Sort.insertionSort lt (Sort.insertionSort lt d 0 20) 20 d.size else symM lt d.size 0 20 d.size (Sort.insertionSort lt (Sort.insertionSort lt d 0 20) 20 d.size)
set_option maxHeartbeats 8000000 in
set_option maxRecDepth 1000000 in
theorem stab_big (enc : α → Value) (cf : α → α → Int) (g : Nat) (cb : Array Value) (blk cap : Nat) (d : Array α) (w : World)
    (eg : ∀ args w, (callFunc g args).run Try.prog w = .ok (.enter g args) w) (hcmp : CmpLays1 Try.prog g cb enc cf blk 0 d.size w) (R : Row1 enc w blk 0 d) (h20 : 20 ≤ d.size) (h40 : d.size < 40) :
    Calls Try.prog 64 #[.slice (some ⟨blk, 0, none⟩) d.size cap, .int .i64 d.size, .func (.func g) #[] cb] w fun e w' => e = .returned (.tuple #[]) ∧ SW enc w blk 0 (bigS (ltOf cf) d) w' := by
  have h0 := Any.insertionSortCmpFunc_s inscLays enc cf g cb blk 0 cap 0 20 d d w w eg hcmp R rfl (SW.start R.hH) (Nat.zero_le _) h20 (by omega)
  have HC := Lib.hid h0; clear h0
  obtain ⟨d1, hd1⟩ : ∃ x, Sort.insertionSort (ltOf cf) d 0 20 = x := ⟨_, rfl⟩
  have hz1 : d1.size = d.size := by rw [← hd1]; exact insertionSort_size ..
  have h1 := fun W1 (hS : SW enc w blk 0 d1 W1) => Any.insertionSortCmpFunc_s inscLays enc cf g cb blk 0 cap 20 d.size d d1 w W1 eg hcmp R hz1.symm hS h20 (by omega) (by omega)
  obtain ⟨d2, hd2⟩ : ∃ x, Sort.insertionSort (ltOf cf) d1 20 d.size = x := ⟨_, rfl⟩
  have hz2 : d2.size = d.size := by rw [← hd2, insertionSort_size]; exact hz1
  rw [hz1] at h1
  have HC1 := Lib.hid h1; clear h1
  have h2 := fun W1 (hS : SW enc w blk 0 d2 W1) (h : 20 < d.size) => symM_walk enc cf g cb blk 0 cap eg d w hcmp R (by omega) d.size 0 20 d.size d2 W1 hz2.symm hS (by omega) (by omega) h (by omega)
  rw [hz2] at h2
  have HC2 := Lib.hid h2; clear h2
  have HB := Lib.hid (show bigS (ltOf cf) d = if d.size = 20 then d2 else symM (ltOf cf) d.size 0 20 d.size d2 by unfold bigS; rw [hd1, hd2])
  rw [hd1] at HC
  rw [hd2] at HC1
  clear hcmp R hd1 hd2 hz1 hz2
  go_enter Try.func64, Try.ntmps64
  have c1 : (20 : Int) ≤ (d.size : Int) := by omega
  have c2 : ¬ ((40 : Int) ≤ (d.size : Int)) := by omega
  have c3 : ¬ ((40 : Int) < (d.size : Int)) := by omega
  go_wp2_with fail
  go_loopg [7, 8] 1 (fun gg ua ub wr => (gg = 1 ∧ ua = .int .i64 0 ∧ ub = .int .i64 20 ∧ w = wr) ∨ (gg = 0 ∧ ua = .int .i64 20 ∧ ub = .int .i64 40 ∧ Hid (SW enc w blk 0 d1 wr)))
  case atStart => exact .inl ⟨rfl, rfl, rfl, rfl⟩
  case round =>
    rcases hrel with ⟨rfl, rfl, rfl, rfl⟩ | ⟨rfl, rfl, rfl, HS⟩
    · go_wp2_with fail
      refine HC.out.mono ?_; rintro e w1 ⟨rfl, hS⟩
      have HS := Lib.hid hS; clear hS
      go_wp2_with fail
      go_roundg 0
      case measure => omega
      case rel => exact .inr ⟨rfl, rfl, rfl, HS⟩
    · go_wp2_with fail
      refine (HC1.out _ HS.out).mono ?_; rintro e w2 ⟨rfl, hS⟩
      have HS2 := Lib.hid hS; clear hS HS
      go_wp2_with fail
      go_loopg [6, 7, 8] 1 (fun gg uc ua ub wr => (gg = 1 ∧ uc = .int .i64 20 ∧ ua = .int .i64 20 ∧ ub = .int .i64 40 ∧ w2 = wr) ∨ (gg = 0 ∧ uc = .int .i64 40 ∧ Hid (SW enc w blk 0 (bigS (ltOf cf) d) wr)))
      case atStart => exact .inl ⟨rfl, rfl, rfl, rfl, rfl⟩
      case round =>
        rcases hrel with ⟨rfl, rfl, rfl, rfl, rfl⟩ | ⟨rfl, rfl, HS3⟩
        · by_cases c4 : 20 < d.size
          · have c4z : (20 : Int) < (d.size : Int) := by omega
            go_wp2_with fail
            go_loopg [7, 8] 0 (fun gg ua ub wr => ua = .int .i64 0 ∧ ub = .int .i64 40 ∧ w2 = wr)
            case atStart => exact ⟨rfl, rfl, rfl⟩
            case round =>
              obtain ⟨rfl, rfl, rfl⟩ := hrel
              go_wp2_with fail
              refine (HC2.out _ HS2.out c4).mono ?_; rintro e w3 ⟨rfl, hS⟩
              have HS3 : Hid (SW enc w blk 0 (bigS (ltOf cf) d) w3) := (show SW _ _ _ _ _ _ by rw [HB.out, if_neg (by omega)]; exact hS)
              clear hS
              go_wp2_with fail
              go_roundg 0
              case measure => omega
              case rel => exact .inr ⟨rfl, rfl, HS3⟩
          · have c4z : ¬ ((20 : Int) < (d.size : Int)) := by omega
            go_wp2_with fail
            go_end0
            exact ⟨rfl, by rw [HB.out, if_pos (by omega)]; exact HS2.out⟩
        · go_wp2_with fail
          go_end0
          exact ⟨rfl, HS3.out⟩
theorem bigS_size (lt : α → α → Bool) (d : Array α) : (bigS lt d).size = d.size := by
  unfold bigS; split
  · rw [insertionSort_size, insertionSort_size]
  · rw [symM_size, insertionSort_size, insertionSort_size]
end
set_option maxHeartbeats 4000000 in
theorem insc_nil (A : Option Addr) (n cap : Nat) (v : Value) (w : World) : Calls Try.prog 70 #[.slice A n cap, .int .i64 0, .int .i64 0, v] w fun e w' => e = .returned (.tuple #[]) ∧ w' = w := by
  go_enter Try.func70, Try.ntmps70
  go_wp2_with fail
  go_loopg [8] 0 (fun gg ua wr => ua = .int .i64 1 ∧ w = wr)
  case atStart => exact ⟨rfl, rfl⟩
  case round =>
    obtain ⟨rfl, rfl⟩ := hrel
    go_wp2_with fail
    go_end0
    exact ⟨rfl, rfl⟩
set_option maxHeartbeats 4000000 in
theorem stab_nil (A : Option Addr) (cap : Nat) (v : Value) (w : World) : Calls Try.prog 64 #[.slice A 0 cap, .int .i64 0, v] w fun e w' => e = .returned (.tuple #[]) ∧ w' = w := by
  have h := insc_nil A 0 cap v
  have HC := Lib.hid h; clear h
  go_enter Try.func64, Try.ntmps64
  go_wp2_with fail
  go_loopg [7, 8] 0 (fun gg ua ub wr => ua = .int .i64 0 ∧ ub = .int .i64 20 ∧ w = wr)
  case atStart => exact ⟨rfl, rfl, rfl⟩
  case round =>
    obtain ⟨rfl, rfl, rfl⟩ := hrel
    go_wp2_with fail
    refine (HC.out _).mono ?_; rintro e w1 ⟨rfl, rfl⟩
    go_wp2_with fail
    go_loopg [6] 0 (fun gg ua wr => ua = .int .i64 20 ∧ w1 = wr)
    case atStart => exact ⟨rfl, rfl⟩
    case round =>
      obtain ⟨rfl, rfl⟩ := hrel
      go_wp2_with fail
      go_end0
      exact ⟨rfl, rfl⟩
theorem nc_put {α : Type} [Inhabited α] (enc : α → Value) (w : World) (blk off : Nat) (d : Array α) : NC w (putRow enc w blk off d) := by
  unfold putRow mapBlock
  refine ⟨by simp, fun k o hk ho => ?_⟩
  show (w.heap.modify blk _)[k]? = some o
  rw [Array.getElem?_modify]
  split
  · rw [hk]
    cases o <;> first | rfl | (cases ho)
  · exact hk
theorem nc_sw {N : Nat} [Inhabited (Fin N)] (W : World) (blk m : Nat) (d2 : Array (Fin N)) (os : Array Obj) : NC W (sortWorld enF W blk 0 m d2 os) :=
  (nc_put enF W blk 0 d2).trans (NC.of_below (below_grow (putRow enF W blk 0 d2).heap.size (putRow enF W blk 0 d2) (Nat.le_refl _) m os))
def bigOf (c : Int → Int → Option Int) (l : List Int) (h : 0 < l.length) : List Int :=
  haveI : Inhabited (Fin l.length) := ⟨⟨0, h⟩⟩
  vF (bigS (ltOf (cfN c l.length)) (toF l h))
/-- the row, sorted: at most 39 numbers -/
def slStc (c : Int → Int → Option Int) (l : List Int) : Option (List Int) :=
  if l.length = 0 then some l else if l.length < 20 then slStb c l else
  if h : 0 < l.length ∧ l.length < 40 ∧ (∀ x ∈ l, 0 ≤ x ∧ x < (l.length : Int)) ∧ (∀ i, i < l.length → ∀ j, j < l.length → (c (i : Int) (j : Int)).isSome = true) then
    some (bigOf c l h.1)
  else none
set_option maxHeartbeats 4000000 in
theorem hp_stac {w W : World} {its : List It} {A : Option Addr} {cap n : Nat} {l l' : List Int} {c : Int → Int → Option Int} (g : Nat) (cb : Array Value)
    (eg : ∀ args w, (callFunc g args).run Try.prog w = .ok (.enter g args) w) (hd : Below w.heap.size w W) (h : HP W w.heap.size (.fl (owI (.slice A n cap) l) :: its))
    (hc : ∀ (W' : World) (a b r : Int), Below w.heap.size w W' → HP W' w.heap.size its → c a b = some r → Calls Try.prog g (#[.int .i64 a, .int .i64 b] ++ cb) W' fun e w' => e = .returned (.int .i64 r) ∧ Dr W' w')
    (hs : slStc c l = some l') :
    Calls Try.prog 46 #[.slice A n cap, .func (.func g) #[] cb] W fun e W' => e = .returned (.tuple #[]) ∧ HP W' w.heap.size (.fl (owI (.slice A n cap) l') :: its) ∧ Below w.heap.size w W' ∧ NC W W' := by
  unfold slStc at hs
  split at hs
  · rename_i h0
    obtain rfl := Option.some.inj hs
    have hn := HP.len_I h (List.Mem.head _)
    have hn0 : n = 0 := by omega
    subst hn0
    have HH := Lib.hid h; clear h hc hn
    have HD := Lib.hid hd; clear hd
    have hst := stab_nil A cap (.func (.func g) #[] cb) W
    have HST := Lib.hid hst; clear hst
    go_enter Try.func46, Try.ntmps46
    go_wp2_with fail
    refine HST.out.mono ?_; rintro e W' ⟨rfl, rfl⟩
    go_wp2_with fail
    go_end0
    exact ⟨rfl, HH.out, HD.out, NC.refl _⟩
  · split at hs
    · unfold slStb at hs
      split at hs
      · rename_i hh
        obtain ⟨h0, h20, hin, hdef⟩ := hh
        obtain rfl := Option.some.inj hs
        letI : Inhabited (Fin l.length) := ⟨⟨0, h0⟩⟩
        obtain ⟨blk, e, _, _, _, _⟩ := HP.setI (its1 := []) (x := 0) h (i := ((0 : Nat) : Int)) (by omega)
        subst e
        have hn := HP.len_I h (List.Mem.head _)
        subst hn
        have hv := vF_toF h0 hin
        have hsz : (toF l h0).size = l.length := by rw [← vF_len, hv]
        have hW := hd.size
        have h' : HP W w.heap.size (.fl (owI (.slice (some ⟨blk, 0, none⟩) l.length cap) (vF (toF l h0))) :: its) := by rw [hv]; exact h
        have hH := holds_of h'
        have hblk : blk < W.heap.size := by
          have := (hH 0 (by omega)).1
          exact World.block_lt_of_cell? _ _ this
        have R : Row1 enF W blk 0 (toF l h0) := ⟨fun x => rfl, hH, hblk⟩
        have hcmp : CmpLays1 Try.prog g cb enF (cfN c l.length) blk 0 (toF l h0).size W := fun m os dk hk x y => by
          obtain ⟨q1, q2⟩ := hp_sw hW h' dk hk m os
          have hx := hdef x.1 x.2 y.1 y.2
          obtain ⟨r, hr⟩ := Option.isSome_iff_exists.1 hx
          refine (hc _ _ _ r (hd.trans q2) (HP.sub q1 (List.sublist_cons_self _ _)) hr).mono ?_
          rintro e w' ⟨rfl, m', hm⟩
          refine ⟨?_, m', #[], by rw [grow_empty]; exact hm⟩
          show Ending.returned _ = Ending.returned _
          unfold cfN
          rw [hr]; rfl
        have hst := stab_small enF (cfN c l.length) g cb blk cap (toF l h0) W eg hcmp R (by omega)
        rw [hsz] at hst
        have HST := Lib.hid hst; clear hst
        have hfin : ∀ W', SW enF W blk 0 (Sort.insertionSort (ltOf (cfN c l.length)) (toF l h0) 0 l.length) W' → HP W' w.heap.size (.fl (owI (.slice (some ⟨blk, 0, none⟩) l.length cap) (stbOf c l h0)) :: its) ∧ Below w.heap.size w W' ∧ NC W W' := fun W' ⟨m, os, hw⟩ => by
          obtain ⟨q1, q2⟩ := hp_sw hW h' _ (insertionSort_size ..) m os
          rw [hw]
          have e : stbOf c l h0 = vF (Sort.insertionSort (ltOf (cfN c l.length)) (toF l h0) 0 l.length) := by
            unfold stbOf; rw [hsz]
          rw [e]
          exact ⟨q1, hd.trans q2, nc_sw W blk m _ os⟩
        have HF := Lib.hid hfin; clear hfin
        clear hcmp R hH h' h hc
        go_enter Try.func46, Try.ntmps46
        go_wp2_with fail
        refine HST.out.mono ?_; rintro e W' ⟨rfl, hS⟩
        have hq := HF.out W' hS
        have HQ := Lib.hid hq; clear hq hS
        go_wp2_with fail
        go_end0
        exact ⟨rfl, HQ.out⟩
      · cases hs
    · rename_i hn20
      split at hs
      · rename_i hh
        obtain ⟨h0, h40, hin, hdef⟩ := hh
        obtain rfl := Option.some.inj hs
        letI : Inhabited (Fin l.length) := ⟨⟨0, h0⟩⟩
        obtain ⟨blk, e, _, _, _, _⟩ := HP.setI (its1 := []) (x := 0) h (i := ((0 : Nat) : Int)) (by omega)
        subst e
        have hn := HP.len_I h (List.Mem.head _)
        subst hn
        have hv := vF_toF h0 hin
        have hsz : (toF l h0).size = l.length := by rw [← vF_len, hv]
        have hW := hd.size
        have h' : HP W w.heap.size (.fl (owI (.slice (some ⟨blk, 0, none⟩) l.length cap) (vF (toF l h0))) :: its) := by rw [hv]; exact h
        have hH := holds_of h'
        have hblk : blk < W.heap.size := by
          have := (hH 0 (by omega)).1
          exact World.block_lt_of_cell? _ _ this
        have R : Row1 enF W blk 0 (toF l h0) := ⟨fun x => rfl, hH, hblk⟩
        have hcmp : CmpLays1 Try.prog g cb enF (cfN c l.length) blk 0 (toF l h0).size W := fun m os dk hk x y => by
          obtain ⟨q1, q2⟩ := hp_sw hW h' dk hk m os
          have hx := hdef x.1 x.2 y.1 y.2
          obtain ⟨r, hr⟩ := Option.isSome_iff_exists.1 hx
          refine (hc _ _ _ r (hd.trans q2) (HP.sub q1 (List.sublist_cons_self _ _)) hr).mono ?_
          rintro e w' ⟨rfl, m', hm⟩
          refine ⟨?_, m', #[], by rw [grow_empty]; exact hm⟩
          show Ending.returned _ = Ending.returned _
          unfold cfN
          rw [hr]; rfl
        have hst := stab_big enF (cfN c l.length) g cb blk cap (toF l h0) W eg hcmp R (by omega) (by omega)
        rw [hsz] at hst
        have HST := Lib.hid hst; clear hst
        have hfin : ∀ W', SW enF W blk 0 (bigS (ltOf (cfN c l.length)) (toF l h0)) W' → HP W' w.heap.size (.fl (owI (.slice (some ⟨blk, 0, none⟩) l.length cap) (bigOf c l h0)) :: its) ∧ Below w.heap.size w W' ∧ NC W W' := fun W' ⟨m, os, hw⟩ => by
          obtain ⟨q1, q2⟩ := hp_sw hW h' _ (bigS_size (ltOf (cfN c l.length)) (toF l h0)) m os
          rw [hw]
          exact ⟨q1, hd.trans q2, nc_sw W blk m _ os⟩
        have HF := Lib.hid hfin; clear hfin
        clear hcmp R hH h' h hc
        go_enter Try.func46, Try.ntmps46
        go_wp2_with fail
        refine HST.out.mono ?_; rintro e W' ⟨rfl, hS⟩
        have hq := HF.out W' hS
        have HQ := Lib.hid hq; clear hq hS
        go_wp2_with fail
        go_end0
        exact ⟨rfl, HQ.out⟩
      · cases hs
end Go.Proofs.Ytfabhdadckohdaa
