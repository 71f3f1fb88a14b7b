import Derived.Test.YtpbkepajgdmbpaaDoorPn
import Derived.Test.YtpbkepajgdmbpaaDoorF5
/- plain: what the document's Grown computes -/
set_option linter.all false
set_option maxRecDepth 100000
namespace Go.Proofs.YtpbkepajgdmbpaaDoor
open Go.RowKit Pl
theorem has_nat {l : List Nat} (hl : l.length < 300) (v : Nat) : R1_Has 300 (rowI l) (v : Int) = some (decide (v ∈ l)) := by
  rw [R1_Has_ev _ (by rw [List.length_map]; exact hl) (by rw [List.length_map]; omega)]
  congr 1
  apply decide_eq_decide.2
  rw [List.mem_map]
  constructor
  · rintro ⟨x, hx, e⟩
    have : x = v := Int.ofNat.inj e
    subst this; exact hx
  · intro h; exact ⟨v, h, rfl⟩
theorem cn_mem {v : Nat} {js : List Nat} : v ∈ js ↔ cn v js ≠ 0 := by
  unfold cn
  constructor
  · intro h e
    rw [List.length_eq_zero_iff, List.filter_eq_nil_iff] at e
    exact e v h (by simp)
  · intro h
    obtain ⟨x, hx⟩ := List.exists_mem_of_length_pos (Nat.pos_of_ne_zero h)
    obtain ⟨h1, h2⟩ := List.mem_filter.1 hx
    have : x = v := by simpa using h2
    subst this; exact h1
theorem dr_row {row : List Nat} {j : Nat} (hj : j ≤ row.length) : dr (rowI row) (j : Int) = some (rowI (row.drop j)) := by
  unfold dr
  rw [List.length_map, if_pos (by omega), Int.toNat_natCast]
  unfold rowI; rw [List.map_drop]
theorem gr_L2 {row gone : List Nat} {j z : Nat} (hj : j ≤ row.length) (h1 : row.length < 100) (h2 : gone.length < 100) (hz1 : z ∉ gone) (hz2 : z ∉ row.drop j) (hz : z < 1000) : ∀ (g v : Nat), v ≤ z → z < v + g →
    ∃ i : Nat, R3_Grown_L2 300 (rowI row) (rowI gone) (j : Int) g (v : Int) = some (i : Int) ∧ i ≤ z ∧ i ∉ gone ∧ i ∉ row.drop j ∧ ∀ x, v ≤ x → x < i → x ∈ gone ∨ x ∈ row.drop j
  | 0, v, h, hg => by omega
  | g+1, v, h, hg => by
    rw [R3_Grown_L2_s, has_nat (by omega), Option.bind_some, dr_row hj, Option.bind_some, has_nat (by rw [List.length_drop]; omega), Option.bind_some, w64n (by omega)]
    by_cases c : v ∈ gone ∨ v ∈ row.drop j
    · have hne : v ≠ z := fun e => by subst e; exact c.elim hz1 hz2
      obtain ⟨i, r1, r2, r3, r4, r5⟩ := gr_L2 hj h1 h2 hz1 hz2 hz g (v+1) (by omega) (by omega)
      refine ⟨i, ?_, r2, r3, r4, fun x hx hxi => ?_⟩
      · rw [← r1]
        by_cases c1 : v ∈ gone
        · rw [decide_eq_true c1]; rfl
        · rw [decide_eq_false c1, decide_eq_true (c.resolve_left c1)]; rfl
      · by_cases e : x = v
        · subst e; exact c
        · exact r5 x (by omega) hxi
    · have c1 : v ∉ gone := fun q => c (.inl q)
      have c2 : v ∉ row.drop j := fun q => c (.inr q)
      rw [decide_eq_false c1, decide_eq_false c2]
      exact ⟨v, rfl, h, c1, c2, fun x hx hxi => by omega⟩
theorem gr_L1 {row : List Nat} {n : Nat} (hn : n = row.length + 2) (hl : row.length ≤ 6) (hr : ∀ x ∈ row, x < n) : ∀ (g j : Nat) (R : Nat → Bool) (gone : List Nat) (ls : List (Int × Int)), row.length < j + g → j ≤ row.length → card R + j = row.length + 2 → (∀ v, R v = true ↔ v < n ∧ v ∉ gone) → gone.length ≤ j → ls.length ≤ j →
    ∃ ps x, R3_Grown_L1 300 (rowI row) g (rowI gone) ls (j : Int) = some (rowI (gone ++ ps.map (·.1)), ls ++ ps.map (fun p => ((p.1 : Int), (p.2 : Int))), x) ∧ ps.map (·.2) = row.drop j ∧ Cd ps R ∧ (∀ v, rems ps R v = true ↔ v < n ∧ v ∉ gone ++ ps.map (·.1))
  | 0, j, R, gone, ls, h, hj, _, _, _, _ => by omega
  | g+1, j, R, gone, ls, h, hj, hc, hR, hg, hls => by
    rw [R3_Grown_L1_s, List.length_map]
    have h16 : ∀ v, R v = true → v < 16 := fun v hv => by have := ((hR v).1 hv).1; omega
    by_cases hlt : j < row.length
    · obtain ⟨z, z1, z2⟩ := zero_ex (row.drop j) R h16 (by rw [List.length_drop]; omega)
      obtain ⟨z3, z4⟩ := (hR z).1 z1
      obtain ⟨i, r1, r2, r3, r4, r5⟩ := gr_L2 (gone := gone) hj (by omega) (by omega) z4 (fun q => cn_mem.1 q z2) (by omega) 300 0 (by omega) (by omega)
      have hi : R i = true := (hR i).2 ⟨by omega, r3⟩
      have hcr := card_rem hi (h16 i hi)
      have ed := drop_cons hlt
      obtain ⟨ps, x, p1, p2, p3, p4⟩ := gr_L1 hn hl hr g (j+1) (rem R i) (gone ++ [i]) (ls ++ [((i : Int), ((row.getD j 0 : Nat) : Int))]) (by omega) (by omega) (by omega) (fun v => by
        rw [rem_true, hR]; simp only [List.mem_append, List.mem_singleton, not_or]; exact ⟨fun h => ⟨h.1.1, h.1.2, h.2⟩, fun h => ⟨⟨h.1, h.2.1⟩, h.2.2⟩⟩) (by simp; omega) (by simp; omega)
      refine ⟨(i, row.getD j 0) :: ps, x, ?_, by rw [List.map_cons, p2, ed], ⟨hi, ?_, fun v hv hvR => ?_, p3⟩, fun v => ?_⟩
      · rw [if_pos (by omega), show R3_Grown_L2 300 (rowI row) (rowI gone) (j : Int) 300 0 = some (i : Int) from r1, Option.bind_some]
        unfold app
        rw [if_pos (by rw [List.length_map]; omega), Option.bind_some, ix_row hlt, Option.bind_some, if_pos (by omega), Option.bind_some, w64n (by omega), show rowI gone ++ [(i : Int)] = rowI (gone ++ [i]) by unfold rowI; rw [List.map_append]; rfl, p1]
        simp
      · rw [occ_cn, List.map_cons, p2, ← ed]
        exact Classical.byContradiction fun q => r4 (cn_mem.2 q)
      · rw [occ_cn, List.map_cons, p2, ← ed]
        exact cn_mem.1 ((r5 v (Nat.zero_le _) hv).resolve_left ((hR v).1 hvR).2)
      · rw [show rems ((i, row.getD j 0) :: ps) R = rems ps (rem R i) from rfl, p4]
        simp
    · rw [if_neg (by omega)]
      have : j = row.length := by omega
      subst this
      exact ⟨[], ((row.length : Nat) : Int), by simp, by rw [List.drop_length]; rfl, trivial, fun v => by rw [show rems [] R = R from rfl, hR]; simp⟩
theorem gr_L3 {gone : List Nat} {z : Nat} (h2 : gone.length < 100) (hz1 : z ∉ gone) (hz : z < 1000) : ∀ (g v : Nat), v ≤ z → z < v + g →
    ∃ i : Nat, R3_Grown_L3 300 (rowI gone) g (v : Int) = some (i : Int) ∧ v ≤ i ∧ i ≤ z ∧ i ∉ gone
  | 0, v, h, hg => by omega
  | g+1, v, h, hg => by
    rw [R3_Grown_L3_s, has_nat (by omega), Option.bind_some, w64n (by omega)]
    by_cases c : v ∈ gone
    · have hne : v ≠ z := fun e => by subst e; exact hz1 c
      obtain ⟨i, r1, r2, r3, r4⟩ := gr_L3 h2 hz1 hz g (v+1) (by omega) (by omega)
      exact ⟨i, by rw [decide_eq_true c, ← r1]; rfl, by omega, r3, r4⟩
    · rw [decide_eq_false c]
      exact ⟨v, rfl, Nat.le_refl _, h, c⟩
theorem gr_L4 {gone : List Nat} {z : Nat} (h2 : gone.length < 100) (hz1 : z ∉ gone) (hz : z < 1000) : ∀ (g v : Nat), v ≤ z → z < v + g →
    ∃ i : Nat, R3_Grown_L4 300 (rowI gone) g (v : Int) = some (i : Int) ∧ v ≤ i ∧ i ≤ z ∧ i ∉ gone
  | 0, v, h, hg => by omega
  | g+1, v, h, hg => by
    rw [R3_Grown_L4_s, has_nat (by omega), Option.bind_some, w64n (by omega)]
    by_cases c : v ∈ gone
    · have hne : v ≠ z := fun e => by subst e; exact hz1 c
      obtain ⟨i, r1, r2, r3, r4⟩ := gr_L4 h2 hz1 hz g (v+1) (by omega) (by omega)
      exact ⟨i, by rw [decide_eq_true c, ← r1]; rfl, by omega, r3, r4⟩
    · rw [decide_eq_false c]
      exact ⟨v, rfl, Nat.le_refl _, h, c⟩
def crowTo (n : Nat) (e : Nat → Nat → Bool) (i j : Nat) : List (Int × Int) := ((List.range j).filter (fun (x : Nat) => decide (i < x) && e i x)).map (fun (x : Nat) => ((i : Int), (x : Int)))
theorem crowTo_len (n : Nat) (e : Nat → Nat → Bool) (i j : Nat) : (crowTo n e i j).length ≤ j := by
  unfold crowTo
  rw [List.length_map]
  have := List.length_filter_le (fun (x : Nat) => decide (i < x) && e i x) (List.range j)
  rw [List.length_range] at this; exact this
theorem crowTo_succ (n : Nat) (e : Nat → Nat → Bool) (i j : Nat) : crowTo n e i (j+1) = crowTo n e i j ++ if (decide (i < j) && e i j) = true then [((i : Int), (j : Int))] else [] := by
  unfold crowTo
  rw [List.range_succ, List.filter_append, List.map_append]
  congr 1
  by_cases h : (decide (i < j) && e i j) = true
  · rw [if_pos h, List.filter_cons, if_pos h]; rfl
  · rw [if_neg h, List.filter_cons, if_neg h]; rfl
theorem crowTo_low (n : Nat) (e : Nat → Nat → Bool) (i j : Nat) (h : j ≤ i + 1) : crowTo n e i j = [] := by
  unfold crowTo
  rw [List.map_eq_nil_iff, List.filter_eq_nil_iff]
  intro x hx
  have := List.mem_range.1 hx
  rw [decide_eq_false (by omega)]; simp
theorem gr_L6 {n i : Nat} {l : List (Int × Int)} {e : Nat → Nat → Bool} (hn : n ≤ 8) (hl : l.length < 300) (he : ∀ x y : Nat, besL l (x : Int) (y : Int) = e x y) {o0 : List (Int × Int)} (ho0 : o0.length < 900) : ∀ (g j : Nat) (o : List (Int × Int)), n < j + g → i < j → j ≤ n → o = o0 ++ crowTo n e i j →
    ∃ x, R3_Grown_L6 300 (n : Int) l (i : Int) g o (j : Int) = some (o0 ++ crow n e i, x)
  | 0, j, o, h, hi, hj, ho => by omega
  | g+1, j, o, h, hi, hj, ho => by
    rw [R3_Grown_L6_s]
    by_cases hlt : j < n
    · rw [if_pos (by omega), R1_Beside_ev _ _ hl (by omega), Option.bind_some, he, w64n (by omega)]
      have hs := crowTo_succ n e i j
      rw [decide_eq_true hi, Bool.true_and] at hs
      have hle := crowTo_len n e i j
      by_cases c : e i j = true
      · rw [if_pos c] at hs ⊢
        unfold app
        rw [if_pos (by rw [ho, List.length_append]; omega), Option.bind_some]
        exact gr_L6 hn hl he ho0 g (j+1) _ (by omega) (by omega) (by omega) (by rw [ho, hs, List.append_assoc])
      · rw [if_neg c] at hs ⊢
        exact gr_L6 hn hl he ho0 g (j+1) _ (by omega) (by omega) (by omega) (by rw [ho, hs, List.append_nil])
    · rw [if_neg (by omega)]
      have : j = n := by omega
      subst this
      exact ⟨_, by rw [ho]; rfl⟩
theorem gr_L5 {n : Nat} {l : List (Int × Int)} {e : Nat → Nat → Bool} (hn : n ≤ 8) (hl : l.length < 300) (he : ∀ x y : Nat, besL l (x : Int) (y : Int) = e x y) : ∀ (g i : Nat) (o : List (Int × Int)), n < i + g → i ≤ n → o.length ≤ 8 * i → ∃ x, R3_Grown_L5 300 (n : Int) l g o (i : Int) = some (o ++ canon n e i (n - i), x)
  | 0, i, o, h, hi, ho => by omega
  | g+1, i, o, h, hi, ho => by
    rw [R3_Grown_L5_s]
    by_cases hlt : i < n
    · obtain ⟨x, hx⟩ := gr_L6 (i := i) hn hl he (o0 := o) (by omega) 300 (i+1) o (by omega) (by omega) (by omega) (by rw [crowTo_low _ _ _ _ (Nat.le_refl _), List.append_nil])
      have hcl : (crow n e i).length ≤ n := crowTo_len n e i n
      obtain ⟨y, hy⟩ := gr_L5 hn hl he g (i+1) (o ++ crow n e i) (by omega) (by omega) (by rw [List.length_append]; omega)
      rw [if_pos (by omega), w64n (by omega), hx, Option.bind_some]
      dsimp only
      rw [hy]
      refine ⟨y, ?_⟩
      rw [show n - i = (n - (i + 1)) + 1 by omega, List.append_assoc]
      rfl
    · rw [if_neg (by omega)]
      have : i = n := by omega
      subst this
      exact ⟨_, by rw [Nat.sub_self]; show some (o, _) = some (o ++ [], _); rw [List.append_nil]⟩
/-- the document's tree of a row is the program's -/
theorem grown_ev {row : List Nat} (hl : row.length ≤ 6) (hr : ∀ x ∈ row, x < row.length + 2) : ∃ ls, prufer_Read 300 (rowI row) = some (ls, 0) ∧ R3_Grown 300 (rowI row) = some ls ∧ ls.length < 300 := by
  obtain ⟨n, hn⟩ : ∃ n, n = row.length + 2 := ⟨_, rfl⟩
  rw [← hn] at hr
  obtain ⟨ps, ls, a, b, p1, p2, p3, p4, p5, p6, p7, p8, p9, p10, p11, p12⟩ := read_good hn hl hr
  obtain ⟨qs, x, q1, q2, q3, q4⟩ := gr_L1 hn hl hr 300 0 (all n) [] [] (by omega) (by omega) (by rw [all_card (by omega)]; omega) (fun v => by unfold all; simp) (by simp) (by simp)
  rw [List.drop_zero] at q2
  have := cd_uniq (p2.trans q2.symm) p3 q3
  subst this
  rw [List.nil_append] at q4
  have hpl : ps.length = row.length := by rw [← p2, List.length_map]
  obtain ⟨gone, hgone⟩ : ∃ gone, gone = ps.map (·.1) := ⟨_, rfl⟩
  rw [← hgone] at q4
  have hgl : gone.length < 100 := by rw [hgone, List.length_map]; omega
  have ha := (q4 a).1 ((p7 a).2 (.inl rfl))
  have hb := (q4 b).1 ((p7 b).2 (.inr rfl))
  obtain ⟨i, i1, i2, i3, i4⟩ := gr_L3 hgl ha.2 (by omega) 300 0 (by omega) (by omega)
  have hi : i = a := by
    rcases (p7 i).1 ((q4 i).2 ⟨by omega, i4⟩) with e | e <;> omega
  subst hi
  obtain ⟨j, j1, j2, j3, j4⟩ := gr_L4 hgl hb.2 (by omega) 300 (i+1) (by omega) (by omega)
  have hj : j = b := by
    rcases (p7 j).1 ((q4 j).2 ⟨by omega, j4⟩) with e | e <;> omega
  subst hj
  obtain ⟨L, hL⟩ : ∃ L, L = ps.map (fun p => ((p.1 : Int), (p.2 : Int))) ++ [((i : Int), (j : Int))] := ⟨_, rfl⟩
  have hLl : L.length < 300 := by rw [hL]; simp; omega
  have hE : ∀ x y : Nat, besL L (x : Int) (y : Int) = true ↔ Ed ps i j x y := fun x y => by
    unfold besL goes Ed
    rw [Bool.or_eq_true, List.any_eq_true, List.any_eq_true, hL]
    constructor
    · rintro (⟨p, hp, hh⟩ | ⟨p, hp, hh⟩)
      · rcases List.mem_append.1 hp with hp | hp
        · obtain ⟨q, hq, rfl⟩ := List.mem_map.1 hp
          simp at hh
          exact .inl ⟨q, hq, .inl (by omega)⟩
        · rw [List.mem_singleton] at hp; subst hp
          simp at hh
          exact .inr (.inl (by omega))
      · rcases List.mem_append.1 hp with hp | hp
        · obtain ⟨q, hq, rfl⟩ := List.mem_map.1 hp
          simp at hh
          exact .inl ⟨q, hq, .inr (by omega)⟩
        · rw [List.mem_singleton] at hp; subst hp
          simp at hh
          exact .inr (.inr (by omega))
    · rintro (⟨q, hq, hh | hh⟩ | hh | hh)
      · exact .inl ⟨_, List.mem_append_left _ (List.mem_map_of_mem hq), by simp; omega⟩
      · exact .inr ⟨_, List.mem_append_left _ (List.mem_map_of_mem hq), by simp; omega⟩
      · exact .inl ⟨_, List.mem_append_right _ List.mem_cons_self, by simp; omega⟩
      · exact .inr ⟨_, List.mem_append_right _ List.mem_cons_self, by simp; omega⟩
  obtain ⟨y, hy⟩ := gr_L5 (n := n) (l := L) (e := fun x y => besL L (x : Int) (y : Int)) (by omega) hLl (fun _ _ => rfl) 300 0 [] (by omega) (by omega) (by simp)
  refine ⟨ls, p1, ?_, by omega⟩
  unfold R3_Grown
  rw [show R3_Grown_L1 300 (rowI row) 300 [] [] 0 = some (rowI gone, ps.map (fun p => ((p.1 : Int), (p.2 : Int))), x) by rw [hgone]; exact q1, Option.bind_some]
  dsimp only
  rw [show R3_Grown_L3 300 (rowI gone) 300 0 = some (i : Int) from i1, Option.bind_some, w64n (by omega), j1, Option.bind_some]
  unfold app
  rw [if_pos (by rw [List.length_map]; omega), Option.bind_some, ← hL, List.length_map, w64 (by omega) (by omega), show (row.length : Int) + 2 = (n : Int) by omega, show R3_Grown_L5 300 (n : Int) L 300 [] 0 = _ from hy, Option.bind_some, p12 _ hE]
  rfl
end Go.Proofs.YtpbkepajgdmbpaaDoor
