import Derived.Test.YtpbkepajgdmbpaaDoorWv
import Derived.Test.YtpbkepajgdmbpaaDoorF2
/- plain: what prufer.Read computes -/
set_option linter.all false
set_option maxRecDepth 100000
namespace Go.Proofs.YtpbkepajgdmbpaaDoor
open Go.RowKit Pl
def cn (v : Nat) (js : List Nat) : Nat := (js.filter (fun x => x == v)).length
theorem cn_cons (v u : Nat) (js : List Nat) : cn v (u :: js) = cn v js + (if u = v then 1 else 0) := by
  unfold cn
  rw [List.filter_cons]
  by_cases e : u = v
  · rw [if_pos (by simpa using e), if_pos e]; rfl
  · rw [if_neg (by simpa using e), if_neg e]; rfl
theorem cn_snoc (v u : Nat) (js : List Nat) : cn v (js ++ [u]) = cn v js + (if u = v then 1 else 0) := by
  unfold cn
  rw [List.filter_append, List.length_append]
  by_cases e : u = v
  · rw [if_pos e, List.filter_cons, if_pos (by simpa using e)]; rfl
  · rw [if_neg e, List.filter_cons, if_neg (by simpa using e)]; rfl
theorem cn_le (v : Nat) (js : List Nat) : cn v js ≤ js.length := List.length_filter_le _ _
theorem occ_cn (v : Nat) : ∀ ps : List (Nat × Nat), occ v ps = cn v (ps.map (·.2))
  | [] => rfl
  | (i, u) :: ps => by rw [occ_cons, List.map_cons, cn_cons, occ_cn v ps]
theorem rem_none {R : Nat → Bool} {u : Nat} (h : R u = false) : rem R u = R := by
  funext v
  unfold rem
  by_cases e : v = u
  · subst e; simp [h]
  · have : (v == u) = false := by simpa using e
    simp [this]
theorem zero_ex : ∀ (js : List Nat) (R : Nat → Bool), (∀ v, R v = true → v < 16) → js.length < card R → ∃ v, R v = true ∧ cn v js = 0
  | [], R, hR, h => by
    obtain ⟨v, _, h2⟩ := card_pos (show 0 < card R from h)
    exact ⟨v, h2, rfl⟩
  | u :: js, R, hR, h => by
    rw [List.length_cons] at h
    have hc : card R ≤ card (rem R u) + 1 := by
      cases hu : R u
      · rw [rem_none hu]; omega
      · rw [card_rem hu (hR u hu)]; omega
    obtain ⟨v, h1, h2⟩ := zero_ex js (rem R u) (fun v hv => hR v (rem_of hv)) (by omega)
    obtain ⟨h3, h4⟩ := rem_true.1 h1
    exact ⟨v, h3, by rw [cn_cons, h2, if_neg (Ne.symm h4)]⟩
def rems : List (Nat × Nat) → (Nat → Bool) → (Nat → Bool)
  | [], R => R
  | (i, _) :: ps, R => rems ps (rem R i)
theorem pl_rems {adj : Nat → Nat → Bool} : ∀ {ps : List (Nat × Nat)} {R R' : Nat → Bool}, Pl0 adj ps R R' → R' = rems ps R
  | [], _, _, h => h
  | (i, u) :: ps, R, R', h => pl_rems (ps := ps) h.2.2.2.2
theorem rems_of : ∀ {ps : List (Nat × Nat)} {R : Nat → Bool} {v : Nat}, rems ps R v = true → R v = true
  | [], _, _, h => h
  | (i, u) :: ps, R, v, h => rem_of (rems_of (ps := ps) h)
theorem rems_card : ∀ {ps : List (Nat × Nat)} {R : Nat → Bool}, Cd ps R → (∀ v, R v = true → v < 16) → card R = card (rems ps R) + ps.length
  | [], R, _, _ => rfl
  | (i, u) :: ps, R, h, hR => by
    have h1 := card_rem h.1 (hR i h.1)
    have h2 := rems_card h.2.2.2 (fun v hv => hR v (rem_of hv))
    show card R = card (rems ps (rem R i)) + (ps.length + 1)
    omega
/-- how many lines -/
def tot (b : List Nat) : Nat := (b.map (fun m => (memb m).length)).sum
theorem tot_set : ∀ (b : List Nat) (i x : Nat), i < b.length → tot (b.set i x) + (memb (b.getD i 0)).length = tot b + (memb x).length
  | [], i, x, h => absurd h (Nat.not_lt_zero _)
  | m :: b, 0, x, h => by
    show ((memb x).length + tot b) + (memb m).length = ((memb m).length + tot b) + (memb x).length
    omega
  | m :: b, i+1, x, h => by
    have := tot_set b i x (Nat.lt_of_succ_lt_succ h)
    show ((memb m).length + tot (b.set i x)) + (memb (b.getD i 0)).length = ((memb m).length + tot b) + (memb x).length
    omega
theorem memb_with {m j : Nat} (hj : j < 16) (h : m.testBit j = false) : (memb (m ||| 2 ^ j)).length = (memb m).length + 1 := by
  unfold memb
  rw [cnt3 (fun i => (m ||| 2 ^ j).testBit i) (fun i => m.testBit i) (fun i => i == j) (List.range 16) (fun x _ => by
    rw [or_pow_bit]
    by_cases e : x = j
    · subst e; simp [h]
    · have : (x == j) = false := by simpa using e
      simp [this, e]), once_len j _ List.nodup_range (List.mem_range.2 hj)]
theorem tot_zero (n : Nat) : tot (List.replicate n 0) = 0 := by
  unfold tot
  induction n with
  | zero => rfl
  | succ n ih => rw [List.replicate_succ, List.map_cons, List.sum_cons, ih]; decide
/-- the lines, put down -/
def linesOf : Nat → List Nat → List (Int × Int)
  | _, [] => []
  | j, m :: ms => (memb m).map (fun (x : Nat) => ((j : Int), (x : Int))) ++ linesOf (j+1) ms
theorem linesOf_len : ∀ (j : Nat) (ms : List Nat), (linesOf j ms).length = tot ms
  | _, [] => rfl
  | j, m :: ms => by
    show ((memb m).map (fun (x : Nat) => ((j : Int), (x : Int))) ++ linesOf (j+1) ms).length = (memb m).length + tot ms
    rw [List.length_append, List.length_map, linesOf_len]
theorem linesOf_mem (p : Int × Int) : ∀ (ms : List Nat) (j : Nat), p ∈ linesOf j ms ↔ ∃ i x, i < ms.length ∧ x ∈ memb (ms.getD i 0) ∧ p = (((j + i : Nat) : Int), (x : Int))
  | [], j => by
    constructor
    · intro h; cases h
    · rintro ⟨i, x, h, _⟩; exact absurd h (Nat.not_lt_zero _)
  | m :: ms, j => by
    show p ∈ (memb m).map (fun (x : Nat) => ((j : Int), (x : Int))) ++ linesOf (j+1) ms ↔ _
    rw [List.mem_append, List.mem_map, linesOf_mem p ms (j+1)]
    constructor
    · rintro (⟨x, hx, rfl⟩ | ⟨i, x, h1, h2, h3⟩)
      · exact ⟨0, x, Nat.succ_pos _, hx, rfl⟩
      · exact ⟨i+1, x, Nat.succ_lt_succ h1, h2, by rw [h3, show j + 1 + i = j + (i + 1) by omega]⟩
    · rintro ⟨i, x, h1, h2, h3⟩
      cases i with
      | zero => exact .inl ⟨x, h2, h3.symm⟩
      | succ i => exact .inr ⟨i, x, Nat.lt_of_succ_lt_succ h1, h2, by rw [h3, show j + 1 + i = j + (i + 1) by omega]⟩
/-- the lines in order -/
def crow (n : Nat) (e : Nat → Nat → Bool) (i : Nat) : List (Int × Int) := ((List.range n).filter (fun (j : Nat) => decide (i < j) && e i j)).map (fun (j : Nat) => ((i : Int), (j : Int)))
def canon (n : Nat) (e : Nat → Nat → Bool) : Nat → Nat → List (Int × Int)
  | _, 0 => []
  | i, c+1 => crow n e i ++ canon n e (i+1) c
theorem linesOf_canon {n : Nat} {e : Nat → Nat → Bool} (hn : n ≤ 16) : ∀ (ms : List Nat) (j : Nat), (∀ i, ms.getD i 0 < 2 ^ n) → (∀ i x, i < ms.length → (ms.getD i 0).testBit x = (decide (j + i < x) && e (j + i) x)) → linesOf j ms = canon n e j ms.length
  | [], j, _, _ => rfl
  | m :: ms, j, h1, h2 => by
    have ih := linesOf_canon hn ms (j+1) (fun i => h1 (i+1)) (fun i x hi => by
      rw [show j + 1 + i = j + (i + 1) by omega]; exact h2 (i+1) x (Nat.succ_lt_succ hi))
    show (memb m).map (fun (x : Nat) => ((j : Int), (x : Int))) ++ linesOf (j+1) ms = crow n e j ++ canon n e (j+1) ms.length
    rw [ih]
    congr 1
    unfold crow
    congr 1
    have hm : m < 2 ^ n := h1 0
    have h16 : (2 : Nat) ^ n ≤ 2 ^ 16 := Nat.pow_le_pow_right (by omega) hn
    rw [← membTo_full (by omega) (Nat.div_eq_of_lt hm) hn]
    unfold membTo
    apply List.filter_congr
    intro x _
    exact h2 0 x (Nat.succ_pos _)
theorem canon_fst {n : Nat} {e : Nat → Nat → Bool} : ∀ (c i : Nat) (p : Int × Int), p ∈ canon n e i c → (i : Int) ≤ p.1
  | 0, i, p, h => by cases h
  | c+1, i, p, h => by
    rcases List.mem_append.1 h with h | h
    · obtain ⟨x, _, rfl⟩ := List.mem_map.1 h
      exact Int.le_refl _
    · have := canon_fst c (i+1) p h; omega
theorem canon_nodup {n : Nat} {e : Nat → Nat → Bool} : ∀ (c i : Nat), (canon n e i c).Nodup
  | 0, i => List.nodup_nil
  | c+1, i => by
    refine List.nodup_append.2 ⟨?_, canon_nodup c (i+1), fun p hp q hq e => ?_⟩
    · refine List.pairwise_map.2 (List.Pairwise.imp ?_ (List.Pairwise.filter _ List.nodup_range))
      intro x y hxy e
      injection e with _ e
      exact hxy (Int.ofNat.inj e)
    · subst e
      obtain ⟨x, _, rfl⟩ := List.mem_map.1 hp
      have := canon_fst c (i+1) _ hq
      dsimp only at this; omega
theorem rd_L5 (j : Int) : ∀ (xs : List Nat) (o : List (Int × Int)), o.length + xs.length < 1000 → prufer_Read_L5 300 j xs o = some (o ++ xs.map (fun (x : Nat) => (j, (x : Int))))
  | [], o, h => by rw [prufer_Read_L5_n]; simp
  | x :: xs, o, h => by
    rw [List.length_cons] at h
    rw [prufer_Read_L5_c]
    unfold app
    rw [if_pos (by omega), Option.bind_some, rd_L5 j xs _ (by simp; omega)]
    simp
theorem rd_L4 {b : List Nat} (hb : ∀ i, b.getD i 0 < 65536) (hl : b.length ≤ 8) : ∀ (g j : Nat) (o : List (Int × Int)), b.length < j + g → j ≤ b.length → o.length + tot (b.drop j) < 1000 → prufer_Read_L4 300 b g (j : Int) o = some (o ++ linesOf j (b.drop j))
  | 0, j, o, h, hj, _ => by omega
  | g+1, j, o, h, hj, ho => by
    rw [prufer_Read_L4_s]
    by_cases hlt : j < b.length
    · have ed : b.drop j = b.getD j 0 :: b.drop (j+1) := by
        rw [List.drop_eq_getElem_cons hlt, List.getD_eq_getElem?_getD, List.getElem?_eq_getElem hlt]; rfl
      have et : tot (b.drop j) = (memb (b.getD j 0)).length + tot (b.drop (j+1)) := by rw [ed]; rfl
      rw [if_pos (by omega), ix_D hlt, Option.bind_some]
      unfold sEach
      rw [if_pos (hb j), Option.bind_some, rd_L5 _ _ _ (by omega), Option.bind_some, w64n (by omega), rd_L4 hb hl g (j+1) _ (by omega) (by omega) (by rw [List.length_append, List.length_map]; omega), ed]
      show some ((o ++ _) ++ _) = some (o ++ (_ ++ _))
      rw [List.append_assoc]
    · rw [if_neg (by omega)]
      have : j = b.length := by omega
      subst this
      rw [List.drop_length]
      simp [linesOf]
theorem drop_map (row : List Nat) (j : Nat) (h : j < row.length) : (row.map (fun (x : Nat) => (x : Int)))[j]? = some ((row.getD j 0 : Nat) : Int) := by
  rw [List.getElem?_map, List.getElem?_eq_getElem h, List.getD_eq_getElem?_getD, List.getElem?_eq_getElem h]; rfl
abbrev rowI (row : List Nat) : List Int := row.map (fun (x : Nat) => (x : Int))
theorem ix_row {row : List Nat} {j : Nat} (h : j < row.length) : ix (rowI row) (j : Int) = some ((row.getD j 0 : Nat) : Int) := by
  unfold ix; rw [if_pos (Int.natCast_nonneg _), Int.toNat_natCast]; exact drop_map row j h
theorem take_snoc {row : List Nat} {j : Nat} (h : j < row.length) : row.take (j+1) = row.take j ++ [row.getD j 0] := by
  rw [List.take_add_one, List.getElem?_eq_getElem h, List.getD_eq_getElem?_getD, List.getElem?_eq_getElem h]; rfl
theorem drop_cons {row : List Nat} {j : Nat} (h : j < row.length) : row.drop j = row.getD j 0 :: row.drop (j+1) := by
  rw [List.drop_eq_getElem_cons h, List.getD_eq_getElem?_getD, List.getElem?_eq_getElem h]; rfl
theorem rd_L1 {n : Nat} {row : List Nat} (hr : ∀ x ∈ row, x < n) (hl : row.length < 100) : ∀ (g j : Nat) (m : List Int), row.length < j + g → j ≤ row.length → m.length = n → (∀ v, v < n → m.getD v 0 = (cn v (row.take j) : Int)) →
    ∃ m', prufer_Read_L1 300 (rowI row) g (j : Int) m = some m' ∧ m'.length = n ∧ ∀ v, v < n → m'.getD v 0 = (cn v row : Int)
  | 0, j, m, h, hj, _, _ => by omega
  | g+1, j, m, h, hj, hm, hI => by
    rw [prufer_Read_L1_s, List.length_map]
    by_cases hlt : j < row.length
    · have hu : row.getD j 0 < n := hr _ (by rw [List.getD_eq_getElem?_getD, List.getElem?_eq_getElem hlt]; exact List.getElem_mem hlt)
      have hc := cn_le (row.getD j 0) (row.take j)
      rw [List.length_take] at hc
      rw [if_pos (by omega), ix_row hlt, Option.bind_some, ix_at 0 (by omega), Option.bind_some, hI _ hu, w64 (by omega) (by omega), st_nat (by omega), Option.bind_some, w64n (by omega)]
      refine rd_L1 hr hl g (j+1) _ (by omega) (by omega) (by simpa using hm) (fun v hv => ?_)
      rw [getD_set _ _ _ _ _ (by omega), take_snoc hlt, cn_snoc]
      by_cases e : v = row.getD j 0
      · rw [if_pos e, if_pos e.symm, e]; omega
      · rw [if_neg e, if_neg (Ne.symm e), hI v hv]; simp
    · rw [if_neg (by omega)]
      have : j = row.length := by omega
      subst this
      exact ⟨m, rfl, hm, fun v hv => by rw [hI v hv, List.take_length]⟩
/-- what Read holds while it goes -/
structure RS (n : Nat) (R : Nat → Bool) (js : List Nat) (m : List Int) (b : List Nat) (left : Nat) (ps : List (Nat × Nat)) : Prop where
  mlen : m.length = n
  many : ∀ v, v < n → m.getD v 0 = (cn v js : Int)
  bit : ∀ v, left.testBit v = R v
  lt : ∀ v, R v = true → v < n
  blen : b.length = n
  bes : ∀ x y, (b.getD x 0).testBit y = true ↔ ∃ p ∈ ps, min p.1 p.2 = x ∧ max p.1 p.2 = y
  inn : ∀ p ∈ ps, p.1 < n ∧ p.2 < n ∧ p.1 ≠ p.2 ∧ ¬ (R p.1 = true ∧ R p.2 = true)
  tot : tot b = ps.length
theorem RS.left_lt {n : Nat} {R : Nat → Bool} {js : List Nat} {m : List Int} {b : List Nat} {left : Nat} {ps : List (Nat × Nat)} (h : RS n R js m b left ps) (hn : n ≤ 8) : left < 65536 := by
  have h1 : left < 2 ^ n := lt_of_bits fun j hj => h.lt j (by rw [← h.bit]; exact hj)
  have : (2 : Nat) ^ n ≤ 2 ^ 8 := Nat.pow_le_pow_right (by omega) hn
  omega
theorem RS.b_lt {n : Nat} {R : Nat → Bool} {js : List Nat} {m : List Int} {b : List Nat} {left : Nat} {ps : List (Nat × Nat)} (h : RS n R js m b left ps) (hn : n ≤ 8) (i : Nat) : b.getD i 0 < 65536 := by
  have h1 : b.getD i 0 < 2 ^ n := lt_of_bits fun j hj => by
    obtain ⟨p, hp, _, e⟩ := (h.bes i j).1 hj
    have := h.inn p hp
    omega
  have : (2 : Nat) ^ n ≤ 2 ^ 8 := Nat.pow_le_pow_right (by omega) hn
  omega
theorem gmin_nat (a b : Nat) : gmin (a : Int) (b : Int) = ((min a b : Nat) : Int) := by unfold gmin; split <;> omega
theorem gmax_nat (a b : Nat) : gmax (a : Int) (b : Int) = ((max a b : Nat) : Int) := by unfold gmax; split <;> omega
theorem rd_L3 {n u : Nat} {m : List Int} {b : List Nat} {left : Nat} (hn : n ≤ 8) (hm : m.length = n) (hb : b.length = n) (hbl : ∀ i, b.getD i 0 < 65536) (hl : left < 65536) (hu : u < n) (hmu : 0 ≤ m.getD u 0 ∧ m.getD u 0 ≤ 100) : ∀ xs : List Nat, (∀ x ∈ xs, x < n) → (∃ x ∈ xs, m.getD x 0 = 0) →
    ∃ i pre post, xs = pre ++ i :: post ∧ m.getD i 0 = 0 ∧ (∀ x ∈ pre, m.getD x 0 ≠ 0) ∧ prufer_Read_L3 300 (u : Int) xs m b left = some (m.set u (m.getD u 0 - 1), b.set (min i u) (b.getD (min i u) 0 ||| 2 ^ (max i u)), ndiff left (2 ^ i))
  | [], _, h => by obtain ⟨x, h, _⟩ := h; cases h
  | x :: xs, hx, h => by
    have hxn := hx x List.mem_cons_self
    rw [prufer_Read_L3_c, ix_at 0 (by omega), Option.bind_some]
    by_cases e : m.getD x 0 = 0
    · rw [if_pos (by rw [e]; rfl), gmin_nat, gmax_nat, ix_D (by omega), Option.bind_some]
      unfold sWith sWithout
      rw [if_pos ⟨hbl _, by omega, by omega⟩, Option.bind_some, st_nat (by omega), Option.bind_some, if_pos ⟨hl, by omega, by omega⟩, Option.bind_some, ix_at 0 (by omega), Option.bind_some, st_nat (by omega), Option.bind_some, w64 (by omega) (by omega), Int.toNat_natCast, Int.toNat_natCast]
      exact ⟨x, [], xs, rfl, e, fun y hy => (by cases hy), rfl⟩
    · rw [if_neg (by simpa using e)]
      obtain ⟨i, pre, post, h1, h2, h3, h4⟩ := rd_L3 hn hm hb hbl hl hu hmu xs (fun y hy => hx y (List.mem_cons_of_mem _ hy)) (by
        obtain ⟨y, hy, hy0⟩ := h
        rcases List.mem_cons.1 hy with rfl | hy
        · exact absurd hy0 e
        · exact ⟨y, hy, hy0⟩)
      refine ⟨i, x :: pre, post, by rw [h1]; rfl, h2, fun y hy => ?_, h4⟩
      rcases List.mem_cons.1 hy with rfl | hy
      · exact e
      · exact h3 y hy
theorem memb_sorted (m : Nat) : (memb m).Pairwise (· < ·) := List.Pairwise.filter _ List.pairwise_lt_range
theorem rd_L2 {n : Nat} {row : List Nat} (hn : n ≤ 8) (hr : ∀ x ∈ row, x < n) (hl : row.length < 100) : ∀ (g j : Nat) (R : Nat → Bool) (m : List Int) (b : List Nat) (left : Nat) (ps0 : List (Nat × Nat)), row.length < j + g → j ≤ row.length → card R + j = row.length + 2 → (∀ v, cn v (row.drop j) ≠ 0 → R v = true) → RS n R (row.drop j) m b left ps0 →
    ∃ ps m' b' left', prufer_Read_L2 300 (rowI row) g (j : Int) m b left = some (m', b', left') ∧ ps.map (·.2) = row.drop j ∧ Cd ps R ∧ (∀ p ∈ ps, p.1 < n) ∧ RS n (rems ps R) [] m' b' left' (ps0 ++ ps)
  | 0, j, R, m, b, left, ps0, h, hj, _, _, _ => by omega
  | g+1, j, R, m, b, left, ps0, h, hj, hc, hin, hS => by
    rw [prufer_Read_L2_s, List.length_map]
    by_cases hlt : j < row.length
    · have hu : row.getD j 0 < n := hr _ (by rw [List.getD_eq_getElem?_getD, List.getElem?_eq_getElem hlt]; exact List.getElem_mem hlt)
      obtain ⟨u, eu⟩ : ∃ u, u = row.getD j 0 := ⟨_, rfl⟩
      have ed := drop_cons hlt
      rw [← eu] at ed hu
      have huR : R u = true := hin u (by rw [ed, cn_cons, if_pos rfl]; omega)
      have h16 : ∀ v, R v = true → v < 16 := fun v hv => by have := hS.lt v hv; omega
      obtain ⟨z, z1, z2⟩ := zero_ex (row.drop j) R h16 (by rw [List.length_drop]; omega)
      have hll := hS.left_lt hn
      have hcu := cn_le u (row.drop j)
      rw [List.length_drop] at hcu
      have hxs : ∀ x, x ∈ memb left ↔ R x = true := fun x => by rw [mem_memb hll, hS.bit]
      obtain ⟨i, pre, post, e1, e2, e3, e4⟩ := rd_L3 hn hS.mlen hS.blen (hS.b_lt hn) hll hu (by rw [hS.many u hu]; omega) (memb left) (fun x hx => hS.lt x ((hxs x).1 hx)) ⟨z, (hxs z).2 z1, by rw [hS.many z (hS.lt z z1), z2]; rfl⟩
      rw [if_pos (by omega), ix_row hlt, ← eu, Option.bind_some]
      unfold sEach
      rw [if_pos hll, Option.bind_some, e4, Option.bind_some, w64n (by omega)]
      have hiR : R i = true := (hxs i).1 (by rw [e1]; simp)
      have hin' := hS.lt i hiR
      have hci : cn i (row.drop j) = 0 := by have := hS.many i hin'; rw [e2] at this; omega
      have hiu : i ≠ u := fun e => by rw [e, ed, cn_cons, if_pos rfl] at hci; omega
      have hcard := card_rem hiR (h16 i hiR)
      have hmn : min i u < n := by omega
      have hnew : (b.getD (min i u) 0).testBit (max i u) = false := by
        cases hb : (b.getD (min i u) 0).testBit (max i u)
        · rfl
        · obtain ⟨p, hp, q1, q2⟩ := (hS.bes _ _).1 hb
          have h4 := (hS.inn p hp).2.2.2
          have : (p.1 = i ∧ p.2 = u) ∨ (p.1 = u ∧ p.2 = i) := by omega
          rcases this with ⟨a1, a2⟩ | ⟨a1, a2⟩ <;> rw [a1, a2] at h4
          · exact absurd ⟨hiR, huR⟩ h4
          · exact absurd ⟨huR, hiR⟩ h4
      have hbit : ∀ x y, ((b.set (min i u) (b.getD (min i u) 0 ||| 2 ^ max i u)).getD x 0).testBit y = true ↔ (b.getD x 0).testBit y = true ∨ (x = min i u ∧ y = max i u) := fun x y => by
        rw [getD_set _ _ _ _ _ (by rw [hS.blen]; exact hmn)]
        by_cases e : x = min i u
        · rw [if_pos e, or_pow_bit, Bool.or_eq_true, decide_eq_true_eq, e]; simp
        · rw [if_neg e]; simp [e]
      have hS' : RS n (rem R i) (row.drop (j+1)) (m.set u (m.getD u 0 - 1)) (b.set (min i u) (b.getD (min i u) 0 ||| 2 ^ max i u)) (ndiff left (2 ^ i)) (ps0 ++ [(i, u)]) := by
        refine ⟨by rw [List.length_set]; exact hS.mlen, fun v hv => ?_, fun v => ?_, fun v hv => hS.lt v (rem_of hv), by rw [List.length_set]; exact hS.blen, fun x y => ?_, fun p hp => ?_, ?_⟩
        · rw [getD_set _ _ _ _ _ (by rw [hS.mlen]; exact hu)]
          have h1 := hS.many v hv
          rw [ed, cn_cons] at h1
          by_cases e : v = u
          · subst e; rw [if_pos rfl, h1, if_pos rfl]; omega
          · rw [if_neg e, h1, if_neg (Ne.symm e)]; rfl
        · rw [ndiff_testBit, Nat.testBit_two_pow, hS.bit]
          unfold rem
          by_cases e : v = i
          · subst e; simp
          · have h1 : (v == i) = false := by simpa using e
            have h2 : ¬ i = v := fun q => e q.symm
            simp [h1, h2]
        · rw [hbit, hS.bes]
          constructor
          · rintro (⟨p, hp, q⟩ | ⟨q1, q2⟩)
            · exact ⟨p, List.mem_append_left _ hp, q⟩
            · exact ⟨(i, u), by simp, q1.symm, q2.symm⟩
          · rintro ⟨p, hp, q1, q2⟩
            rcases List.mem_append.1 hp with hp | hp
            · exact .inl ⟨p, hp, q1, q2⟩
            · rw [List.mem_singleton] at hp; subst hp; exact .inr ⟨q1.symm, q2.symm⟩
        · rcases List.mem_append.1 hp with hp | hp
          · obtain ⟨a1, a2, a3, a4⟩ := hS.inn p hp
            exact ⟨a1, a2, a3, fun c => a4 ⟨rem_of c.1, rem_of c.2⟩⟩
          · rw [List.mem_singleton] at hp; subst hp
            exact ⟨hin', hu, hiu, fun c => (rem_true.1 c.1).2 rfl⟩
        · have h1 := tot_set b (min i u) (b.getD (min i u) 0 ||| 2 ^ max i u) (by rw [hS.blen]; exact hmn)
          rw [memb_with (by omega) hnew, hS.tot] at h1
          rw [List.length_append]
          show _ = ps0.length + 1
          omega
      have hin2 : ∀ v, cn v (row.drop (j+1)) ≠ 0 → rem R i v = true := fun v hv => by
        have hv' : cn v (row.drop j) ≠ 0 := by rw [ed, cn_cons]; omega
        exact rem_true.2 ⟨hin v hv', fun e => hv' (by rw [e]; exact hci)⟩
      obtain ⟨ps, m', b', left', r1, r2, r3, r4, r5⟩ := rd_L2 hn hr hl g (j+1) _ _ _ _ _ (by omega) (by omega) (by omega) hin2 hS'
      refine ⟨(i, u) :: ps, m', b', left', r1, by rw [List.map_cons, r2, ed], ⟨hiR, ?_, fun v hv hvR => ?_, r3⟩, fun p hp => ?_, by rw [List.append_assoc] at r5; exact r5⟩
      · rw [occ_cn, List.map_cons, r2, ← ed]; exact hci
      · rw [occ_cn, List.map_cons, r2, ← ed]
        have hm : v ∈ pre ++ i :: post := by rw [← e1]; exact (hxs v).2 hvR
        have hs := memb_sorted left
        rw [e1, List.pairwise_append] at hs
        have hvp : v ∈ pre := by
          rcases List.mem_append.1 hm with h | h
          · exact h
          · rcases List.mem_cons.1 h with h | h
            · omega
            · have := (List.pairwise_cons.1 hs.2.1).1 v h; omega
        have := e3 v hvp
        rw [hS.many v (hS.lt v hvR)] at this
        omega
      · rcases List.mem_cons.1 hp with rfl | hp
        · exact hin'
        · exact r4 p hp
    · rw [if_neg (by omega)]
      have : j = row.length := by omega
      subst this
      rw [List.drop_length] at hS
      exact ⟨[], m, b, left, rfl, by rw [List.drop_length]; rfl, trivial, fun p hp => (by cases hp), by rw [List.append_nil]; exact hS⟩
/-- a line of the row's tree -/
def Ed (ps : List (Nat × Nat)) (a b i j : Nat) : Prop := (∃ p ∈ ps, (p.1 = i ∧ p.2 = j) ∨ (p.1 = j ∧ p.2 = i)) ∨ (i = a ∧ j = b) ∨ (i = b ∧ j = a)
/-- what Read says of a row that is in order -/
theorem read_good {row : List Nat} {n : Nat} (hn : n = row.length + 2) (hl : row.length ≤ 6) (hr : ∀ x ∈ row, x < n) : ∃ ps ls a b, prufer_Read 300 (rowI row) = some (ls, 0) ∧ ps.map (·.2) = row ∧ Cd ps (all (n)) ∧ (∀ p ∈ ps, p.1 < n ∧ p.1 ≠ p.2) ∧ a < b ∧ b < n ∧
      (∀ v, rems ps (all (n)) v = true ↔ v = a ∨ v = b) ∧ ls.length = row.length + 1 ∧ (∀ p ∈ ls, ∃ i j : Nat, p = ((i : Int), (j : Int)) ∧ i < j ∧ j < n ∧ Ed ps a b i j) ∧ (∀ i j, i < j → Ed ps a b i j → ((i : Int), (j : Int)) ∈ ls) ∧ ls.Nodup ∧ ∀ e : Nat → Nat → Bool, (∀ i j, e i j = true ↔ Ed ps a b i j) → ls = canon n e 0 n := by
  have e2 : wrap64 ((row.length : Int) + 2) = (n : Int) := by rw [w64 (by omega) (by omega)]; omega
  have hall : allIn (rowI row) 0 ((n : Int) - 1) = true := by
    unfold allIn
    rw [List.all_eq_true]
    intro x hx
    obtain ⟨y, hy, rfl⟩ := List.mem_map.1 hx
    have := hr y hy
    simp; omega
  obtain ⟨m, m1, m2, m3⟩ := rd_L1 hr (by omega) 300 0 (List.replicate n 0) (by omega) (by omega) (by simp) (fun v hv => by simp [cn, List.getD_eq_getElem?_getD, List.getElem?_replicate, hv])
  have h0 : RS n (all n) (row.drop 0) m (List.replicate n 0) (2 ^ n - 1) [] := by
    rw [List.drop_zero]
    refine ⟨m2, m3, fun v => by rw [full_bit]; rfl, fun v hv => of_decide_eq_true hv, by simp, fun x y => ?_, fun p hp => (by cases hp), by rw [tot_zero]; rfl⟩
    constructor
    · intro h
      have : (List.replicate n 0).getD x 0 = 0 := by
        rw [List.getD_eq_getElem?_getD, List.getElem?_replicate]; split <;> rfl
      rw [this, Nat.zero_testBit] at h; cases h
    · rintro ⟨p, hp, _⟩; cases hp
  obtain ⟨ps, m', b', left', r1, r2, r3, r4, r5⟩ := rd_L2 (by omega) hr (by omega) 300 0 (all n) m _ _ [] (by omega) (by omega) (by rw [all_card (by omega)]; omega) (fun v hv => by
    refine decide_eq_true ?_
    rw [List.drop_zero] at hv
    unfold cn at hv
    obtain ⟨x, hx⟩ := List.exists_mem_of_length_pos (Nat.pos_of_ne_zero hv)
    rw [List.mem_filter] at hx
    have : x = v := by simpa using hx.2
    rw [← this]; exact hr x hx.1) h0
  rw [List.drop_zero] at r2
  rw [List.nil_append] at r5
  have hll := r5.left_lt (by omega)
  have hpl : ps.length = row.length := by rw [← r2, List.length_map]
  have hcard : card (rems ps (all n)) = 2 := by
    have := rems_card r3 (fun v hv => by have : v < n := of_decide_eq_true hv; omega)
    rw [all_card (by omega)] at this
    omega
  have hmem : ∀ x, x ∈ memb left' ↔ rems ps (all n) x = true := fun x => by rw [mem_memb hll, r5.bit]
  have hlen2 : (memb left').length = 2 := by
    rw [← hcard]; unfold memb card; congr 1
    apply List.filter_congr
    intro x _; exact r5.bit x
  obtain ⟨a, b, hab⟩ : ∃ a b, memb left' = [a, b] := by
    match h : memb left', hlen2 with
    | [a, b], _ => exact ⟨a, b, rfl⟩
  have hs := memb_sorted left'
  rw [hab] at hs hmem
  have hlt : a < b := by simpa using hs
  have hR' : ∀ v, rems ps (all n) v = true ↔ v = a ∨ v = b := fun v => by rw [← hmem]; simp
  have han := r5.lt a ((hR' a).2 (.inl rfl))
  have hbn := r5.lt b ((hR' b).2 (.inr rfl))
  have hnew : (b'.getD a 0).testBit b = false := by
    cases hb : (b'.getD a 0).testBit b
    · rfl
    · obtain ⟨p, hp, q1, q2⟩ := (r5.bes _ _).1 hb
      have h4 := (r5.inn p hp).2.2.2
      have hh : (p.1 = a ∧ p.2 = b) ∨ (p.1 = b ∧ p.2 = a) := by omega
      rcases hh with ⟨a1, a2⟩ | ⟨a1, a2⟩ <;> rw [a1, a2] at h4
      · exact absurd ⟨(hR' a).2 (.inl rfl), (hR' b).2 (.inr rfl)⟩ h4
      · exact absurd ⟨(hR' b).2 (.inr rfl), (hR' a).2 (.inl rfl)⟩ h4
  obtain ⟨bb, hbb⟩ : ∃ bb, bb = b'.set a (b'.getD a 0 ||| 2 ^ b) := ⟨_, rfl⟩
  have hbit : ∀ x y, (bb.getD x 0).testBit y = true ↔ (b'.getD x 0).testBit y = true ∨ (x = a ∧ y = b) := fun x y => by
    rw [hbb, getD_set _ _ _ _ _ (by rw [r5.blen]; exact han)]
    by_cases e : x = a
    · rw [if_pos e, or_pow_bit, Bool.or_eq_true, decide_eq_true_eq, e]; simp
    · rw [if_neg e]; simp [e]
  have hbn2 : ∀ i, bb.getD i 0 < 2 ^ n := fun i => lt_of_bits fun j hj => by
      rcases (hbit i j).1 hj with hj | ⟨_, e⟩
      · obtain ⟨p, hp, _, e⟩ := (r5.bes i j).1 hj
        have := r5.inn p hp
        omega
      · omega
  have hbl : ∀ i, bb.getD i 0 < 65536 := fun i => by
    have h1 := hbn2 i
    have : (2 : Nat) ^ n ≤ 2 ^ 8 := Nat.pow_le_pow_right (by omega) (by omega)
    omega
  have hbbl : bb.length = n := by rw [hbb, List.length_set]; exact r5.blen
  have htot : tot bb = row.length + 1 := by
    have h1 := tot_set b' a (b'.getD a 0 ||| 2 ^ b) (by rw [r5.blen]; exact han)
    rw [memb_with (by omega) hnew, r5.tot, ← hbb] at h1
    omega
  have hout := rd_L4 hbl (by omega) 300 0 [] (by omega) (by omega) (by rw [List.drop_zero, htot]; simp; omega)
  rw [List.drop_zero, List.nil_append] at hout
  have hEd : ∀ i j, i < j → ((bb.getD i 0).testBit j = true ↔ Ed ps a b i j) := fun i j hij => by
    rw [hbit, r5.bes]
    unfold Ed
    constructor
    · rintro (⟨p, hp, q1, q2⟩ | h)
      · exact .inl ⟨p, hp, by omega⟩
      · exact .inr (.inl h)
    · rintro (⟨p, hp, q⟩ | h | h)
      · exact .inl ⟨p, hp, by omega, by omega⟩
      · exact .inr h
      · omega
  have hlow : ∀ i j, (bb.getD i 0).testBit j = true → i < j ∧ j < n := fun i j hj => by
    rcases (hbit i j).1 hj with hj | ⟨e1, e⟩
    · obtain ⟨p, hp, q1, q2⟩ := (r5.bes i j).1 hj
      have := r5.inn p hp
      omega
    · omega
  refine ⟨ps, linesOf 0 bb, a, b, ?_, r2, r3, fun p hp => ⟨r4 p hp, (r5.inn p hp).2.2.1⟩, hlt, hbn, hR', by rw [linesOf_len, htot], fun p hp => ?_, fun i j hij he => ?_, ?_, ?_⟩
  · unfold prufer_Read
    rw [List.length_map, e2, if_neg (by omega), w64 (x := (n : Int) - 1) (by omega) (by omega), core_All_ev _ _ (by simp; omega) (by simp; omega), hall, Option.bind_some, if_pos rfl]
    unfold mkI mkM
    rw [if_pos (by omega), Option.bind_some, if_pos (by omega), Int.toNat_natCast, show prufer_Read_L1 300 (rowI row) 300 0 (List.replicate n 0) = some m from m1, Option.bind_some, Option.bind_some, sBelow_ev (by omega), Option.bind_some,
      show prufer_Read_L2 300 (rowI row) 300 0 m (List.replicate n 0) (2 ^ n - 1) = some (m', b', left') from r1, Option.bind_some]
    unfold sList
    rw [if_pos hll, Option.bind_some]
    unfold membI
    rw [hab]
    show ((some (a : Int)).bind fun y20 => (some (a : Int)).bind fun y21 => (ix b' y21).bind fun y22 => (some (b : Int)).bind fun y23 => (sWith y22 y23).bind fun y24 => (st b' y20 y24).bind fun y19 => (prufer_Read_L4 300 y19 300 0 []).bind fun o28 => some (o28, 0)) = some (linesOf 0 bb, 0)
    rw [Option.bind_some, Option.bind_some, ix_D (by rw [r5.blen]; exact han), Option.bind_some, Option.bind_some]
    unfold sWith
    rw [if_pos ⟨r5.b_lt (by omega) a, by omega, by omega⟩, Option.bind_some, Int.toNat_natCast, st_nat (by rw [r5.blen]; exact han), Option.bind_some, ← hbb, show prufer_Read_L4 300 bb 300 0 [] = some (linesOf 0 bb) from hout]
    rfl
  · obtain ⟨i, x, q1, q2, rfl⟩ := (linesOf_mem p bb 0).1 hp
    rw [mem_memb (hbl i)] at q2
    have h3 := hlow i x q2
    exact ⟨i, x, by rw [Nat.zero_add], h3.1, h3.2, (hEd i x h3.1).1 q2⟩
  · have hb := (hEd i j hij).2 he
    have h3 := hlow i j hb
    exact (linesOf_mem _ bb 0).2 ⟨i, j, by omega, (mem_memb (hbl i)).2 hb, by rw [Nat.zero_add]⟩
  · rw [linesOf_canon (n := n) (e := fun i x => (bb.getD i 0).testBit x) (by omega) bb 0 hbn2 (fun i x _ => by
      rw [Nat.zero_add]
      cases hb : (bb.getD i 0).testBit x
      · rw [Bool.and_false]
      · rw [decide_eq_true (hlow i x hb).1]; rfl)]
    exact canon_nodup _ _
  · intro e he
    rw [linesOf_canon (n := n) (e := e) (by omega) bb 0 hbn2 (fun i x _ => by
      rw [Nat.zero_add, Bool.eq_iff_iff, Bool.and_eq_true, decide_eq_true_eq, he]
      constructor
      · intro hb; have h3 := (hlow i x hb).1; exact ⟨h3, (hEd i x h3).1 hb⟩
      · rintro ⟨h3, hb⟩; exact (hEd i x h3).2 hb), hbbl]
end Go.Proofs.YtpbkepajgdmbpaaDoor
