import Derived.Test.YtpbkepajgdmbpaaDoorRd
/- plain: rows and trees -/
set_option linter.all false
set_option maxRecDepth 100000
namespace Go.Proofs.YtpbkepajgdmbpaaDoor
open Go.RowKit Pl
theorem errLines_all (n : Int) : ∀ (l : List (Int × Int)), (∀ p ∈ l, 0 ≤ p.1 ∧ p.1 ≤ n - 1 ∧ 0 ≤ p.2 ∧ p.2 ≤ n - 1 ∧ p.1 ≠ p.2) → errLines n l = 0
  | [], _ => rfl
  | p :: l, h => by
    have h1 := h p List.mem_cons_self
    show (if ¬ (0 ≤ p.1 ∧ p.1 ≤ n - 1) ∨ ¬ (0 ≤ p.2 ∧ p.2 ≤ n - 1) then 1 else if p.1 = p.2 then 3 else errLines n l) = 0
    rw [if_neg (by omega), if_neg h1.2.2.2.2]
    exact errLines_all n l fun q hq => h q (List.mem_cons_of_mem _ hq)
theorem Ed.symm {ps : List (Nat × Nat)} {a b i j : Nat} (h : Ed ps a b i j) : Ed ps a b j i := by
  rcases h with ⟨p, hp, q⟩ | h | h
  · exact .inl ⟨p, hp, q.symm⟩
  · exact .inr (.inr ⟨h.2, h.1⟩)
  · exact .inr (.inl ⟨h.2, h.1⟩)
theorem cd_fst : ∀ {ps : List (Nat × Nat)} {R : Nat → Bool}, Cd ps R → ∀ p ∈ ps, R p.1 = true
  | [], _, _, p, hp => by cases hp
  | (i, u) :: ps, R, h, p, hp => by
    rcases List.mem_cons.1 hp with rfl | hp
    · exact h.1
    · exact rem_of (cd_fst h.2.2.2 p hp)
theorem occ_ne {v : Nat} {ps : List (Nat × Nat)} (h : occ v ps = 0) : ∀ p ∈ ps, p.2 ≠ v := by
  intro p hp e
  unfold occ at h
  rw [List.length_eq_zero_iff, List.filter_eq_nil_iff] at h
  exact h p hp (by simpa using e)
theorem pl_of_cd {adj : Nat → Nat → Bool} {a b : Nat} : ∀ {ps : List (Nat × Nat)} {R : Nat → Bool}, Cd ps R → (∀ p ∈ ps, R p.2 = true) → (∀ p ∈ ps, p.1 ≠ p.2) → rems ps R a = true → rems ps R b = true →
    (∀ i j, R i = true → R j = true → (adj i j = true ↔ Ed ps a b i j)) → Pl0 adj ps R (rems ps R)
  | [], R, _, _, _, _, _, _ => rfl
  | (i, u) :: ps, R, h, h2, hne, ha, hb, hE => by
    obtain ⟨c1, c2, c3, c4⟩ := h
    have hu : R u = true := h2 _ List.mem_cons_self
    have hiu : i ≠ u := hne _ List.mem_cons_self
    have ho := occ_ne c2
    have hai : a ≠ i := (rem_true.1 (rems_of (ps := ps) ha)).2
    have hbi : b ≠ i := (rem_true.1 (rems_of (ps := ps) hb)).2
    refine ⟨c1, hu, (hE i u c1 hu).2 (.inl ⟨(i, u), List.mem_cons_self, .inl ⟨rfl, rfl⟩⟩), fun j hj hij => ?_, ?_⟩
    · rcases (hE i j c1 hj).1 hij with ⟨p, hp, q⟩ | ⟨q, _⟩ | ⟨q, _⟩
      · rcases List.mem_cons.1 hp with e | hp
        · subst e
          rcases q with ⟨_, q⟩ | ⟨_, q⟩
          · exact q.symm
          · exact absurd q.symm hiu
        · rcases q with ⟨q, _⟩ | ⟨_, q⟩
          · exact absurd q (rem_true.1 (cd_fst c4 p hp)).2
          · exact absurd q (ho p (List.mem_cons_of_mem _ hp))
      · exact absurd q.symm hai
      · exact absurd q.symm hbi
    · refine pl_of_cd c4 (fun p hp => rem_true.2 ⟨h2 p (List.mem_cons_of_mem _ hp), ho p (List.mem_cons_of_mem _ hp)⟩) (fun p hp => hne p (List.mem_cons_of_mem _ hp)) ha hb (fun x y hx hy => ?_)
      obtain ⟨x1, x2⟩ := rem_true.1 hx
      obtain ⟨y1, y2⟩ := rem_true.1 hy
      rw [hE x y x1 y1]
      constructor
      · rintro (⟨p, hp, q⟩ | q)
        · rcases List.mem_cons.1 hp with e | hp
          · subst e
            rcases q with ⟨q, _⟩ | ⟨q, _⟩
            · exact absurd q.symm x2
            · exact absurd q.symm y2
          · exact .inl ⟨p, hp, q⟩
        · exact .inr q
      · rintro (⟨p, hp, q⟩ | q)
        · exact .inl ⟨p, List.mem_cons_of_mem _ hp, q⟩
        · exact .inr q
theorem pl_conn {adj : Nat → Nat → Bool} (hs : ∀ a b, adj a b = true → adj b a = true) (hne : ∀ a, adj a a = false) {a b : Nat} (hab : adj a b = true) {P : Nat → Prop} (hP : ∀ i j, P i → adj i j = true → P j) : ∀ {ps : List (Nat × Nat)} {R R' : Nat → Bool}, Pl0 adj ps R R' → (∀ v, R' v = true ↔ v = a ∨ v = b) → ∀ x y, R x = true → R y = true → P x → P y
  | [], R, R', h, hR, x, y, hx, hy, hp => by
    have e : R' = R := h
    subst e
    rcases (hR x).1 hx with rfl | rfl <;> rcases (hR y).1 hy with rfl | rfl
    · exact hp
    · exact hP _ _ hp hab
    · exact hP _ _ hp (hs _ _ hab)
    · exact hp
  | (i, u) :: ps, R, R', h, hR, x, y, hx, hy, hp => by
    obtain ⟨h1, h2, h3, h4, h5⟩ := h
    have ih := pl_conn hs hne hab hP h5 hR
    have hiu : u ≠ i := fun e => by subst e; rw [hne] at h3; cases h3
    have hu' : rem R i u = true := rem_true.2 ⟨h2, hiu⟩
    have key : P u → P y := fun hpu => by
      by_cases ey : y = i
      · rw [ey]; exact hP _ _ hpu (hs _ _ h3)
      · exact ih u y hu' (rem_true.2 ⟨hy, ey⟩) hpu
    by_cases ex : x = i
    · subst ex; exact key (hP _ _ hp h3)
    · exact key (ih x u (rem_true.2 ⟨hx, ex⟩) hu' hp)
theorem ps_uniq {adj : Nat → Nat → Bool} (hs : ∀ a b, adj a b = true → adj b a = true) (hne : ∀ a, adj a a = false) : ∀ {ps ps2 : List (Nat × Nat)} {R R' R2 : Nat → Bool}, ps.length = ps2.length → Pl0 adj ps R R' → Pl0 adj ps2 R R2 → Cd ps R → Cd ps2 R → (∀ v, R v = true → v < 16) →
    (∀ v, R' v = true → dg adj R' v = 1) → (∀ v, R2 v = true → dg adj R2 v = 1) → ps = ps2
  | [], [], _, _, _, _, _, _, _, _, _, _, _ => rfl
  | [], _ :: _, _, _, _, h, _, _, _, _, _, _, _ => by cases h
  | _ :: _, [], _, _, _, h, _, _, _, _, _, _, _ => by cases h
  | (i, u) :: ps, (i2, u2) :: ps2, R, R', R2, hl, h, h', c, c', h16, hf, hf2 => by
    have d1 := pl_cnt hs hne h h16 hf
    have d2 := pl_cnt hs hne h' h16 hf2
    obtain ⟨h1, h2, h3, h4, h5⟩ := h
    obtain ⟨h1', h2', h3', h4', h5'⟩ := h'
    obtain ⟨c1, c2, c3, c4⟩ := c
    obtain ⟨c1', c2', c3', c4'⟩ := c'
    have ei : i = i2 := by
      rcases Nat.lt_trichotomy i i2 with q | q | q
      · exact absurd (by have := d1 i c1; have := d2 i c1; omega) (c3' i q c1)
      · exact q
      · exact absurd (by have := d1 i2 c1'; have := d2 i2 c1'; omega) (c3 i2 q c1')
    subst ei
    have eu : u2 = u := h4 u2 h2' h3'
    subst eu
    rw [ps_uniq hs hne (Nat.succ.inj hl) h5 h5' c4 c4' (fun v hv => h16 v (rem_of hv)) hf hf2]
theorem cd_uniq : ∀ {ps ps2 : List (Nat × Nat)} {R : Nat → Bool}, ps.map (·.2) = ps2.map (·.2) → Cd ps R → Cd ps2 R → ps = ps2
  | [], [], _, _, _, _ => rfl
  | [], _ :: _, _, h, _, _ => by cases h
  | _ :: _, [], _, h, _, _ => by cases h
  | (i, u) :: ps, (i2, u2) :: ps2, R, h, c, c' => by
    have ho : ∀ v, occ v ((i, u) :: ps) = occ v ((i2, u2) :: ps2) := fun v => by rw [occ_cn, occ_cn, h]
    obtain ⟨c1, c2, c3, c4⟩ := c
    obtain ⟨c1', c2', c3', c4'⟩ := c'
    have ei : i = i2 := by
      rcases Nat.lt_trichotomy i i2 with q | q | q
      · exact absurd (by rw [← ho]; exact c2) (c3' i q c1)
      · exact q
      · exact absurd (by rw [ho]; exact c2') (c3 i2 q c1')
    subst ei
    rw [List.map_cons, List.map_cons] at h
    injection h with hu hm
    have eu : u = u2 := hu
    subst eu
    rw [cd_uniq hm c4 c4']
theorem pl_all {adj : Nat → Nat → Bool} (hs : ∀ a b, adj a b = true → adj b a = true) {a b : Nat} : ∀ {ps : List (Nat × Nat)} {R R' : Nat → Bool}, Pl0 adj ps R R' → (∀ i j, R' i = true → R' j = true → adj i j = true → (i = a ∧ j = b) ∨ (i = b ∧ j = a)) → ∀ i j, R i = true → R j = true → adj i j = true → Ed ps a b i j
  | [], R, R', h, hR, i, j, hi, hj, hij => by
    have e : R' = R := h
    subst e
    exact .inr (hR i j hi hj hij)
  | (p, u) :: ps, R, R', h, hR, i, j, hi, hj, hij => by
    obtain ⟨h1, h2, h3, h4, h5⟩ := h
    by_cases ei : i = p
    · subst ei
      exact .inl ⟨(i, u), List.mem_cons_self, .inl ⟨rfl, (h4 j hj hij).symm⟩⟩
    · by_cases ej : j = p
      · subst ej
        exact .inl ⟨(j, u), List.mem_cons_self, .inr ⟨rfl, (h4 i hi (hs _ _ hij)).symm⟩⟩
      · rcases pl_all hs h5 hR i j (rem_true.2 ⟨hi, ei⟩) (rem_true.2 ⟨hj, ej⟩) hij with ⟨q, hq, hh⟩ | hh
        · exact .inl ⟨q, List.mem_cons_of_mem _ hq, hh⟩
        · exact .inr hh
/-- the tree of a row -/
theorem read_tree {row : List Nat} (hl : row.length ≤ 6) (hr : ∀ x ∈ row, x < row.length + 2) : ∃ ls, prufer_Read 300 (rowI row) = some (ls, 0) ∧ Good (row.length + 2) ls ∧ prufer_Write 300 ((row.length + 2 : Nat) : Int) ls = some (rowI row, 0) := by
  obtain ⟨n, hn⟩ : ∃ n, n = row.length + 2 := ⟨_, rfl⟩
  rw [← hn] at hr ⊢
  obtain ⟨ps, ls, a, b, p1, p2, p3, p4, p5, p6, p7, p8, p9, p10, _⟩ := read_good hn hl hr
  refine ⟨ls, p1, ?_⟩
  have hin : InL n ls := fun p hp => by obtain ⟨i, j, rfl, h1, h2, _⟩ := p9 p hp; dsimp only; omega
  have hne : ∀ p ∈ ls, p.1 ≠ p.2 := fun p hp => by obtain ⟨i, j, rfl, h1, h2, _⟩ := p9 p hp; dsimp only; omega
  have hE : ∀ i j, adB n ls i j = true ↔ Ed ps a b i j := fun i j => by
    rw [adB_iff, ad_iff hin]
    constructor
    · rintro ⟨p, hp, q⟩
      obtain ⟨x, y, rfl, h1, h2, h3⟩ := p9 p hp
      rcases q with ⟨q1, q2⟩ | ⟨q1, q2⟩
      · have e1 : x = i := Int.ofNat.inj q1
        have e2 : y = j := Int.ofNat.inj q2
        subst e1; subst e2; exact h3
      · have e1 : x = j := Int.ofNat.inj q1
        have e2 : y = i := Int.ofNat.inj q2
        subst e1; subst e2; exact h3.symm
    · intro h
      rcases Nat.lt_trichotomy i j with q | q | q
      · exact ⟨_, p10 i j q h, .inl ⟨rfl, rfl⟩⟩
      · subst q
        rcases h with ⟨p, hp, hh⟩ | hh | hh
        · exact absurd (by rcases hh with hh | hh <;> rw [hh.1, hh.2]) (p4 p hp).2
        · omega
        · omega
      · exact ⟨_, p10 j i q h.symm, .inr ⟨rfl, rfl⟩⟩
  have hs : ∀ i j, adB n ls i j = true → adB n ls j i = true := fun i j h => (hE j i).2 ((hE i j).1 h).symm
  have hn0 : ∀ i, adB n ls i i = false := fun i => besM_ne hin hne i
  have ha := (p7 a).2 (.inl rfl)
  have hb := (p7 b).2 (.inr rfl)
  have hPl : Pl0 (adB n ls) ps (all n) (rems ps (all n)) := pl_of_cd p3 (fun p hp => decide_eq_true (hr p.2 (by rw [← p2]; exact List.mem_map_of_mem hp))) (fun p hp => (p4 p hp).2) ha hb (fun i j _ _ => hE i j)
  have hab : adB n ls a b = true := (hE a b).2 (.inr (.inl ⟨rfl, rfl⟩))
  have hcn : Conn n ls := fun P h0 hst i hi => pl_conn hs hn0 hab (fun i j h1 h2 => hst i j h1 h2) hPl p7 0 i (decide_eq_true (by omega)) (decide_eq_true hi) h0
  have he : errG (n : Int) ls = 0 := by
    unfold errG
    rw [if_neg (by omega), if_neg (by omega)]
    exact errLines_all _ _ fun p hp => by
      have h1 := hin p hp; have h2 := hne p hp
      exact ⟨h1.1, by omega, h1.2.2.1, by omega, h2⟩
  have hg : good (n : Int) ls := ⟨by
    have : n = 2 ∨ n = 3 ∨ n = 4 ∨ n = 5 ∨ n = 6 ∨ n = 7 ∨ n = 8 := by omega
    rcases this with e | e | e | e | e | e | e <;> rw [e] <;> decide, by unfold maxLen; omega⟩
  have G : Good n ls := ⟨hg, he, by omega, by omega, hin, hne, by omega, hcn⟩
  refine ⟨G, ?_⟩
  obtain ⟨qs, R', q1, q2, q3, q4, q5, q6, q7, _⟩ := write_good G (by omega)
  have hpl : ps.length = row.length := by rw [← p2, List.length_map]
  have hfin : ∀ v, rems ps (all n) v = true → dg (adB n ls) (rems ps (all n)) v = 1 := fun v hv => by
    rcases (p7 v).1 hv with e | e
    · subst e
      unfold dg
      refine one_of (u := b) (by omega) fun j _ => ?_
      rw [Bool.and_eq_true, p7]
      exact ⟨fun h => h.1.resolve_left fun e => (by subst e; have := h.2; rw [hn0] at this; cases this), fun e => by subst e; exact ⟨.inr rfl, hab⟩⟩
    · subst e
      unfold dg
      refine one_of (u := a) (by omega) fun j _ => ?_
      rw [Bool.and_eq_true, p7]
      exact ⟨fun h => h.1.resolve_right fun e => (by subst e; have := h.2; rw [hn0] at this; cases this), fun e => by subst e; exact ⟨.inl rfl, hs _ _ hab⟩⟩
  have := ps_uniq hs hn0 (by omega) hPl q3 p3 q4 (fun v hv => by have : v < n := of_decide_eq_true hv; omega) hfin q7
  rw [q1, ← this]
  unfold rowI
  rw [← p2, List.map_map]
  rfl
/-- what Read says of any row -/
theorem read_any {row : List Int} (hl : row.length ≤ 17592186044416) : (∃ js, row = rowI js ∧ js.length ≤ 6 ∧ ∀ x ∈ js, x < js.length + 2) ∨ (6 < row.length ∧ prufer_Read 300 row = some ([], 4)) ∨ (row.length ≤ 6 ∧ allIn row 0 ((row.length : Int) + 1) = false ∧ prufer_Read 300 row = some ([], 1)) := by
  by_cases h6 : 6 < row.length
  · refine .inr (.inl ⟨h6, ?_⟩)
    unfold prufer_Read
    rw [w64 (by omega) (by omega), if_pos (by omega)]
  · cases ha : allIn row 0 ((row.length : Int) + 1)
    · refine .inr (.inr ⟨by omega, rfl, ?_⟩)
      unfold prufer_Read
      rw [w64 (x := (row.length : Int) + 2) (by omega) (by omega), if_neg (by omega), w64 (by omega) (by omega), core_All_ev _ _ (by omega) (by omega), show (row.length : Int) + 2 - 1 = (row.length : Int) + 1 by omega, ha]
      rfl
    · have hall : ∀ x ∈ row, 0 ≤ x ∧ x ≤ (row.length : Int) + 1 := fun x hx => by
        unfold allIn at ha
        rw [List.all_eq_true] at ha
        exact of_decide_eq_true (ha x hx)
      refine .inl ⟨row.map Int.toNat, ?_, by rw [List.length_map]; omega, fun x hx => ?_⟩
      · unfold rowI
        rw [List.map_map]
        conv => lhs; rw [← List.map_id row]
        apply List.map_congr_left
        intro x hx
        exact (Int.toNat_of_nonneg (hall x hx).1).symm
      · obtain ⟨y, hy, rfl⟩ := List.mem_map.1 hx
        have := hall y hy
        rw [List.length_map]; omega
/-- a tree's row gives the tree -/
theorem tree_read {k : Nat} {l : List (Int × Int)} (G : Good k l) (h2 : 2 ≤ k) : ∃ m ls, prufer_Write 300 (k : Int) l = some (m, 0) ∧ m.length + 2 = k ∧ prufer_Read 300 m = some (ls, 0) ∧ ls.length = l.length ∧ ∀ p ∈ l, besL ls p.1 p.2 = true := by
  obtain ⟨ps, R', q1, q2, q3, q4, q5, q6, q7, a, b, b1, b2, b3, b4, b5⟩ := write_good G h2
  have hs : ∀ i j, adB k l i j = true → adB k l j i = true := fun i j h => (trB G).sym i j h
  have hk := G.le; have hlen := G.len
  have hrow : (ps.map (·.2)).length + 2 = k := by rw [List.length_map]; exact q2
  obtain ⟨ps2, ls, c, d, p1, p2, p3, p4, p5, p6, p7, p8, p9, p10, _⟩ := read_good (row := ps.map (·.2)) (n := k) (by omega) (by omega) (fun x hx => by
    obtain ⟨p, hp, rfl⟩ := List.mem_map.1 hx
    exact of_decide_eq_true (pl_snd q3 p hp))
  have := cd_uniq p2 p3 q4
  subst this
  have hR : ∀ v, R' v = true ↔ v = c ∨ v = d := fun v => by rw [pl_rems q3]; exact p7 v
  refine ⟨_, ls, q1, by rw [List.length_map]; exact q2, ?_, by omega, fun p hp => ?_⟩
  · have e : ps2.map (fun p => (p.2 : Int)) = rowI (ps2.map (·.2)) := by unfold rowI; rw [List.map_map]; rfl
    rw [e]; exact p1
  · have hin := G.inl p hp
    have hne := G.ne p hp
    have hadj : adB k l p.1.toNat p.2.toNat = true := adB_iff.2 ((ad_iff G.inl _ _).2 ⟨p, hp, .inl ⟨by omega, by omega⟩⟩)
    have hed := pl_all hs q3 (a := c) (b := d) (fun i j hi hj hij => by
      have hij' : i ≠ j := fun e => by subst e; rw [adB_ne G] at hij; cases hij
      have := (hR i).1 hi; have := (hR j).1 hj; omega) _ _ (decide_eq_true (by omega)) (decide_eq_true (by omega)) hadj
    unfold besL goes
    rw [Bool.or_eq_true, List.any_eq_true, List.any_eq_true]
    rcases Nat.lt_trichotomy p.1.toNat p.2.toNat with q | q | q
    · exact .inl ⟨_, p10 _ _ q hed, by simp; omega⟩
    · omega
    · exact .inr ⟨_, p10 _ _ q hed.symm, by simp; omega⟩
end Go.Proofs.YtpbkepajgdmbpaaDoor
