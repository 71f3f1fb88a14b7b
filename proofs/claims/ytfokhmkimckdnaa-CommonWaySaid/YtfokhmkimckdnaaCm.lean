import Derived.Test.YtfokhmkimckdnaaTrEv
import Derived.Test.YtfokhmkimckdnaaF1
/- plain: what package common's functions come to -/
set_option linter.all false
set_option maxRecDepth 100000
namespace Go.Proofs.Ytfokhmkimckdnaa
open Go.RowKit Pl
/-- whom each one hangs on -/
structure UpL {k : Nat} {l : List (Int × Int)} (G : Good k l) (r : Nat) (up : List Int) : Prop where
  len : up.length = k
  root : up.getD r 0 = -1
  at_ : ∀ v u, v < k → (tr_of G).up r v u → up.getD v 0 = (u : Int)
theorem ups_L1 {k r : Nat} {l : List (Int × Int)} (G : Good k l) (hr : r < k) {o : List Int} (ho : o.length = k) (hd : ∀ j, j < k → o.getD j 0 = (dst k l r j : Int)) : ∀ (g j : Nat) (v : List Int), l.length < j + g → j ≤ l.length → v.length = k → v.getD r 0 = -1 →
    (∀ x u q, x < k → (tr_of G).up r x u → q < j → ((l.getD q (0, 0)).1 = (u : Int) ∧ (l.getD q (0, 0)).2 = (x : Int) ∨ (l.getD q (0, 0)).1 = (x : Int) ∧ (l.getD q (0, 0)).2 = (u : Int)) → v.getD x 0 = (u : Int)) →
    ∃ up, common_Ups_L1 300 l o g (j : Int) v = some up ∧ UpL G r up
  | 0, j, v, h, _, _, _, _ => by omega
  | g+1, j, v, h, hj, hv, hvr, hI => by
    have T := tr_of G
    rw [common_Ups_L1_s]
    by_cases hlt : j < l.length
    · have hk := G.len; have hk8 := G.le
      obtain ⟨x, y, e1, e2, hx, hy⟩ := G.inl.at_ hlt
      have hgd : l.getD j (0, 0) = l[j] := by rw [List.getD_eq_getElem?_getD, List.getElem?_eq_getElem hlt]; rfl
      have hA : Ad k l x y := (ad_iff G.inl x y).2 ⟨l[j], List.getElem_mem hlt, .inl ⟨e1, e2⟩⟩
      rw [if_pos (by omega), ix_nat hlt, Option.bind_some, e1, e2, ix_at 0 (by omega), Option.bind_some, ix_at 0 (by omega), Option.bind_some, hd x hx, hd y hy, w64n (by omega)]
      -- the farther end hangs on the nearer one
      have step : ∀ p c, p < k → c < k → (tr_of G).up r c p → ((x = p ∧ y = c) ∨ (x = c ∧ y = p)) → ∃ up, common_Ups_L1 300 l o g ((j + 1 : Nat) : Int) (v.set c (p : Int)) = some up ∧ UpL G r up := by
        intro p c hp hc hup hxy
        have hset : ∀ i, (v.set c (p : Int)).getD i 0 = if i = c then (p : Int) else v.getD i 0 := fun i => getD_set _ _ _ _ _ (by omega)
        refine ups_L1 G hr ho hd g (j+1) _ (by omega) (by omega) (by rw [List.length_set]; exact hv) ?_ ?_
        · rw [hset, if_neg (Ne.symm (T.up_ne hr hup))]; exact hvr
        · intro z u q hz hzu hq hh
          rw [hset]
          by_cases e : z = c
          · subst e
            rw [if_pos rfl, T.uniq r p u z hr hup.1 hzu.1 hup.2 hzu.2]
          · rw [if_neg e]
            rcases Nat.lt_or_ge q j with h1 | h1
            · exact hI z u q hz hzu h1 hh
            · have : q = j := by omega
              subst this
              rw [hgd, e1, e2] at hh
              have hzc : z = p ∧ u = c := by omega
              obtain ⟨rfl, rfl⟩ := hzc
              have := hup.2; have := hzu.2; omega
      have hdiff := T.diff r x y hr hA
      have hs1 := T.step r x y hr hA
      have hs2 := T.step r y x hr (T.sym _ _ hA)
      by_cases c : dst k l r x < dst k l r y
      · rw [if_pos (by omega), st_nat (by omega), Option.bind_some]
        exact step x y hx hy ⟨hA, by omega⟩ (.inl ⟨rfl, rfl⟩)
      · rw [if_neg (by omega), st_nat (by omega), Option.bind_some]
        exact step y x hy hx ⟨T.sym _ _ hA, by omega⟩ (.inr ⟨rfl, rfl⟩)
    · rw [if_neg (by omega)]
      refine ⟨v, rfl, hv, hvr, fun z u hz hzu => ?_⟩
      obtain ⟨p, hp, hh⟩ := (ad_iff G.inl u z).1 hzu.1
      obtain ⟨q, hq, rfl⟩ := List.getElem_of_mem hp
      exact hI z u q hz hzu (by omega) (by rw [List.getD_eq_getElem?_getD, List.getElem?_eq_getElem hq]; exact hh)
noncomputable def errU (n : Int) (l : List (Int × Int)) (root : Int) : Int := if errT n l ≠ 0 then errT n l else if 0 ≤ root ∧ root ≤ n - 1 then 0 else 1
theorem good_w {n : Int} {l : List (Int × Int)} (hg : good n l) (h : errT n l = 0) : wrap64 (n - 1) = n - 1 := by
  obtain ⟨k, rfl, G⟩ := good_of hg h
  have := G.pos; have := G.le
  exact w64 (by omega) (by omega)
theorem ups_ev {n : Int} {l : List (Int × Int)} {root : Int} (hg : good n l) : ∃ up, common_Ups 300 n l root = some (up, errU n l root) ∧ (errU n l root ≠ 0 → up = []) ∧
    (errU n l root = 0 → ∃ (k r : Nat) (G : Good k l), n = k ∧ root = r ∧ r < k ∧ UpL G r up) := by
  unfold common_Ups errU
  rw [tree_ev hg, Option.bind_some]
  by_cases he : errT n l = 0
  · rw [he, if_neg (show ¬ (((0 : Int) != 0) = true) by decide), if_neg (show ¬ ((0 : Int) ≠ 0) by simp), good_w hg he, core_Within_ev, Option.bind_some]
    obtain ⟨k, rfl, G⟩ := good_of hg he
    by_cases hr : 0 ≤ root ∧ root ≤ (k : Int) - 1
    · rw [decide_eq_true hr, if_pos rfl, if_pos hr]
      obtain ⟨r, rfl⟩ := Int.eq_ofNat_of_zero_le hr.1
      have hrk : r < k := by omega
      obtain ⟨o, o1, o2, o3, o4⟩ := far_all G hrk
      have hk8 := G.le
      have hmk : mkI (k : Int) = some (List.replicate k 0) := by unfold mkI; rw [if_pos (by omega), Int.toNat_natCast]
      have hgr : ((List.replicate k (0 : Int)).set r (-1)).getD r 0 = -1 := by rw [getD_set _ _ _ _ _ (by simpa using hrk), if_pos rfl]
      obtain ⟨up, u1, u2⟩ := ups_L1 G hrk o2 o3 300 0 ((List.replicate k 0).set r (-1)) (by have := G.len; omega) (by omega) (by simp) hgr (fun x u q _ _ hq => by omega)
      rw [o1, Option.bind_some, if_neg (show ¬ (((0 : Int) != 0) = true) by decide), hmk, Option.bind_some, st_nat (by simpa using hrk), Option.bind_some, show common_Ups_L1 300 l o 300 0 ((List.replicate k 0).set r (-1)) = some up from u1, Option.bind_some]
      exact ⟨up, rfl, fun h => absurd rfl h, fun _ => ⟨k, r, G, rfl, rfl, hrk, u2⟩⟩
    · rw [decide_eq_false hr, if_neg (by simp), if_neg hr]
      exact ⟨[], rfl, fun _ => rfl, fun h => by omega⟩
  · rw [if_pos (by simpa using he), if_pos he]
    exact ⟨[], rfl, fun _ => rfl, fun h => absurd h he⟩
theorem dst_lt8 {k r v : Nat} {l : List (Int × Int)} (G : Good k l) (hr : r < k) (hv : v < k) : dst k l r v < 8 := by
  have T := tr_of G
  have : ∀ n v, v < k → dst k l r v = n → ∃ vs : List Nat, vs.Nodup ∧ vs.length = n + 1 ∧ ∀ z ∈ vs, z < k ∧ dst k l r z ≤ n := by
    intro n
    induction n with
    | zero => intro v hv h; exact ⟨[v], by simp, rfl, fun z hz => by rw [List.mem_singleton.1 hz]; exact ⟨hv, by omega⟩⟩
    | succ n ih =>
      intro v hv h
      have hne : v ≠ r := fun e => by subst e; rw [T.zero v hv] at h; omega
      obtain ⟨u, hu⟩ := T.up_ex hr hv hne
      obtain ⟨vs, v1, v2, v3⟩ := ih u (T.up_lt hu) (by have := hu.2; omega)
      refine ⟨v :: vs, List.nodup_cons.2 ⟨fun hm => ?_, v1⟩, by rw [List.length_cons, v2], fun z hz => ?_⟩
      · have := (v3 v hm).2; omega
      · rcases List.mem_cons.1 hz with rfl | hz
        · exact ⟨hv, by omega⟩
        · have := v3 z hz; exact ⟨this.1, by omega⟩
  obtain ⟨vs, v1, v2, v3⟩ := this _ v hv rfl
  have := nodup_lt k vs v1 (fun z hz => (v3 z hz).1)
  have := G.le
  omega
theorem dst_lt {k r v : Nat} {l : List (Int × Int)} (G : Good k l) (hr : r < k) (hv : v < k) : dst k l r v < 100000 := by
  have := dst_lt8 G hr hv; omega
/-! ### ways -/
theorem way_L1 {k r : Nat} {l : List (Int × Int)} {G : Good k l} {up : List Int} (hr : r < k) (hU : UpL G r up) {v : Nat} {w : List Int} (h : (tr_of G).Way r v w) : ∀ (g : Nat) (out : List Int), v < k → w.length < g → out.length + w.length < 1000 →
    common_Way_L1 300 up g out (v : Int) = some (out ++ w, -1) := by
  induction h with
  | root =>
    intro g out hv hg ho
    simp at hg ho
    obtain ⟨g, rfl⟩ : ∃ g', g = g' + 2 := ⟨g - 2, by omega⟩
    have hul := hU.len
    rw [common_Way_L1_s, if_pos (by omega)]
    unfold app
    rw [if_pos (by omega), Option.bind_some, ix_at 0 (by omega), Option.bind_some, hU.root, common_Way_L1_s, if_neg (by omega)]
  | @step v u w hu hw ih =>
    intro g out hv hg ho
    rw [List.length_cons] at hg ho
    obtain ⟨g, rfl⟩ : ∃ g', g = g' + 1 := ⟨g - 1, by omega⟩
    have hul := hU.len
    rw [common_Way_L1_s, if_pos (by omega)]
    unfold app
    rw [if_pos (by omega), Option.bind_some, ix_at 0 (by omega), Option.bind_some, hU.at_ v u hv hu, ih g (out ++ [(v : Int)]) ((tr_of G).up_lt hu) (by omega) (by rw [List.length_append]; simp; omega)]
    simp
theorem in2 {n a b : Int} : allIn [a, b] 0 (n - 1) = decide ((0 ≤ a ∧ a ≤ n - 1) ∧ (0 ≤ b ∧ b ≤ n - 1)) := by
  unfold allIn
  by_cases h1 : 0 ≤ a ∧ a ≤ n - 1 <;> by_cases h2 : 0 ≤ b ∧ b ≤ n - 1 <;> simp [h1, h2] <;> omega
noncomputable def errW (n : Int) (l : List (Int × Int)) (a b : Int) : Int := if errT n l ≠ 0 then errT n l else if (0 ≤ a ∧ a ≤ n - 1) ∧ (0 ≤ b ∧ b ≤ n - 1) then 0 else 1
theorem way_ev {n : Int} {l : List (Int × Int)} {a b : Int} (hg : good n l) : ∃ w, common_Way 300 n l a b = some (w, errW n l a b) ∧ (errW n l a b ≠ 0 → w = []) ∧
    (errW n l a b = 0 → ∃ (k x y : Nat) (G : Good k l), n = k ∧ a = x ∧ b = y ∧ x < k ∧ y < k ∧ (tr_of G).Way y x w) := by
  unfold common_Way errW
  rw [tree_ev hg, Option.bind_some]
  by_cases he : errT n l = 0
  · rw [he, if_neg (show ¬ (((0 : Int) != 0) = true) by decide), if_neg (show ¬ ((0 : Int) ≠ 0) by simp), good_w hg he, core_All_ev 0 (n - 1) (show [a, b].length < 300 by simp) (show [a, b].length < 9223372036854775807 by simp), Option.bind_some, in2]
    by_cases hr : (0 ≤ a ∧ a ≤ n - 1) ∧ (0 ≤ b ∧ b ≤ n - 1)
    · rw [decide_eq_true hr, if_pos rfl, if_pos hr]
      obtain ⟨up, u1, u2, u3⟩ := ups_ev (root := b) hg
      have hU0 : errU n l b = 0 := by unfold errU; rw [if_neg (by simpa using he), if_pos hr.2]
      obtain ⟨k, y, G, rfl, rfl, hy, hU⟩ := u3 hU0
      obtain ⟨x, rfl⟩ := Int.eq_ofNat_of_zero_le hr.1.1
      have hx : x < k := by omega
      obtain ⟨w, w1, w2⟩ := (tr_of G).way_ex hy _ x rfl hx
      have hk8 := G.le
      have hwl : w.length ≤ k := by
        have hnd : ∀ v w, (tr_of G).Way y v w → v < k → w.length ≤ k := by
          intro v w hw hv
          have h1 : (w.map Int.toNat).length ≤ k := by
            refine nodup_lt k _ ?_ ?_
            · refine List.pairwise_map.2 ?_
              rw [List.pairwise_iff_getElem]
              intro i j hi hj hij e
              obtain ⟨p, p1, p2, p3⟩ := (tr_of G).way_at hy hv hw i hi
              obtain ⟨q, q1, q2, q3⟩ := (tr_of G).way_at hy hv hw j hj
              rw [List.getElem?_eq_getElem hi] at p1
              rw [List.getElem?_eq_getElem hj] at q1
              injection p1 with p1; injection q1 with q1
              rw [p1, q1] at e
              have : p = q := by omega
              subst this; omega
            · intro z hz
              obtain ⟨x, hx, rfl⟩ := List.mem_map.1 hz
              obtain ⟨i, rfl, hi⟩ := ((tr_of G).way_mem hy hv hw x).1 hx
              have := hi.1; omega
          simpa using h1
        exact hnd x w w1 hx
      rw [u1, Option.bind_some, hU0, if_neg (show ¬ (((0 : Int) != 0) = true) by decide), way_L1 hy hU w1 300 [] hx (by omega) (by simp; omega), Option.bind_some]
      exact ⟨w, rfl, fun h => absurd rfl h, fun _ => ⟨k, x, y, G, rfl, rfl, rfl, hx, hy, w1⟩⟩
    · rw [decide_eq_false hr, if_neg (by simp), if_neg hr]
      exact ⟨[], rfl, fun _ => rfl, fun h => by omega⟩
  · rw [if_pos (by simpa using he), if_pos he]
    exact ⟨[], rfl, fun _ => rfl, fun h => absurd h he⟩
/-! ### whom two hang on -/
theorem of_L1 {k r : Nat} {l : List (Int × Int)} {G : Good k l} {up : List Int} (hr : r < k) (hU : UpL G r up) {v : Nat} {w : List Int} (h : (tr_of G).Way r v w) : ∀ (g s : Nat), v < k → w.length < g → s < 65536 →
    ∃ s', common_Of_L1 300 up g s (v : Int) = some (s', -1) ∧ s' < 65536 ∧ ∀ j : Nat, s'.testBit j = (s.testBit j || decide ((j : Int) ∈ w)) := by
  have hk8 := G.le
  induction h with
  | root =>
    intro g s hv hg hs
    simp at hg
    obtain ⟨g, rfl⟩ : ∃ g', g = g' + 2 := ⟨g - 2, by omega⟩
    have hul := hU.len
    refine ⟨s ||| 2 ^ r, ?_, or_pow_lt hs (by omega), fun j => ?_⟩
    · rw [common_Of_L1_s, if_pos (by omega), sWith_ev hs (by omega), Option.bind_some, ix_at 0 (by omega), Option.bind_some, hU.root, common_Of_L1_s, if_neg (by omega)]
    · rw [or_pow_bit]; congr 1; exact decide_eq_decide.2 ⟨fun e => by rw [e]; exact List.mem_singleton_self _, fun e => by have := List.mem_singleton.1 e; omega⟩
  | @step v u w hu hw ih =>
    intro g s hv hg hs
    rw [List.length_cons] at hg
    obtain ⟨g, rfl⟩ : ∃ g', g = g' + 1 := ⟨g - 1, by omega⟩
    have hul := hU.len
    obtain ⟨s', h1, h2, h3⟩ := ih g (s ||| 2 ^ v) ((tr_of G).up_lt hu) (by omega) (or_pow_lt hs (by omega))
    refine ⟨s', ?_, h2, fun j => ?_⟩
    · rw [common_Of_L1_s, if_pos (by omega), sWith_ev hs (by omega), Option.bind_some, ix_at 0 (by omega), Option.bind_some, hU.at_ v u hv hu, h1]
    · rw [h3, or_pow_bit, Bool.or_assoc]
      congr 1
      rw [← Bool.decide_or]
      refine decide_eq_decide.2 ⟨fun e => ?_, fun e => ?_⟩
      · rcases e with e | e
        · subst e; exact List.mem_cons_self
        · exact List.mem_cons_of_mem _ e
      · rcases List.mem_cons.1 e with e | e
        · left; omega
        · exact .inr e
theorem of_L2 {k r a b : Nat} {l : List (Int × Int)} {G : Good k l} {up : List Int} (hr : r < k) (ha : a < k) (hb : b < k) (hU : UpL G r up) {s : Nat} (hs : s < 65536) (hbit : ∀ j : Nat, s.testBit j = true ↔ (tr_of G).btw a r j) : ∀ (g v : Nat), dst k l r v < g → (tr_of G).btw b r v → (tr_of G).btw a b v →
    ∃ m : Nat, common_Of_L2 300 up s g (v : Int) = some (m : Int) ∧ (tr_of G).meet r a b m
  | 0, v, h, _, _ => by omega
  | g+1, v, h, h1, h2 => by
    have hk8 := G.le
    have T := tr_of G
    have hv := h1.1
    have hh : sHas s (v : Int) = some (s.testBit v) := by unfold sHas; rw [if_pos ⟨hs, by omega, by omega⟩, Int.toNat_natCast]
    rw [common_Of_L2_s, hh, Option.bind_some]
    by_cases c : (tr_of G).btw a r v
    · rw [if_pos ((hbit v).2 c)]
      exact ⟨v, rfl, h2, c, h1⟩
    · have hc : ¬ dst k l a r = dst k l a v + dst k l v r := fun e => c ⟨hv, e⟩
      have hne : v ≠ r := fun e => by subst e; exact c (T.btw_r ha hr)
      obtain ⟨u, hu⟩ := T.up_ex hr hv hne
      have hua := T.same ha hr hv hc hu
      rw [if_neg (fun e => c ((hbit v).1 e)), ix_at 0 (by have := hU.len; omega), Option.bind_some, hU.at_ v u hv hu]
      exact of_L2 hr ha hb hU hs hbit g u (by have := hu.2; omega) (T.btw_up hb hr h1 hu).1 (T.btw_sym hb ha (T.btw_up hb ha (T.btw_sym ha hb h2) hua).1)
noncomputable def errO (n : Int) (l : List (Int × Int)) (root a b : Int) : Int := if errU n l root ≠ 0 then errU n l root else if (0 ≤ a ∧ a ≤ n - 1) ∧ (0 ≤ b ∧ b ≤ n - 1) then 0 else 1
theorem of_ev {n : Int} {l : List (Int × Int)} {root a b : Int} (hg : good n l) : ∃ m, common_Of 300 n l root a b = some (m, errO n l root a b) ∧ (errO n l root a b ≠ 0 → m = 0) ∧
    (errO n l root a b = 0 → ∃ (k r x y : Nat) (G : Good k l) (q : Nat), n = k ∧ root = r ∧ a = x ∧ b = y ∧ m = q ∧ r < k ∧ x < k ∧ y < k ∧ (tr_of G).meet r x y q) := by
  unfold common_Of errO
  obtain ⟨up, u1, u2, u3⟩ := ups_ev (root := root) hg
  rw [u1, Option.bind_some]
  by_cases he : errU n l root = 0
  · obtain ⟨k, r, G, rfl, rfl, hr, hU⟩ := u3 he
    have hk8 := G.le; have hk1 := G.pos
    rw [he, if_neg (show ¬ (((0 : Int) != 0) = true) by decide), if_neg (show ¬ ((0 : Int) ≠ 0) by simp), w64 (by omega) (by omega), core_All_ev 0 ((k : Int) - 1) (show [a, b].length < 300 by simp) (show [a, b].length < 9223372036854775807 by simp), Option.bind_some, in2]
    by_cases hc : (0 ≤ a ∧ a ≤ (k : Int) - 1) ∧ (0 ≤ b ∧ b ≤ (k : Int) - 1)
    · rw [decide_eq_true hc, if_pos rfl, if_pos hc]
      obtain ⟨x, rfl⟩ := Int.eq_ofNat_of_zero_le hc.1.1
      obtain ⟨y, rfl⟩ := Int.eq_ofNat_of_zero_le hc.2.1
      have hx : x < k := by omega
      have hy : y < k := by omega
      have T := tr_of G
      obtain ⟨w, w1, w2⟩ := T.way_ex hr _ x rfl hx
      have hdl : ∀ v, v < k → dst k l r v < 299 := fun v hv => by
        obtain ⟨w', w1', w2'⟩ := T.way_ex hr _ v rfl hv
        obtain ⟨o, f1, f2⟩ := from_ev G.good G.err hr
        have : ∀ n v, v < k → dst k l r v = n → ∃ vs : List Nat, vs.Nodup ∧ vs.length = n + 1 ∧ ∀ z ∈ vs, z < k ∧ dst k l r z ≤ n := by
          intro n
          induction n with
          | zero => intro v hv h; exact ⟨[v], by simp, rfl, fun z hz => by rw [List.mem_singleton.1 hz]; exact ⟨hv, by omega⟩⟩
          | succ n ih =>
            intro v hv h
            have hne : v ≠ r := fun e => by subst e; rw [T.zero v hv] at h; omega
            obtain ⟨u, hu⟩ := T.up_ex hr hv hne
            obtain ⟨vs, v1, v2, v3⟩ := ih u (T.up_lt hu) (by have := hu.2; omega)
            refine ⟨v :: vs, List.nodup_cons.2 ⟨fun hm => ?_, v1⟩, by rw [List.length_cons, v2], fun z hz => ?_⟩
            · have := (v3 v hm).2; omega
            · rcases List.mem_cons.1 hz with rfl | hz
              · exact ⟨hv, by omega⟩
              · have := v3 z hz; exact ⟨this.1, by omega⟩
        obtain ⟨vs, v1, v2, v3⟩ := this _ v hv rfl
        have := nodup_lt k vs v1 (fun z hz => (v3 z hz).1)
        omega
      obtain ⟨s, s1, s2, s3⟩ := of_L1 hr hU w1 300 0 hx (by have := hdl x hx; omega) (by omega)
      obtain ⟨m, m1, m2⟩ := of_L2 hr hx hy hU s2 (fun j => by
        rw [s3, Nat.zero_testBit, Bool.false_or, decide_eq_true_eq, T.way_mem hr hx w1]
        constructor
        · rintro ⟨i, e, hi⟩
          have : j = i := by omega
          subst this; exact hi
        · intro h; exact ⟨j, rfl, h⟩) 300 y (by have := hdl y hy; omega) (T.btw_l hy hr) (T.btw_r hx hy)
      rw [s1, Option.bind_some, m1, Option.bind_some]
      exact ⟨m, rfl, fun h => absurd rfl h, fun _ => ⟨k, r, x, y, G, m, rfl, rfl, rfl, rfl, rfl, hr, hx, hy, m2⟩⟩
    · rw [decide_eq_false hc, if_neg (by simp), if_neg hc]
      exact ⟨0, rfl, fun _ => rfl, fun h => by omega⟩
  · rw [if_pos (by simpa using he), if_pos he]
    exact ⟨0, rfl, fun _ => rfl, fun h => absurd h he⟩
end Go.Proofs.Ytfokhmkimckdnaa
