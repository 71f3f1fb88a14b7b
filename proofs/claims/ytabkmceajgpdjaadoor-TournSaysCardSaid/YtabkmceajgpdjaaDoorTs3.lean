import Derived.Test.YtabkmceajgpdjaaDoorTs1
import Derived.Test.YtabkmceajgpdjaaDoorTs2
import Derived.Test.YtabkmceajgpdjaaDoorTe
/- what the document's Rising and Scored come to -/
set_option linter.all false
set_option maxRecDepth 100000
namespace Go.Proofs.YtabkmceajgpdjaaDoor
open Go.RowKit Go.Shelf Pl To Hs
theorem nd_len : ∀ {l l' : List Nat}, l.Nodup → (∀ x ∈ l, x ∈ l') → l.length ≤ l'.length
  | [], _, _, _ => by simp
  | a :: l, l', h, hm => by
    obtain ⟨h1, h2⟩ := List.nodup_cons.1 h
    have ha := hm a List.mem_cons_self
    have := nd_len (l' := l'.erase a) h2 fun x hx => by
      have hne : x ≠ a := fun e => h1 (e ▸ hx)
      exact (List.mem_erase_of_ne hne).2 (hm x (List.mem_cons_of_mem _ hx))
    rw [List.length_erase_of_mem ha] at this
    have := List.length_pos_of_mem ha
    rw [List.length_cons]; omega
section
variable {l : List Int}
theorem rs_L2 (hl : l.length ≤ 100) {ps : List Nat} {fl : List Bool} (hf : fl.length = l.length) (hfl : ∀ x, x < l.length → fl.getD x false = decide (x ∈ ps)) : ∀ (g i : Nat) (v : Int), l.length < i + g → i ≤ l.length →
    ((v = -1 ∧ ∀ x, x < i → x ∈ ps) ∨ ∃ b : Nat, v = b ∧ b < i ∧ b ∉ ps ∧ ∀ x, x < i → x ∉ ps → l.getD b 0 ≤ l.getD x 0) →
    ∃ r x, R1_Rising_L2 300 l fl g v (i : Int) = some (r, x) ∧ ((r = -1 ∧ ∀ x, x < l.length → x ∈ ps) ∨ ∃ b : Nat, r = b ∧ b < l.length ∧ b ∉ ps ∧ ∀ x, x < l.length → x ∉ ps → l.getD b 0 ≤ l.getD x 0)
  | 0, i, v, h, hi, _ => by omega
  | g+1, i, v, h, hi, hv => by
    rw [R1_Rising_L2_s]
    by_cases c : i < l.length
    · rw [if_pos (by omega), ix_at false (by omega : i < fl.length), Option.bind_some, hfl i c, w64n (by omega)]
      by_cases hm : i ∈ ps
      · rw [decide_eq_true hm, if_pos rfl, Option.bind_some, if_neg (by decide)]
        refine rs_L2 hl hf hfl g (i+1) v (by omega) (by omega) ?_
        rcases hv with ⟨e, q⟩ | ⟨b, e, b1, b2, b3⟩
        · refine .inl ⟨e, fun x hx => ?_⟩
          by_cases hxi : x = i
          · subst hxi; exact hm
          · exact q x (by omega)
        · refine .inr ⟨b, e, by omega, b2, fun x hx hxs => ?_⟩
          by_cases hxi : x = i
          · subst hxi; exact absurd hm hxs
          · exact b3 x (by omega) hxs
      · rw [decide_eq_false hm, if_neg (by decide)]
        rcases hv with ⟨e, q⟩ | ⟨b, e, b1, b2, b3⟩
        · rw [if_pos (by omega), Option.bind_some, if_pos rfl]
          refine rs_L2 hl hf hfl g (i+1) (i : Int) (by omega) (by omega) (.inr ⟨i, rfl, by omega, hm, fun x hx hxs => ?_⟩)
          by_cases hxi : x = i
          · subst hxi; exact Int.le_refl _
          · exact absurd (q x (by omega)) hxs
        · subst e
          rw [if_neg (by omega), ix_at (0 : Int) c, Option.bind_some, ix_at (0 : Int) (by omega : b < l.length), Option.bind_some]
          by_cases hlt : l.getD i 0 < l.getD b 0
          · rw [if_pos hlt, Option.bind_some, if_pos rfl]
            refine rs_L2 hl hf hfl g (i+1) (i : Int) (by omega) (by omega) (.inr ⟨i, rfl, by omega, hm, fun x hx hxs => ?_⟩)
            by_cases hxi : x = i
            · subst hxi; exact Int.le_refl _
            · have := b3 x (by omega) hxs; omega
          · rw [if_neg hlt, Option.bind_some, if_neg (by decide)]
            refine rs_L2 hl hf hfl g (i+1) (b : Int) (by omega) (by omega) (.inr ⟨b, rfl, by omega, b2, fun x hx hxs => ?_⟩)
            by_cases hxi : x = i
            · subst hxi; omega
            · exact b3 x (by omega) hxs
    · have : i = l.length := by omega
      subst this
      rw [if_neg (by omega)]
      exact ⟨_, _, rfl, hv⟩
theorem rs_L1 (hl : l.length ≤ 100) : ∀ (g : Nat) (ps : List Nat) (fl : List Bool), l.length < ps.length + g → ps.length ≤ l.length → ps.Nodup → (∀ p ∈ ps, p < l.length) → fl.length = l.length → (∀ x, x < l.length → fl.getD x false = decide (x ∈ ps)) →
    (ps.map fun i => l.getD i 0).Pairwise (· ≤ ·) → (∀ p ∈ ps, ∀ x, x < l.length → x ∉ ps → l.getD p 0 ≤ l.getD x 0) →
    ∃ (qs : List Nat) (y : List Bool × Int), R1_Rising_L1 300 l g (ps.map fun i => l.getD i 0) fl (ps.length : Int) = some (qs.map fun i => l.getD i 0, y) ∧ qs.length = l.length ∧ qs.Nodup ∧ (∀ p ∈ qs, p < l.length) ∧ (qs.map fun i => l.getD i 0).Pairwise (· ≤ ·)
  | 0, ps, fl, h, hp, _, _, _, _, _, _ => by omega
  | g+1, ps, fl, h, hp, hn, hps, hf, hfl, hsrt, hlow => by
    rw [R1_Rising_L1_s]
    by_cases c : ps.length < l.length
    · obtain ⟨r, x, r1, r2⟩ := rs_L2 hl hf hfl 300 0 (-1) (by omega) (by omega) (.inl ⟨rfl, fun x hx => by omega⟩)
      rw [if_pos (by omega), show R1_Rising_L2 300 l fl 300 (-1) 0 = _ from r1, Option.bind_some]
      dsimp only
      rcases r2 with ⟨_, q⟩ | ⟨b, rfl, b1, b2, b3⟩
      · have := nd_len (List.nodup_range (n := l.length)) (l' := ps) fun x hx => q x (List.mem_range.1 hx)
        rw [List.length_range] at this; omega
      · have ha : app (ps.map fun i => l.getD i 0) (l.getD b 0) = some ((ps ++ [b]).map fun i => l.getD i 0) := by
          unfold app
          rw [if_pos (by rw [List.length_map]; omega), List.map_append]; rfl
        rw [st_nat (by omega : b < fl.length), Option.bind_some, ix_at (0 : Int) b1, Option.bind_some, ha, Option.bind_some, w64n (by omega)]
        have hl1 : (ps ++ [b]).length = ps.length + 1 := by simp
        have := rs_L1 hl g (ps ++ [b]) (fl.set b true) (by omega) (by omega)
          (by rw [List.nodup_append]; exact ⟨hn, by simp, fun x hx y hy e => by rw [List.mem_singleton.1 hy] at e; subst e; exact b2 hx⟩)
          (fun p hp => by rcases List.mem_append.1 hp with q | q
                          · exact hps p q
                          · rw [List.mem_singleton.1 q]; exact b1)
          (by rw [List.length_set]; exact hf)
          (fun x hx => by
            rw [List.getD_eq_getElem?_getD, List.getElem?_set]
            by_cases e : b = x
            · subst e
              rw [if_pos rfl, if_pos (by omega), decide_eq_true (List.mem_append_right _ (List.mem_singleton.2 rfl))]; rfl
            · rw [if_neg e, ← List.getD_eq_getElem?_getD, hfl x hx, decide_eq_decide, List.mem_append, List.mem_singleton]
              exact ⟨.inl, fun h => h.resolve_right fun q => e q.symm⟩)
          (by
            rw [List.map_append, List.pairwise_append]
            refine ⟨hsrt, by simp, fun x hx y hy => ?_⟩
            obtain ⟨p, hp, rfl⟩ := List.mem_map.1 hx
            have hy' : y = l.getD b 0 := by simpa using hy
            rw [hy']
            exact hlow p hp b b1 b2)
          (fun p hp x hx hxs => by
            have hxp : x ∉ ps := fun q => hxs (List.mem_append_left _ q)
            rcases List.mem_append.1 hp with q | q
            · exact hlow p q x hx hxp
            · rw [List.mem_singleton.1 q]; exact b3 x hx hxp)
        rw [hl1] at this
        exact this
    · rw [if_neg (by omega)]
      exact ⟨ps, _, rfl, by omega, hn, hps, hsrt⟩
theorem rising_ev (hl : l.length ≤ 100) : ∃ r, R1_Rising 300 l = some r ∧ r.Perm l ∧ r.Pairwise (· ≤ ·) := by
  have hmk : mkB (l.length : Int) = some (List.replicate l.length false) := by unfold mkB; rw [if_pos (by omega), Int.toNat_natCast]
  obtain ⟨qs, y, q1, q2, q3, q4, q5⟩ := rs_L1 hl 300 [] (List.replicate l.length false) (by simp; omega) (by simp) List.nodup_nil (fun p h => by cases h) (by simp) (fun x hx => by simp [List.getD, hx]) (by simp) (fun p h => by cases h)
  refine ⟨qs.map fun i => l.getD i 0, ?_, ?_, q5⟩
  · unfold R1_Rising
    rw [hmk, Option.bind_some, show R1_Rising_L1 300 l 300 [] (List.replicate l.length false) 0 = _ from q1, Option.bind_some]
  · have hp : qs.Perm (List.range l.length) := by
      refine (List.perm_ext_iff_of_nodup q3 List.nodup_range).2 fun x => ⟨fun h => List.mem_range.2 (q4 x h), fun h => ?_⟩
      apply Classical.byContradiction
      intro hx
      have := nd_len (l := x :: qs) (l' := List.range l.length) (List.nodup_cons.2 ⟨hx, q3⟩) fun y hy => by
        rcases List.mem_cons.1 hy with rfl | hy
        · exact h
        · exact List.mem_range.2 (q4 y hy)
      rw [List.length_range, List.length_cons] at this; omega
    have he : (List.range l.length).map (fun i => l.getD i 0) = l := by
      apply List.ext_getElem
      · simp
      · intro i h1 h2
        simp [List.getD, h2]
    have := hp.map fun i => l.getD i 0
    rw [he] at this
    exact this
/-! ### Scored -/
theorem scd_L1 (rec : List Int → Option Bool) {R : List Int} {t : Nat} (hR : R.length ≤ 100) (hb : ∀ x ∈ R, -1000 ≤ x ∧ x ≤ 1000) {tt : Int} (htt : tt = t) : ∀ (g i : Nat), R.length < i + g → i ≤ R.length → ∀ e : Int,
    ∃ x, R3_Scored_L1 300 rec (R ++ [e]) tt g ((List.range i).map fun j => if j < t then R.getD j 0 else R.getD j 0 - 1) (i : Int) = some ((List.range R.length).map fun j => if j < t then R.getD j 0 else R.getD j 0 - 1, x)
  | 0, i, h, hi, e => by omega
  | g+1, i, h, hi, e => by
    have hw : wrap64 (((R ++ [e]).length : Int) - 1) = (R.length : Int) := by
      rw [show (R ++ [e]).length = R.length + 1 by simp, w64 (by omega) (by omega)]; omega
    rw [R3_Scored_L1_s, hw]
    by_cases c : i < R.length
    · have hix : ix (R ++ [e]) (i : Int) = some (R.getD i 0) := by
        rw [ix_at (0 : Int) (by rw [List.length_append]; omega)]
        congr 1
        simp [List.getD, List.getElem?_append_left c]
      have hbi : -1000 ≤ R.getD i 0 ∧ R.getD i 0 ≤ 1000 := by
        have : R.getD i 0 = R[i] := by simp [List.getD, c]
        rw [this]; exact hb _ (List.getElem_mem c)
      have happ : ∀ z : Int, app ((List.range i).map fun j => if j < t then R.getD j 0 else R.getD j 0 - 1) z = some (((List.range i).map fun j => if j < t then R.getD j 0 else R.getD j 0 - 1) ++ [z]) := fun z => by
        unfold app; rw [if_pos (by simp; omega)]
      obtain ⟨x, hx⟩ := scd_L1 rec hR hb htt g (i+1) (by omega) (by omega) e
      rw [List.range_succ, List.map_append] at hx
      refine ⟨x, ?_⟩
      rw [if_pos (by omega)]
      by_cases ct : i < t
      · rw [if_pos (by omega), hix, Option.bind_some, happ, Option.bind_some, w64n (by omega)]
        simp only [List.map_cons, List.map_nil, if_pos ct] at hx
        exact hx
      · rw [if_neg (by omega), hix, Option.bind_some, w64 (by omega) (by omega), happ, Option.bind_some, w64n (by omega)]
        simp only [List.map_cons, List.map_nil, if_neg ct] at hx
        exact hx
    · have : i = R.length := by omega
      subst this
      rw [if_neg (by omega)]; exact ⟨_, rfl⟩
theorem scored_ev : ∀ (n d : Nat) (l : List Int), l.length = n → n < d → n ≤ 50 → (∀ x ∈ l, -(100 - (n : Int)) ≤ x ∧ x ≤ 100) → ∃ b, R3_Scored 300 d l = some b ∧ (b = true ↔ LI l)
  | n, 0, l, h, hd, _, _ => by omega
  | 0, d+1, l, h, hd, _, _ => by
    rw [R3_Scored_s, if_pos (by rw [h]; rfl)]
    have : l = [] := List.length_eq_zero_iff.1 h
    subst this
    refine ⟨true, rfl, fun _ => ⟨fun u v hp => ?_, rfl⟩, fun _ => rfl⟩
    have h1 : u ++ v = [] := List.Perm.eq_nil hp
    rw [(List.append_eq_nil_iff.1 h1).1]; exact Int.le_refl _
  | n+1, d+1, l, h, hd, h50, hb => by
    obtain ⟨r, r1, r2, r3⟩ := rising_ev (l := l) (by omega)
    have hrl : r.length = n + 1 := by rw [r2.length_eq, h]
    obtain ⟨R, e, rfl⟩ : ∃ R e, r = R ++ [e] := ⟨r.dropLast, r.getLast (fun q => by rw [q] at hrl; cases hrl), (List.dropLast_concat_getLast _).symm⟩
    have hRl : R.length = n := by rw [List.length_append] at hrl; simp at hrl; exact hrl
    have hbr : ∀ x ∈ R ++ [e], -(100 - ((n + 1 : Nat) : Int)) ≤ x ∧ x ≤ 100 := fun x hx => hb x (r2.mem_iff.1 hx)
    have hw : wrap64 (((R ++ [e]).length : Int) - 1) = (R.length : Int) := by
      rw [show (R ++ [e]).length = R.length + 1 by simp, w64 (by omega) (by omega)]; omega
    have hix : ix (R ++ [e]) (R.length : Int) = some e := by
      rw [ix_at (0 : Int) (by rw [List.length_append]; simp)]
      simp [List.getD]
    rw [R3_Scored_s, if_neg (by rw [beq_iff_eq, h]; omega), r1, Option.bind_some, hw, hix, Option.bind_some]
    have hLI : LI (R ++ [e]) ↔ LI l := ⟨LI_perm r2, LI_perm r2.symm⟩
    by_cases ce : 0 ≤ e ∧ e ≤ (R.length : Int)
    · obtain ⟨t, ht⟩ : ∃ t : Nat, e = t := ⟨e.toNat, by omega⟩
      rw [if_neg (by omega), if_neg (by omega), Option.bind_some, if_neg (by decide)]
      obtain ⟨x, hx⟩ := scd_L1 (R3_Scored 300 d) (R := R) (t := t) (by omega) (fun x hx => by have := hbr x (List.mem_append_left _ hx); omega) ht 300 0 (by omega) (by omega) e
      rw [show R3_Scored_L1 300 (R3_Scored 300 d) (R ++ [e]) e 300 [] 0 = _ from hx, Option.bind_some]
      dsimp only
      have hsplit : ((List.range R.length).map fun j => if j < t then R.getD j 0 else R.getD j 0 - 1) = R.take t ++ (R.drop t).map fun y => y - 1 := by
        apply List.ext_getElem
        · simp; omega
        · intro i h1 h2
          have hi : i < R.length := by simpa using h1
          rw [List.getElem_map, List.getElem_range]
          by_cases c : i < t
          · rw [if_pos c, List.getElem_append_left (by rw [List.length_take]; omega), List.getElem_take]
            simp [List.getD, hi]
          · rw [if_neg c, List.getElem_append_right (by rw [List.length_take]; omega), List.getElem_map, List.getElem_drop]
            have : t + (i - (R.take t).length) = i := by rw [List.length_take]; omega
            rw [show R.getD i 0 = R[i] by simp [List.getD, hi]]
            refine congrArg (fun z : Int => z - 1) (Option.some.inj ?_)
            rw [← List.getElem?_eq_getElem hi, ← List.getElem?_eq_getElem (by rw [this]; exact hi), this]
      obtain ⟨b, b1, b2⟩ := scored_ev n d (R.take t ++ (R.drop t).map fun y => y - 1) (by simp; omega) (by omega) (by omega) fun x hx => by
        rcases List.mem_append.1 hx with q | q
        · have := hbr x (List.mem_append_left _ (List.mem_of_mem_take q)); omega
        · obtain ⟨y, hy, rfl⟩ := List.mem_map.1 q
          have := hbr y (List.mem_append_left _ (List.mem_of_mem_drop hy)); omega
      rw [hsplit, b1, Option.bind_some]
      refine ⟨b, rfl, ?_⟩
      rw [b2, ← hLI]
      have htl : (R.take t).length = t := by rw [List.length_take]; omega
      have hR : R.take t ++ R.drop t ++ [((R.take t).length : Int)] = R ++ [e] := by rw [List.take_append_drop, htl, ht]
      have := reduce (X := R.take t) (Y := R.drop t) (by rw [hR]; exact r3)
      rw [hR] at this
      exact this.symm
    · refine ⟨false, ?_, ⟨(fun q => by cases q), fun q => absurd (range_top r3 (hLI.2 q)) ce⟩⟩
      by_cases c0 : e < 0
      · rw [if_pos c0]; rfl
      · rw [if_neg c0, if_pos (by omega)]; rfl
end
end Go.Proofs.YtabkmceajgpdjaaDoor
