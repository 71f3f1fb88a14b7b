import Derived.Test.YtgnbholhgcbhfaaNf
import Derived.Test.YtgnbholhgcbhfaaT4
import Derived.Test.YtgnbholhgcbhfaaFwT
/- TreeSame: the same name just if the points of one can stand for those of the other one -/
set_option linter.all false
set_option maxRecDepth 100000
namespace Go.Proofs.Ytgnbholhgcbhfaa
open Go.RowKit Pl
section
variable {k : Nat} {l m : List (Int × Int)}
theorem bes_adj (hin : InL k l) (a b : Nat) : besL l (a : Int) (b : Int) = adjB k l a b := Bool.eq_iff_iff.2 (besL_ad hin a b)
/-- an order begun can be ended -/
def Ext (k : Nat) (l m : List (Int × Int)) (o : List Nat) : Prop := ∃ φ, Iso k l m φ ∧ ∀ t, t < o.length → φ t = o.getD t 0
/-- what is begun fits -/
structure Pok (k : Nat) (l m : List (Int × Int)) (o : List Nat) : Prop where
  nd : o.Nodup
  lt : ∀ x ∈ o, x < k
  keep : ∀ s t, s < o.length → t < o.length → adjB k l s t = adjB k m (o.getD s 0) (o.getD t 0)
def fitc (k : Nat) (l m : List (Int × Int)) (o : List Nat) (c : Nat) : Bool := (List.range o.length).all fun t => adjB k l o.length t == adjB k m c (o.getD t 0)
theorem ht_L2 (rec : Int → List (Int × Int) → List (Int × Int) → List Int → Option Bool) (hin : InL k l) (hin' : InL k m) (hl : l.length < 300) (hm : m.length < 300) {o : List Nat} (ho : o.length ≤ 100) (c : Nat) : ∀ (g j : Nat) (ok : Bool), o.length < j + g → j ≤ o.length →
    ∃ x, L3_fits_L2 300 rec l m (intl o) (o.length : Int) (c : Int) g ok (j : Int) = some (ok && (List.range' j (o.length - j)).all fun t => adjB k l o.length t == adjB k m c (o.getD t 0), x)
  | 0, j, ok, h, hj => by omega
  | g+1, j, ok, h, hj => by
    rw [L3_fits_L2_s]
    by_cases q : j < o.length
    · rw [if_pos (by omega)]
      cases ok with
      | false =>
        rw [if_neg (by decide), Option.bind_some, if_neg (by decide)]; exact ⟨(j : Int), by simp⟩
      | true =>
        have h1 : ix (intl o) (j : Int) = some ((o.getD j 0 : Nat) : Int) := by unfold ix intl; rw [if_pos (by omega), Int.toNat_natCast, List.getElem?_map, List.getElem?_eq_getElem q]; simp [List.getD, q]
        rw [if_pos rfl, Option.bind_some, if_pos rfl, R1_Beside_ev _ _ (by omega) (by omega), Option.bind_some, h1, Option.bind_some, R1_Beside_ev _ _ (by omega) (by omega), Option.bind_some, bes_adj hin, bes_adj hin', w64n (by omega),
          show o.length - j = (o.length - (j+1)) + 1 by omega, List.range'_succ, List.all_cons]
        have hb : (if (adjB k l o.length j == adjB k m c (o.getD j 0)) = true then some true else some false) = some (adjB k l o.length j == adjB k m c (o.getD j 0)) := by
          cases (adjB k l o.length j == adjB k m c (o.getD j 0)) <;> rfl
        rw [hb, Option.bind_some]
        obtain ⟨x, hx⟩ := ht_L2 rec hin hin' hl hm ho c g (j+1) (adjB k l o.length j == adjB k m c (o.getD j 0)) (by omega) (by omega)
        exact ⟨x, by rw [hx, Bool.true_and]⟩
    · have : j = o.length := by omega
      subst this
      rw [if_neg (by omega), Option.bind_some, if_neg (by decide), Nat.sub_self]; exact ⟨(o.length : Int), by simp⟩
theorem ht_L1 {rec : Int → List (Int × Int) → List (Int × Int) → List Int → Option Bool} (hk : k ≤ 8) (hin : InL k l) (hin' : InL k m) (hl : l.length < 300) (hm : m.length < 300) {o : List Nat} (ho : o.length < k)
    (hrec : ∀ c, c < k → c ∉ o → fitc k l m o c = true → (Ext k l m (o ++ [c]) → rec (k : Int) l m (intl (o ++ [c])) = some true) ∧ (¬ Ext k l m (o ++ [c]) → rec (k : Int) l m (intl (o ++ [c])) = some false)) :
    ∀ (g j : Nat), k < j + g → j ≤ k →
    ((∃ c, j ≤ c ∧ c < k ∧ c ∉ o ∧ fitc k l m o c = true ∧ Ext k l m (o ++ [c])) ∧ L3_fits_L1 300 rec (k : Int) l m (intl o) (o.length : Int) g (j : Int) = some (.inr true)) ∨
    ((¬ ∃ c, j ≤ c ∧ c < k ∧ c ∉ o ∧ fitc k l m o c = true ∧ Ext k l m (o ++ [c])) ∧ ∃ x, L3_fits_L1 300 rec (k : Int) l m (intl o) (o.length : Int) g (j : Int) = some (.inl x))
  | 0, j, h, hj => by omega
  | g+1, j, h, hj => by
    rw [L3_fits_L1_s]
    by_cases q : j < k
    · have hil : (intl o).length = o.length := by simp [intl]
      obtain ⟨x, hx⟩ := ht_L2 rec hin hin' hl hm (o := o) (by omega) j 300 0 (decide (j ∉ o)) (by omega) (Nat.zero_le _)
      rw [Nat.sub_zero, ← List.range_eq_range'] at hx
      have hmem : ((j : Nat) : Int) ∈ intl o ↔ j ∈ o := by
        unfold intl; rw [List.mem_map]
        exact ⟨fun ⟨y, hy, e⟩ => by have : y = j := by omega
                                    rw [← this]; exact hy, fun h => ⟨j, h, rfl⟩⟩
      have hb1 : ((some (decide (((j : Nat) : Int) ∈ intl o))).bind fun y2 => if y2 = true then some false else some true) = some (decide (j ∉ o)) := by
        rw [Option.bind_some]
        by_cases e : j ∈ o
        · rw [decide_eq_true (hmem.2 e), if_pos rfl, decide_eq_false (by simpa using e)]
        · rw [decide_eq_false (fun h => e (hmem.1 h)), if_neg (by decide), decide_eq_true e]
      rw [if_pos (by omega), R1_Has_ev _ (by omega) (by omega), hb1, Option.bind_some, show L3_fits_L2 300 rec l m (intl o) (o.length : Int) (j : Int) 300 _ 0 = _ from hx, Option.bind_some, w64n (by omega)]
      have hf : ((List.range o.length).all fun t => adjB k l o.length t == adjB k m j (o.getD t 0)) = fitc k l m o j := rfl
      rw [hf]
      dsimp only
      have next : ∀ (hno : ¬ (j ∉ o ∧ fitc k l m o j = true ∧ Ext k l m (o ++ [j]))),
        ((∃ c, j ≤ c ∧ c < k ∧ c ∉ o ∧ fitc k l m o c = true ∧ Ext k l m (o ++ [c])) ∧ L3_fits_L1 300 rec (k : Int) l m (intl o) (o.length : Int) g ((j + 1 : Nat) : Int) = some (.inr true)) ∨
        ((¬ ∃ c, j ≤ c ∧ c < k ∧ c ∉ o ∧ fitc k l m o c = true ∧ Ext k l m (o ++ [c])) ∧ ∃ x, L3_fits_L1 300 rec (k : Int) l m (intl o) (o.length : Int) g ((j + 1 : Nat) : Int) = some (.inl x)) := fun hno => by
        rcases ht_L1 hk hin hin' hl hm ho hrec g (j+1) (by omega) (by omega) with ⟨⟨c, c1, c2, c3⟩, r⟩ | ⟨hn, r⟩
        · exact .inl ⟨⟨c, by omega, c2, c3⟩, r⟩
        · refine .inr ⟨fun ⟨c, c1, c2, c3⟩ => ?_, r⟩
          by_cases e : c = j
          · subst e; exact hno c3
          · exact hn ⟨c, by omega, c2, c3⟩
      by_cases c1 : j ∈ o
      · rw [decide_eq_false (by simpa using c1), Bool.false_and, if_neg (by decide), Option.bind_some, if_neg (by decide)]
        exact next fun q => q.1 c1
      · rw [decide_eq_true c1, Bool.true_and]
        cases c2 : fitc k l m o j with
        | false =>
          rw [if_neg (by decide), Option.bind_some, if_neg (by decide)]
          exact next fun q => by rw [c2] at q; exact absurd q.2.1 (by decide)
        | true =>
          have hbh : R1_Behind 300 (intl o) (j : Int) = some (intl (o ++ [j])) := by
            have a1 : appL [] (intl o) = some (intl o) := by unfold appL; rw [if_pos (by rw [hil]; simp; omega)]; rfl
            have a2 : app (intl o) (j : Int) = some (intl (o ++ [j])) := by unfold app; rw [if_pos (by omega)]; simp [intl]
            unfold R1_Behind
            rw [a1, Option.bind_some, a2, Option.bind_some]
          obtain ⟨r1, r2⟩ := hrec j q c1 c2
          rw [if_pos rfl, hbh, Option.bind_some]
          by_cases e : Ext k l m (o ++ [j])
          · rw [r1 e, Option.bind_some, if_pos rfl, Option.bind_some, if_pos rfl]
            exact .inl ⟨⟨j, Nat.le_refl _, q, c1, c2, e⟩, rfl⟩
          · rw [r2 e, Option.bind_some, if_neg (by decide), Option.bind_some, if_neg (by decide)]
            exact next fun q => e q.2.2
    · rw [if_neg (by omega)]
      exact .inr ⟨fun ⟨c, c1, c2, _⟩ => by omega, _, rfl⟩
theorem getD_snoc {o : List Nat} {c t : Nat} : (o ++ [c]).getD t 0 = if t < o.length then o.getD t 0 else if t = o.length then c else 0 := by
  rw [List.getD_eq_getElem?_getD, List.getD_eq_getElem?_getD]
  by_cases h : t < o.length
  · rw [if_pos h, List.getElem?_append_left h]
  · rw [if_neg h]
    by_cases e : t = o.length
    · subst e; simp
    · rw [if_neg e, List.getElem?_eq_none (by simp; omega)]; rfl
theorem ht_ev (G : Good k l) (G' : Good k m) : ∀ (d : Nat) (o : List Nat), k < o.length + d → o.length ≤ k → Pok k l m o →
    (Ext k l m o → L3_fits 300 d (k : Int) l m (intl o) = some true) ∧ (¬ Ext k l m o → L3_fits 300 d (k : Int) l m (intl o) = some false)
  | 0, o, h, hle, _ => by omega
  | d+1, o, h, hle, hp => by
    have hk := G.le; have hl := G.len; have hl' := G'.len
    have hil : (intl o).length = o.length := by simp [intl]
    rw [L3_fits_s, hil]
    by_cases e : o.length = k
    · have hE : Ext k l m o := by
        have hgm : ∀ x, x < k → o.getD x 0 ∈ o := fun x hx => by rw [List.getD_eq_getElem?_getD, List.getElem?_eq_getElem (by omega)]; exact List.getElem_mem _
        refine ⟨fun t => o.getD t 0, ⟨fun x hx => hp.lt _ (hgm x hx), fun x y hx hy exy => ?_, fun x y hx hy => hp.keep x y (by omega) (by omega)⟩, fun _ _ => rfl⟩
        have exy : o.getD x 0 = o.getD y 0 := exy
        rw [List.getD_eq_getElem?_getD, List.getD_eq_getElem?_getD, List.getElem?_eq_getElem (by omega), List.getElem?_eq_getElem (by omega)] at exy
        have exy : o[x]'(by omega) = o[y]'(by omega) := exy
        have hpw := List.pairwise_iff_getElem.1 hp.nd
        rcases Nat.lt_trichotomy x y with c | c | c
        · exact absurd exy (hpw x y (by omega) (by omega) c)
        · exact c
        · exact absurd exy.symm (hpw y x (by omega) (by omega) c)
      rw [if_pos (by rw [beq_iff_eq]; omega)]
      exact ⟨fun _ => rfl, fun q => absurd hE q⟩
    · have hlt : o.length < k := by omega
      rw [if_neg (by rw [beq_iff_eq]; omega)]
      have hrec : ∀ c, c < k → c ∉ o → fitc k l m o c = true → (Ext k l m (o ++ [c]) → L3_fits 300 d (k : Int) l m (intl (o ++ [c])) = some true) ∧ (¬ Ext k l m (o ++ [c]) → L3_fits 300 d (k : Int) l m (intl (o ++ [c])) = some false) := fun c hc hco hfc => by
        refine ht_ev G G' d (o ++ [c]) (by rw [List.length_append]; simp; omega) (by rw [List.length_append]; simp; omega) ⟨?_, fun x hx => ?_, fun s t hs ht => ?_⟩
        · rw [List.nodup_append]
          exact ⟨hp.nd, by simp, fun x hx y hy e => by rw [List.mem_singleton.1 hy] at e; subst e; exact hco hx⟩
        · rcases List.mem_append.1 hx with hx | hx
          · exact hp.lt x hx
          · rw [List.mem_singleton.1 hx]; exact hc
        · rw [List.length_append, List.length_singleton] at hs ht
          have hfa : ∀ t, t < o.length → adjB k l o.length t = adjB k m c (o.getD t 0) := fun t ht => by
            unfold fitc at hfc
            have := List.all_eq_true.1 hfc t (List.mem_range.2 ht)
            exact eq_of_beq this
          rw [getD_snoc, getD_snoc]
          by_cases h1 : s < o.length <;> by_cases h2 : t < o.length
          · rw [if_pos h1, if_pos h2]; exact hp.keep s t h1 h2
          · have : t = o.length := by omega
            subst this
            rw [if_pos h1, if_neg h2, if_pos rfl, Nm.adj_comm (tr_of G) adjB_iff, Nm.adj_comm (tr_of G') adjB_iff]
            exact hfa s h1
          · have : s = o.length := by omega
            subst this
            rw [if_neg h1, if_pos rfl, if_pos h2]; exact hfa t h2
          · have : s = o.length := by omega
            have : t = o.length := by omega
            subst_vars
            rw [if_neg h1, if_pos rfl, Nm.loop_false (tr_of G) adjB_iff, Nm.loop_false (tr_of G') adjB_iff]
      have hext : Ext k l m o ↔ ∃ c, 0 ≤ c ∧ c < k ∧ c ∉ o ∧ fitc k l m o c = true ∧ Ext k l m (o ++ [c]) := by
        constructor
        · rintro ⟨φ, hI, hφ⟩
          refine ⟨φ o.length, Nat.zero_le _, hI.lt _ hlt, fun hm => ?_, ?_, φ, hI, fun t ht => ?_⟩
          · obtain ⟨t, ht, e2⟩ := List.getElem_of_mem hm
            have h3 := hφ t ht
            rw [List.getD_eq_getElem?_getD, List.getElem?_eq_getElem ht] at h3
            have h3 : φ t = o[t] := h3
            have := hI.inj t o.length (by omega) hlt (h3.trans e2)
            omega
          · unfold fitc
            refine List.all_eq_true.2 fun t ht => ?_
            have ht := List.mem_range.1 ht
            rw [← hφ t ht, hI.keep _ _ hlt (by omega)]; exact beq_self_eq_true _
          · rw [List.length_append, List.length_singleton] at ht
            rw [getD_snoc]
            by_cases h1 : t < o.length
            · rw [if_pos h1]; exact hφ t h1
            · have : t = o.length := by omega
              subst this; rw [if_neg h1, if_pos rfl]
        · rintro ⟨c, _, hc, hco, hfc, φ, hI, hφ⟩
          refine ⟨φ, hI, fun t ht => ?_⟩
          have := hφ t (by rw [List.length_append]; omega)
          rw [getD_snoc, if_pos ht] at this; exact this
      rcases ht_L1 hk G.inl G'.inl (by omega) (by omega) hlt hrec 300 0 (by omega) (Nat.zero_le _) with ⟨hc, r⟩ | ⟨hn, x, r⟩
      · rw [show L3_fits_L1 300 (L3_fits 300 d) (k : Int) l m (intl o) (o.length : Int) 300 0 = _ from r, Option.bind_some]
        exact ⟨fun _ => rfl, fun q => absurd (hext.2 hc) q⟩
      · rw [show L3_fits_L1 300 (L3_fits 300 d) (k : Int) l m (intl o) (o.length : Int) 300 0 = _ from r, Option.bind_some]
        exact ⟨fun q => absurd (hext.1 q) hn, fun _ => rfl⟩
/-- trees of one name are the same but for the order -/
theorem iso_of_name (G : Good k l) (G' : Good k m) {s : List UInt8} (hs : ∃ a ∈ mids k l, s = nmR k l a) (ht : ∃ a ∈ mids k m, s = nmR k m a) : ∃ φ, Iso k l m φ := by
  obtain ⟨a, ha, sa⟩ := hs
  obtain ⟨b, hb, sb⟩ := ht
  have hak := (mids_mem.1 ha).1; have hbk := (mids_mem.1 hb).1
  obtain ⟨φ, _, h2⟩ := Nm.iso_of (tr_of G) adjB_iff (tr_of G') adjB_iff 299 a (-1) b (-1) hak hbk (.inl rfl) (.inl rfl) (sa.symm.trans sb)
  have hm := nmR_vs G hak
  have hm' := nmR_vs G' hbk
  have m1 : ∀ x, x < k → x ∈ Nm.vs k (adjB k l) 299 a (-1) := fun x hx => hm.mem_iff.2 (List.mem_range.2 hx)
  exact ⟨φ, fun x hx => List.mem_range.1 (hm'.mem_iff.1 (h2.goes x (m1 x hx))), fun x y hx hy e => h2.inj x (m1 x hx) y (m1 y hy) e, fun x y hx hy => h2.keep x (m1 x hx) y (m1 y hy)⟩
end
theorem treeSame_ev {n : Int} {l m : List (Int × Int)} (hg : good n l) (hg' : good n m) : L3_TreeSame 300 n l m = some true := by
  unfold L3_TreeSame
  rw [fact_tree, Option.bind_some, if_pos rfl]
  by_cases h : errT n l = 0
  · obtain ⟨k, rfl, G⟩ := good_of hg h
    obtain ⟨s, s1, s2, _⟩ := Name_ev G
    rw [s1, Option.bind_some]
    by_cases h' : errT (k : Int) m = 0
    · obtain ⟨k', hk', G'⟩ := good_of hg' h'
      have : k' = k := by omega
      subst this
      obtain ⟨t, t1, t2, _⟩ := Name_ev G'
      rw [t1, Option.bind_some]
      dsimp only
      rw [if_neg (by decide), if_neg (by decide), Option.bind_some, if_neg (by decide), tree3_ev hg, h, Option.bind_some, if_neg (by decide), tree3_ev hg', h', Option.bind_some, if_neg (by decide), Option.bind_some, if_neg (by decide), lb_toList, lb_toList]
      obtain ⟨r1, r2⟩ := ht_ev G G' 300 [] (by have := G.le; simp; omega) (Nat.zero_le _) ⟨List.nodup_nil, fun x hx => (by cases hx), fun s t hs => absurd hs (Nat.not_lt_zero _)⟩
      have r1 : Ext k' l m [] → L3_fits 300 300 (k' : Int) l m [] = some true := r1
      have r2 : ¬ Ext k' l m [] → L3_fits 300 300 (k' : Int) l m [] = some false := r2
      by_cases e : s = t
      · subst e
        obtain ⟨φ, hI⟩ := iso_of_name G G' s2 t2
        rw [r1 ⟨φ, hI, fun t ht => absurd ht (Nat.not_lt_zero _)⟩, beq_self_eq_true]; rfl
      · have hne : ¬ Ext k' l m [] := fun ⟨φ, hI, _⟩ => e (iso_name G G' hI s1 t1)
        have hb : (s == t) = false := by rw [beq_eq_false_iff_ne]; exact e
        rw [r2 hne, hb]; rfl
    · rw [Name_bad hg' h', Option.bind_some]
      dsimp only
      rw [if_neg (by decide), if_pos (by rw [bne_iff_ne]; exact h'), Option.bind_some, if_pos rfl, if_pos (by decide)]; rfl
  · rw [Name_bad hg h, Option.bind_some]
    have : ∃ y, tree_Name 300 n m = some y := by
      by_cases h' : errT n m = 0
      · obtain ⟨k', rfl, G'⟩ := good_of hg' h'
        obtain ⟨t, t1, _⟩ := Name_ev G'
        exact ⟨_, t1⟩
      · exact ⟨_, Name_bad hg' h'⟩
    obtain ⟨y, hy⟩ := this
    rw [hy, Option.bind_some]
    dsimp only
    rw [if_pos (by rw [bne_iff_ne]; exact h), Option.bind_some, if_pos rfl, if_neg (by rw [beq_iff_eq]; exact h), show (⟨#[]⟩ : ByteArray) = lb [] from rfl, lb_toList]; rfl
theorem treeSame_any (w : World) (n : Int) (hn : (Lit.int .i64 n).wf = true) (A : Option Addr) (cap : Nat) (l : List (Int × Int)) (hr : ReadsL w w.heap.size A l) (hl : l.length ≤ maxLen) (A2 : Option Addr) (cap2 : Nat) (m : List (Int × Int)) (hr2 : ReadsL w w.heap.size A2 m) (hl2 : m.length ≤ maxLen) :
    Calls Try.prog 4 #[.int .i64 n, .slice A l.length cap, .slice A2 m.length cap2] w fun e w' => e = .returned (.bool true) ∧ Below w.heap.size w w' :=
  L3_TreeSame_ok w cap hr cap2 hr2 (treeSame_ev ⟨hn, hl⟩ ⟨hn, hl2⟩)
end Go.Proofs.Ytgnbholhgcbhfaa
