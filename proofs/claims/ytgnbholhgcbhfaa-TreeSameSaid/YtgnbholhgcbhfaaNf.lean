import Derived.Test.YtgnbholhgcbhfaaNe
/- TreeName: another order of the points, the same name -/
set_option linter.all false
set_option maxRecDepth 100000
namespace Go.Proofs.Ytgnbholhgcbhfaa
open Go.RowKit Pl
section
variable {k : Nat} {l m : List (Int × Int)}
/-- the points of one tree in another order are those of another one -/
structure Iso (k : Nat) (l m : List (Int × Int)) (φ : Nat → Nat) : Prop where
  lt : ∀ x, x < k → φ x < k
  inj : ∀ x y, x < k → y < k → φ x = φ y → x = y
  keep : ∀ x y, x < k → y < k → adjB k l x y = adjB k m (φ x) (φ y)
theorem onto_of {φ : Nat → Nat} (h1 : ∀ x, x < k → φ x < k) (h2 : ∀ x y, x < k → y < k → φ x = φ y → x = y) (y : Nat) (hy : y < k) : ∃ x, x < k ∧ φ x = y := by
  have hn : ((List.range k).map φ).Nodup := by
    refine List.Pairwise.map φ (R := fun x y => x ≠ y ∧ x < k ∧ y < k) (fun x y h e => h.1 (h2 x y h.2.1 h.2.2 e)) ?_
    exact (List.nodup_range (n := k)).imp_of_mem fun hx hy h => ⟨h, List.mem_range.1 hx, List.mem_range.1 hy⟩
  apply Classical.byContradiction
  intro hno
  have hy' : y ∉ (List.range k).map φ := fun hm => by
    obtain ⟨x, hx, e⟩ := List.mem_map.1 hm
    exact hno ⟨x, List.mem_range.1 hx, e⟩
  have := nodup_lt k (y :: (List.range k).map φ) (List.nodup_cons.2 ⟨hy', hn⟩) fun x hx => by
    rcases List.mem_cons.1 hx with rfl | hx
    · exact hy
    · obtain ⟨z, hz, rfl⟩ := List.mem_map.1 hx
      exact h1 z (List.mem_range.1 hz)
  simp at this; omega
theorem Iso.back {φ : Nat → Nat} (h : Iso k l m φ) : ∃ ψ, Iso k m l ψ ∧ ∀ x, x < k → ψ (φ x) = x := by
  have ho := fun y hy => onto_of h.lt h.inj y hy
  obtain ⟨ψ, hψ⟩ : ∃ ψ : Nat → Nat, ∀ y, y < k → ψ y < k ∧ φ (ψ y) = y := by
    have : ∀ y, ∃ x, y < k → x < k ∧ φ x = y := fun y => by
      by_cases c : y < k
      · obtain ⟨x, hx⟩ := ho y c; exact ⟨x, fun _ => hx⟩
      · exact ⟨0, fun q => absurd q c⟩
    exact ⟨fun y => Classical.choose (this y), fun y => Classical.choose_spec (this y)⟩
  refine ⟨ψ, ⟨fun y hy => (hψ y hy).1, fun x y hx hy e => ?_, fun x y hx hy => ?_⟩, fun x hx => ?_⟩
  · rw [← (hψ x hx).2, e, (hψ y hy).2]
  · rw [h.keep _ _ (hψ x hx).1 (hψ y hy).1, (hψ x hx).2, (hψ y hy).2]
  · exact h.inj _ _ (hψ _ (h.lt x hx)).1 hx (hψ _ (h.lt x hx)).2
theorem iso_dst_le {φ : Nat → Nat} (G : Good k l) (G' : Good k m) (h : Iso k l m φ) : ∀ n x y, x < k → y < k → dst k l x y = n → dst k m (φ x) (φ y) ≤ n := by
  have T := tr_of G; have T' := tr_of G'
  intro n
  induction n with
  | zero => intro x y hx hy e; have := T.eq_of_zero hx hy e; subst this; rw [T'.zero _ (h.lt y hy)]; exact Nat.le_refl _
  | succ n ih =>
    intro x y hx hy e
    have hne : y ≠ x := fun q => by subst q; rw [T.zero y hy] at e; omega
    obtain ⟨u, hu1, hu2⟩ := T.down x y hx hy hne
    have hu := (T.lt _ _ hu1).1
    have h1 := ih x u hx hu (by omega)
    have hA : Ad k m (φ u) (φ y) := by
      show adjB k m (φ u) (φ y) = true
      rw [← h.keep u y hu hy]; exact hu1
    have := T'.step (φ x) _ _ (h.lt x hx) hA
    omega
theorem iso_dst {φ : Nat → Nat} (G : Good k l) (G' : Good k m) (h : Iso k l m φ) {x y : Nat} (hx : x < k) (hy : y < k) : dst k m (φ x) (φ y) = dst k l x y := by
  obtain ⟨ψ, h', hb⟩ := h.back
  have h1 := iso_dst_le G G' h _ x y hx hy rfl
  have h2 := iso_dst_le G' G h' _ (φ x) (φ y) (h.lt x hx) (h.lt y hy) rfl
  rw [hb x hx, hb y hy] at h2
  omega
theorem iso_ecc {φ : Nat → Nat} (G : Good k l) (G' : Good k m) (h : Iso k l m φ) {x : Nat} (hx : x < k) : ecc k m (φ x) = ecc k l x := by
  have h0 : 0 < k := by omega
  apply Nat.le_antisymm
  · obtain ⟨y, hy, e⟩ := mx_at (f := dst k m (φ x)) h0
    obtain ⟨z, hz, rfl⟩ := onto_of h.lt h.inj y hy
    show mx _ k ≤ _
    rw [← e, iso_dst G G' h hx hz]; exact le_mx hz
  · obtain ⟨y, hy, e⟩ := mx_at (f := dst k l x) h0
    show mx _ k ≤ _
    rw [← e, ← iso_dst G G' h hx hy]; exact le_mx (h.lt y hy)
theorem iso_rad {φ : Nat → Nat} (G : Good k l) (G' : Good k m) (h : Iso k l m φ) : rad k m = rad k l := by
  have h0 : 0 < k := G.pos
  apply Nat.le_antisymm
  · obtain ⟨y, hy, e⟩ := mn_at (f := ecc k l) h0
    show _ ≤ mn _ k
    rw [← e, ← iso_ecc G G' h hy]; exact mn_le (h.lt y hy)
  · obtain ⟨y, hy, e⟩ := mn_at (f := ecc k m) h0
    obtain ⟨z, hz, rfl⟩ := onto_of h.lt h.inj y hy
    show _ ≤ mn _ k
    rw [← e, iso_ecc G G' h hz]; exact mn_le hz
theorem iso_nmR {φ : Nat → Nat} (h : Iso k l m φ) {a : Nat} (ha : a < k) : nmR k l a = nmR k m (φ a) :=
  Nm.nm_iso h.lt h.inj (fun y hy => onto_of h.lt h.inj y hy) h.keep 299 a (-1) (-1) ha (.inl ⟨rfl, rfl⟩)
/-- trees that are the same but for the order have the same name -/
theorem iso_name {φ : Nat → Nat} (G : Good k l) (G' : Good k m) (h : Iso k l m φ) {s t : List UInt8} (hs : tree_Name 300 (k : Int) l = some (lb s, 0)) (ht : tree_Name 300 (k : Int) m = some (lb t, 0)) : s = t := by
  obtain ⟨s', s1, ⟨a, ha, sa⟩, s3⟩ := Name_ev G
  obtain ⟨t', t1, ⟨b, hb, tb⟩, t3⟩ := Name_ev G'
  have lbi : ∀ {u v : List UInt8}, some (lb u, (0 : Int)) = some (lb v, 0) → u = v := fun {u v} e => by
    have e := congrArg Prod.fst (Option.some.inj e)
    have e : lb u = lb v := e
    rw [← lb_toList u, e, lb_toList]
  have es := lbi (hs.symm.trans s1)
  have et := lbi (ht.symm.trans t1)
  subst es; subst et
  have hm : ∀ x, x < k → (φ x ∈ mids k m ↔ x ∈ mids k l) := fun x hx => by
    rw [mids_mem, mids_mem, iso_ecc G G' h hx, iso_rad G G' h]
    exact ⟨fun q => ⟨hx, q.2⟩, fun q => ⟨h.lt x hx, q.2⟩⟩
  apply List.le_antisymm
  · obtain ⟨z, hz, rfl⟩ := onto_of h.lt h.inj b (mids_mem.1 hb).1
    rw [tb, ← iso_nmR h hz]
    exact s3 z ((hm z hz).1 hb)
  · have hak := (mids_mem.1 ha).1
    rw [sa, iso_nmR h hak]
    exact t3 _ ((hm a hak).2 ha)
/-! ### TreeName's loops -/
theorem cnt_L1 {s : List UInt8} (hs : s.length ≤ 100) : ∀ (g j : Nat) (v : Nat), s.length < j + g → j ≤ s.length → v ≤ j → ∃ x, L3_TreeName_L1 300 (lb s) g (v : Int) (j : Int) = some (((v + (s.drop j).count 40 : Nat) : Int), x)
  | 0, j, v, h, hj, _ => by omega
  | g+1, j, v, h, hj, hv => by
    rw [L3_TreeName_L1_s, lb_size]
    by_cases c : j < s.length
    · have h1 : sIx (lb s) (j : Int) = some ((s[j].toNat : Nat) : Int) := by
        have hj2 : (lb s)[((j : Int)).toNat]? = some s[j] := by
          rw [Int.toNat_natCast]
          have hlt : j < (lb s).size := by rw [lb_size]; exact c
          rw [getElem?_pos (lb s) j hlt]
          simp [lb, ByteArray.getElem_eq_getElem_data]
        unfold sIx; rw [if_pos (by omega), hj2]; rfl
      rw [if_pos (by omega), h1, Option.bind_some, w64n (k := j) (by omega), w64n (k := v) (by omega), List.drop_eq_getElem_cons c]
      by_cases e : s[j] = 40
      · rw [if_pos (by rw [e]; decide), e, List.count_cons_self]
        obtain ⟨x, hx⟩ := cnt_L1 hs g (j+1) (v+1) (by omega) (by omega) (by omega)
        exact ⟨x, by rw [hx, show v + 1 + (s.drop (j+1)).count 40 = v + ((s.drop (j+1)).count 40 + 1) by omega]⟩
      · have hne : ¬ ((((s[j].toNat : Nat) : Int) == 40) = true) := by
          rw [beq_iff_eq]; intro q
          apply e
          have : s[j].toNat = (40 : UInt8).toNat := by simpa using (by omega : s[j].toNat = 40)
          exact UInt8.toNat_inj.1 this
        rw [if_neg hne, List.count_cons_of_ne (fun q => e q)]
        exact cnt_L1 hs g (j+1) v (by omega) (by omega) (by omega)
    · rw [if_neg (by omega), List.drop_eq_nil_of_le (by omega)]; exact ⟨(j : Int), by simp⟩
/-- the lines in another order of points, from the last one on, each turned -/
def moved (o : List Int) (l : List (Int × Int)) : List (Int × Int) := l.map fun p => (o.getD p.2.toNat 0, o.getD p.1.toNat 0)
theorem mov_L2 (hin : InL k l) (h24 : l.length ≤ 24) {o : List Int} (ho : o.length = k) : ∀ (g j : Nat) (v : List (Int × Int)), j < g → j ≤ l.length → v.length + j ≤ 24 →
    ∃ x, L3_TreeName_L2 300 l o g v ((j : Int) - 1) = some (v ++ moved o (l.take j).reverse, x)
  | 0, j, v, h, hj, _ => by omega
  | g+1, j, v, h, hj, hv => by
    rw [L3_TreeName_L2_s]
    cases j with
    | zero => rw [if_neg (by omega)]; exact ⟨((0 : Nat) : Int) - 1, by simp [moved]⟩
    | succ j =>
      have hjl : j < l.length := by omega
      have hil : ix l (((j + 1 : Nat) : Int) - 1) = some (l.getD j (0, 0)) := by
        rw [show (((j + 1 : Nat) : Int) - 1) = (j : Int) by omega]; exact ix_at (0, 0) hjl
      have hg : l.getD j (0, 0) = l[j] := by simp [List.getD, hjl]
      obtain ⟨a, b, ha, hb, e1, e2⟩ : ∃ a b : Nat, a < k ∧ b < k ∧ l[j].1 = (a : Int) ∧ l[j].2 = (b : Int) := by
        have := hin _ (List.getElem_mem hjl)
        exact ⟨l[j].1.toNat, l[j].2.toNat, by omega, by omega, by omega, by omega⟩
      have i1 : ix o ((a : Nat) : Int) = some (o.getD a 0) := ix_at 0 (by omega)
      have i2 : ix o ((b : Nat) : Int) = some (o.getD b 0) := ix_at 0 (by omega)
      have hap : app v (o.getD b 0, o.getD a 0) = some (v ++ [(o.getD b 0, o.getD a 0)]) := by unfold app; rw [if_pos (by omega)]
      rw [if_pos (by omega), hil]
      simp only [Option.bind_some]
      rw [hg, e1, e2, i2, Option.bind_some, i1, Option.bind_some, hap, Option.bind_some, w64 (by omega) (by omega), show (((j + 1 : Nat) : Int) - 1 - 1) = (j : Int) - 1 by omega]
      obtain ⟨x, hx⟩ := mov_L2 hin h24 ho g j (v ++ [(o.getD b 0, o.getD a 0)]) (by omega) (by omega) (by rw [List.length_append]; simp; omega)
      refine ⟨x, ?_⟩
      rw [hx, List.append_assoc, List.take_succ_eq_append_getElem hjl, List.reverse_append]
      simp [moved, e1, e2]
theorem conn_any (hin : InL k l) (hc : Conn k l) {x0 : Nat} (h0 : x0 < k) (P : Nat → Prop) (hP : P x0) (hs : ∀ i j, P i → Ad k l i j → P j) : ∀ i, i < k → P i := by
  by_cases h : P 0
  · exact hc P h hs
  · exact absurd hP (hc (fun i => ¬ P i) h (fun i j hi hij hj => hi (hs j i hj (ad_sym hin hij))) x0 h0)
theorem moved_good (G : Good k l) {o : List Int} (ho : o.length = k) (hr : ∀ x ∈ o, 0 ≤ x ∧ x < (k : Int)) (hn : o.Nodup) : Good k (moved o l.reverse) ∧ Iso k l (moved o l.reverse) (fun x => (o.getD x 0).toNat) := by
  obtain ⟨φ, hφ⟩ : ∃ φ : Nat → Nat, φ = fun x => (o.getD x 0).toNat := ⟨_, rfl⟩
  have hat : ∀ x, x < k → o.getD x 0 ∈ o := fun x hx => by
    rw [List.getD_eq_getElem?_getD, List.getElem?_eq_getElem (by omega)]; exact List.getElem_mem _
  have hφi : ∀ x, x < k → o.getD x 0 = ((φ x : Nat) : Int) ∧ φ x < k := fun x hx => by
    have := hr _ (hat x hx)
    rw [hφ]; show _ = (((o.getD x 0).toNat : Nat) : Int) ∧ (o.getD x 0).toNat < k
    omega
  have hinj : ∀ x y, x < k → y < k → φ x = φ y → x = y := fun x y hx hy e => by
    have h1 := (hφi x hx).1; have h2 := (hφi y hy).1
    have h3 : o.getD x 0 = o.getD y 0 := by rw [h1, h2, e]
    rw [List.getD_eq_getElem?_getD, List.getD_eq_getElem?_getD, List.getElem?_eq_getElem (by omega), List.getElem?_eq_getElem (by omega)] at h3
    have h3 : o[x]'(by omega) = o[y]'(by omega) := h3
    have hpw := List.pairwise_iff_getElem.1 hn
    rcases Nat.lt_trichotomy x y with c | c | c
    · exact absurd h3 (hpw x y (by omega) (by omega) c)
    · exact c
    · exact absurd h3.symm (hpw y x (by omega) (by omega) c)
  have hpt : ∀ p ∈ l, ∃ a b : Nat, a < k ∧ b < k ∧ p = ((a : Int), (b : Int)) := fun p hp => by
    have := G.inl p hp
    exact ⟨p.1.toNat, p.2.toNat, by omega, by omega, by ext <;> simp <;> omega⟩
  have hmem : ∀ q, q ∈ moved o l.reverse ↔ ∃ a b : Nat, a < k ∧ b < k ∧ ((a : Int), (b : Int)) ∈ l ∧ q = (((φ b : Nat) : Int), ((φ a : Nat) : Int)) := fun q => by
    unfold moved
    rw [List.mem_map]
    constructor
    · rintro ⟨p, hp, rfl⟩
      have hp := List.mem_reverse.1 hp
      obtain ⟨a, b, ha, hb, rfl⟩ := hpt p hp
      exact ⟨a, b, ha, hb, hp, by rw [← (hφi a ha).1, ← (hφi b hb).1]; simp⟩
    · rintro ⟨a, b, ha, hb, hp, rfl⟩
      exact ⟨_, List.mem_reverse.2 hp, by rw [← (hφi a ha).1, ← (hφi b hb).1]; simp⟩
  have hin' : InL k (moved o l.reverse) := fun q hq => by
    obtain ⟨a, b, ha, hb, _, rfl⟩ := (hmem q).1 hq
    have := (hφi a ha).2; have := (hφi b hb).2
    exact ⟨by omega, by omega, by omega, by omega⟩
  have hne' : ∀ q ∈ moved o l.reverse, q.1 ≠ q.2 := fun q hq => by
    obtain ⟨a, b, ha, hb, hp, rfl⟩ := (hmem q).1 hq
    intro e
    have e : ((φ b : Nat) : Int) = ((φ a : Nat) : Int) := e
    have := hinj b a hb ha (by omega)
    subst this
    exact G.ne _ hp rfl
  have hlen' : (moved o l.reverse).length = l.length := by simp [moved]
  have hA : ∀ x y, x < k → y < k → (Ad k l x y ↔ Ad k (moved o l.reverse) (φ x) (φ y)) := fun x y hx hy => by
    rw [ad_iff G.inl, ad_iff hin']
    constructor
    · rintro ⟨p, hp, hh⟩
      obtain ⟨a, b, ha, hb, rfl⟩ := hpt p hp
      refine ⟨_, (hmem _).2 ⟨a, b, ha, hb, hp, rfl⟩, ?_⟩
      rcases hh with ⟨h1, h2⟩ | ⟨h1, h2⟩
      · have h1 : (a : Int) = x := h1; have h2 : (b : Int) = y := h2
        have : a = x := by omega
        have : b = y := by omega
        subst_vars; exact .inr ⟨rfl, rfl⟩
      · have h1 : (a : Int) = y := h1; have h2 : (b : Int) = x := h2
        have : a = y := by omega
        have : b = x := by omega
        subst_vars; exact .inl ⟨rfl, rfl⟩
    · rintro ⟨q, hq, hh⟩
      obtain ⟨a, b, ha, hb, hp, rfl⟩ := (hmem q).1 hq
      refine ⟨_, hp, ?_⟩
      rcases hh with ⟨h1, h2⟩ | ⟨h1, h2⟩
      · have h1 : ((φ b : Nat) : Int) = φ x := h1; have h2 : ((φ a : Nat) : Int) = φ y := h2
        have := hinj b x hb hx (by omega); have := hinj a y ha hy (by omega)
        subst_vars; exact .inr ⟨rfl, rfl⟩
      · have h1 : ((φ b : Nat) : Int) = φ y := h1; have h2 : ((φ a : Nat) : Int) = φ x := h2
        have := hinj b y hb hy (by omega); have := hinj a x ha hx (by omega)
        subst_vars; exact .inl ⟨rfl, rfl⟩
  have hk := G.le; have hpos := G.pos; have hl := G.len
  have hgood : good (k : Int) (moved o l.reverse) := by
    refine ⟨G.good.1, by rw [hlen']; exact G.good.2⟩
  have herr : errG (k : Int) (moved o l.reverse) = 0 := by
    unfold errG
    rw [if_neg (by omega), if_neg (by rw [hlen']; omega)]
    have : ∀ l' : List (Int × Int), (∀ p ∈ l', 0 ≤ p.1 ∧ p.1 < (k : Int) ∧ 0 ≤ p.2 ∧ p.2 < (k : Int)) → (∀ p ∈ l', p.1 ≠ p.2) → errLines (k : Int) l' = 0 := by
      intro l'
      induction l' with
      | nil => intro _ _; rfl
      | cons p l' ih =>
        intro h1 h2
        have q1 := h1 p List.mem_cons_self; have q2 := h2 p List.mem_cons_self
        have := ih (fun q hq => h1 q (List.mem_cons_of_mem _ hq)) (fun q hq => h2 q (List.mem_cons_of_mem _ hq))
        simp only [errLines]
        rw [if_neg (by omega), if_neg q2, this]
    exact this _ hin' hne'
  have hconn : Conn k (moved o l.reverse) := fun P h0 hs i hi => by
    obtain ⟨x0, hx0, e0⟩ := onto_of (fun x hx => (hφi x hx).2) hinj 0 (by omega)
    obtain ⟨x, hx, e⟩ := onto_of (fun x hx => (hφi x hx).2) hinj i hi
    have := conn_any G.inl G.conn hx0 (fun y => P (φ y)) (by show P (φ x0); rw [e0]; exact h0) (fun a b ha hab => by
      obtain ⟨h1, h2⟩ := ad_lt G.inl hab
      exact hs _ _ ha ((hA a b h1 h2).1 hab)) x hx
    have : P (φ x) := this
    rwa [e] at this
  refine ⟨⟨hgood, herr, hpos, hk, hin', hne', by rw [hlen']; exact hl, hconn⟩, ?_⟩
  rw [← hφ]
  refine ⟨fun x hx => (hφi x hx).2, hinj, fun x y hx hy => ?_⟩
  exact Bool.eq_iff_iff.2 (hA x y hx hy)
end
/-! ### the law -/
theorem tw_L1 {os : List Int} (hl : os.length < 300) : ∀ (g j : Nat), os.length < j + g → j ≤ os.length → (os.take j).Nodup →
    (∃ x, R1_Twice_L1 300 os g (j : Int) = some (.inl x) ∧ os.Nodup) ∨ (R1_Twice_L1 300 os g (j : Int) = some (.inr true) ∧ ¬ os.Nodup)
  | 0, j, h, hj, _ => by omega
  | g+1, j, h, hj, hn => by
    rw [R1_Twice_L1_s]
    by_cases hlt : j < os.length
    · have htk : tk os (j : Int) = some (os.take j) := by unfold tk; rw [if_pos (by omega), Int.toNat_natCast]
      rw [if_pos (by omega), htk, Option.bind_some, ix_nat hlt, Option.bind_some, R1_Has_ev _ (by rw [List.length_take]; omega) (by rw [List.length_take]; omega), Option.bind_some, w64n (by omega)]
      have hs : os.take (j+1) = os.take j ++ [os[j]] := by rw [List.take_succ_eq_append_getElem hlt]
      by_cases hm : os[j] ∈ os.take j
      · rw [decide_eq_true hm, if_pos rfl]
        refine .inr ⟨rfl, fun q => ?_⟩
        have : (os.take (j+1)).Nodup := List.Nodup.sublist (List.take_sublist _ _) q
        rw [hs, List.nodup_append] at this
        exact this.2.2 _ hm _ (List.mem_singleton.2 rfl) rfl
      · rw [decide_eq_false hm, if_neg (by decide)]
        refine tw_L1 hl g (j+1) (by omega) (by omega) ?_
        rw [hs, List.nodup_append]
        exact ⟨hn, by simp, fun x hx y hy e => by rw [List.mem_singleton.1 hy] at e; subst e; exact hm hx⟩
    · have : j = os.length := by omega
      subst this
      rw [if_neg (by omega)]
      rw [List.take_length] at hn
      exact .inl ⟨_, rfl, hn⟩
theorem twice_ev {os : List Int} (hl : os.length < 300) : (R1_Twice 300 os = some false ∧ os.Nodup) ∨ (R1_Twice 300 os = some true ∧ ¬ os.Nodup) := by
  unfold R1_Twice
  rcases tw_L1 hl 300 0 (by omega) (by omega) (by simp) with ⟨x, q1, q2⟩ | ⟨q1, q2⟩
  · rw [show R1_Twice_L1 300 os 300 0 = _ from q1]; exact .inl ⟨rfl, q2⟩
  · rw [show R1_Twice_L1 300 os 300 0 = _ from q1]; exact .inr ⟨rfl, q2⟩
theorem treeName_ev {n : Int} {l : List (Int × Int)} (hg : good n l) (o : List Int) : L3_TreeName 300 n l o = some true := by
  unfold L3_TreeName
  rw [fact_tree, Option.bind_some, if_pos rfl]
  by_cases h : errT n l = 0
  · obtain ⟨k, rfl, G⟩ := good_of hg h
    have hk := G.le; have hpos := G.pos; have hll := G.len
    obtain ⟨s, s1, ⟨a, ha, sa⟩, _⟩ := Name_ev G
    have hak := (mids_mem.1 ha).1
    obtain ⟨e1, e2⟩ := nmR_len G hak
    rw [← sa] at e1 e2
    obtain ⟨x, hx⟩ := cnt_L1 (s := s) (by omega) 300 0 0 (by omega) (Nat.zero_le _) (Nat.le_refl _)
    rw [s1, Option.bind_some]
    dsimp only
    rw [if_neg (by decide), show L3_TreeName_L1 300 (lb s) 300 0 0 = _ from hx, Option.bind_some, List.drop_zero, Nat.zero_add, e2]
    dsimp only
    rw [lb_size, e1, w64 (by omega) (by omega), if_neg (by rw [bne_iff_ne]; omega), if_neg (by rw [bne_iff_ne]; omega), Option.bind_some, if_neg (by decide)]
    by_cases c1 : o.length = k
    · rw [if_neg (by rw [bne_iff_ne]; omega), R1_All_ev _ _ (by omega) (by omega), Option.bind_some, w64 (by omega) (by omega)]
      by_cases c2 : allIn o 0 ((k : Int) - 1) = true
      · rw [if_pos c2, Option.bind_some, if_neg (by decide)]
        rcases twice_ev (os := o) (by omega) with ⟨q1, q2⟩ | ⟨q1, q2⟩
        · rw [q1, Option.bind_some, if_neg (by decide), Option.bind_some, if_neg (by decide)]
          have hr : ∀ y ∈ o, 0 ≤ y ∧ y < (k : Int) := fun y hy => by
            unfold allIn at c2
            have := List.all_eq_true.1 c2 y hy
            simp at this; omega
          obtain ⟨G', hI⟩ := moved_good G c1 hr q2
          obtain ⟨x2, hx2⟩ := mov_L2 G.inl (by omega) c1 300 l.length [] (by omega) (Nat.le_refl _) (by simp; omega)
          rw [List.nil_append, List.take_length] at hx2
          obtain ⟨t, t1, _, _⟩ := Name_ev G'
          have hst := iso_name G G' hI s1 t1
          rw [w64 (by omega) (by omega), hx2, Option.bind_some]
          dsimp only
          rw [t1, Option.bind_some, ← hst]
          simp
        · rw [q1, Option.bind_some, if_pos rfl, Option.bind_some, if_pos rfl]
      · rw [if_neg c2, Option.bind_some, if_pos rfl, Option.bind_some, if_pos rfl]
    · rw [if_pos (by rw [bne_iff_ne]; omega), Option.bind_some, if_pos rfl, Option.bind_some, if_pos rfl]
  · rw [Name_bad hg h, Option.bind_some]
    dsimp only
    rw [if_pos (by rw [bne_iff_ne]; exact h), show (⟨#[]⟩ : ByteArray) = lb [] from rfl, lb_toList]; rfl
theorem treeName_any (w : World) (n : Int) (hn : (Lit.int .i64 n).wf = true) (A : Option Addr) (cap : Nat) (l : List (Int × Int)) (hr : ReadsL w w.heap.size A l) (hl : l.length ≤ maxLen) (A2 : Option Addr) (cap2 : Nat) (o : List Int) (hr2 : ReadsI w w.heap.size A2 o ∧ o.length ≤ 17592186044416 ∧ o.length ≤ cap2 ∧ ∀ x ∈ o, (Lit.int .i64 x).wf = true) :
    Calls Try.prog 3 #[.int .i64 n, .slice A l.length cap, .slice A2 o.length cap2] w fun e w' => e = .returned (.bool true) ∧ Below w.heap.size w w' :=
  L3_TreeName_ok w cap hr cap2 hr2.1 hr2.2.2.1 (treeName_ev ⟨hn, hl⟩ o)
end Go.Proofs.Ytgnbholhgcbhfaa
