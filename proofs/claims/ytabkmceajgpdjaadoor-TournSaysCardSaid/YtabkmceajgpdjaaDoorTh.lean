import Derived.Test.YtabkmceajgpdjaaDoorTo
/- Camion, plain; lines between points counted -/
set_option linter.all false
set_option maxRecDepth 100000
namespace Go.Proofs.YtabkmceajgpdjaaDoor.To
theorem Ch.tail {b : Nat → Nat → Bool} {x : Nat} : ∀ {l : List Nat}, Ch b (x :: l) → Ch b l
  | [], _ => trivial
  | _ :: _, h => h.2
theorem Ch.mid {b : Nat → Nat → Bool} : ∀ {A : List Nat} {x y : Nat} {C : List Nat}, Ch b (A ++ x :: y :: C) → b x y = true
  | [], _, _, _, h => h.1
  | _ :: A, _, _, _, h => Ch.mid (A := A) h.tail
/-- somewhere a true one stands ahead of a false one -/
def TF (f : Nat → Bool) : List Nat → Prop
  | [] => False
  | [_] => False
  | x :: y :: r => (f x = true ∧ f y = false) ∨ TF f (y :: r)
theorem TF.cons {f : Nat → Bool} {x : Nat} : ∀ {l : List Nat}, TF f l → TF f (x :: l)
  | [], h => h.elim
  | _ :: _, h => .inr h
theorem tf_head {f : Nat → Bool} : ∀ {l : List Nat} {x : Nat}, f x = true → (∃ y ∈ l, f y = false) → TF f (x :: l)
  | [], _, _, ⟨y, h, _⟩ => by cases h
  | y :: l, x, hx, h => by
    cases e : f y
    · exact .inl ⟨hx, e⟩
    · refine .inr (tf_head e ?_)
      obtain ⟨z, hz, h⟩ := h
      rcases List.mem_cons.1 hz with rfl | hz
      · rw [e] at h; cases h
      · exact ⟨z, hz, h⟩
theorem tf_last {f : Nat → Bool} {z : Nat} (hz : f z = false) : ∀ {l : List Nat}, (∃ y ∈ l, f y = true) → TF f (l ++ [z])
  | [], ⟨y, h, _⟩ => by cases h
  | x :: l, h => by
    cases e : f x
    · obtain ⟨y, hy, h⟩ := h
      rcases List.mem_cons.1 hy with rfl | hy
      · rw [e] at h; cases h
      · exact (tf_last hz ⟨y, hy, h⟩).cons
    · exact tf_head (l := l ++ [z]) e ⟨z, by simp, hz⟩
/-- one more point between two -/
theorem ins_mid {b : Nat → Nat → Bool} {v : Nat} {f : Nat → Bool} (hf1 : ∀ x, f x = true → b x v = true) : ∀ {m : List Nat} {x z : Nat}, Ch b (x :: (m ++ [z])) → TF f (x :: (m ++ [z])) → (∀ y ∈ m ++ [z], f y = false → b v y = true) →
    ∃ m1 m2, m = m1 ++ m2 ∧ Ch b (x :: (m1 ++ v :: (m2 ++ [z])))
  | [], x, z, hc, ht, hf0 => by
    rcases ht with ⟨h1, h2⟩ | h
    · exact ⟨[], [], rfl, hf1 x h1, hf0 z (by simp) h2, trivial⟩
    · exact h.elim
  | y :: m, x, z, hc, ht, hf0 => by
    rcases ht with ⟨h1, h2⟩ | h
    · exact ⟨[], y :: m, rfl, hf1 x h1, hf0 y (by simp) h2, hc.2⟩
    · obtain ⟨m1, m2, e, h3⟩ := ins_mid hf1 (m := m) (x := y) (z := z) hc.2 h (fun w hw => hf0 w (List.mem_cons_of_mem _ hw))
      exact ⟨y :: m1, m2, by rw [e]; rfl, hc.1, h3⟩
/-- whatever is closed holds all -/
def Strong (k : Nat) (b : Nat → Nat → Bool) : Prop := ∀ S : Nat → Prop, (∃ x, x < k ∧ S x) → (∀ x y, S x → b x y = true → S y) → ∀ y, y < k → S y
/-- a ring through 0 -/
structure Cyc (k : Nat) (b : Nat → Nat → Bool) (r : List Nat) : Prop where
  ne : r ≠ []
  nd : (0 :: r).Nodup
  lt : ∀ x ∈ 0 :: r, x < k
  ch : Ch b (0 :: (r ++ [0]))
theorem Cyc.len {k : Nat} {b : Nat → Nat → Bool} {r : List Nat} (h : Cyc k b r) : r.length + 1 ≤ k := by
  have := nodup_len_le (l := 0 :: r) (l' := List.range k) h.nd (fun x hx => List.mem_range.2 (h.lt x hx))
  rw [List.length_range] at this; simpa using this
theorem ring3 {k : Nat} {b : Nat → Nat → Bool} (h : Tn k b) (hk : 3 ≤ k) (hS : Strong k b) : ∃ r, Cyc k b r := by
  have hO : ∃ x, b 0 x = true := by
    apply Classical.byContradiction
    intro hno
    have := hS (fun x => x = 0) ⟨0, by omega, rfl⟩ (fun x y hx hxy => by subst hx; exact absurd ⟨y, hxy⟩ hno) 1 (by omega)
    omega
  have hOI : ∃ o i, b 0 o = true ∧ b o i = true ∧ b i 0 = true := by
    apply Classical.byContradiction
    intro hno
    obtain ⟨x, hx⟩ := hO
    have := hS (fun x => b 0 x = true) ⟨x, (h.lt _ _ hx).2, hx⟩ (fun o y ho hoy => by
      have hy0 : y ≠ 0 := fun e => by subst e; rw [h.asym ho] at hoy; cases hoy
      cases e : b 0 y
      · exact absurd ⟨o, y, ho, hoy, h.no (by omega) (h.lt _ _ hoy).2 (fun q => hy0 q.symm) e⟩ hno
      · rfl) 0 (by omega)
    rw [h.irr] at this; cases this
  obtain ⟨o, i, h1, h2, h3⟩ := hOI
  have n1 : o ≠ 0 := fun e => by subst e; rw [h.irr] at h1; cases h1
  have n2 : i ≠ 0 := fun e => by subst e; rw [h.irr] at h3; cases h3
  have n3 : o ≠ i := fun e => by subst e; rw [h.irr] at h2; cases h2
  refine ⟨[o, i], by simp, ?_, ?_, h1, h2, h3, trivial⟩
  · simp only [List.nodup_cons, List.mem_cons, List.not_mem_nil, or_false, not_or, List.nodup_nil, and_true]
    exact ⟨⟨fun e => n1 e.symm, fun e => n2 e.symm⟩, n3, not_false⟩
  · intro x hx
    simp only [List.mem_cons, List.not_mem_nil, or_false] at hx
    rcases hx with rfl | rfl | rfl
    · omega
    · exact (h.lt _ _ h1).2
    · exact (h.lt _ _ h2).2
theorem ring_more {k : Nat} {b : Nat → Nat → Bool} (h : Tn k b) (hS : Strong k b) {r : List Nat} (hc : Cyc k b r) (hl : r.length + 1 < k) : ∃ r', Cyc k b r' ∧ r.length < r'.length := by
  have hmem : ∀ y, y ∈ r ++ [0] ↔ y ∈ 0 :: r := fun y => by simp [or_comm]
  by_cases hmix : ∃ v, v < k ∧ v ∉ 0 :: r ∧ (∃ x ∈ 0 :: r, b x v = true) ∧ ∃ y ∈ 0 :: r, b y v = false
  · obtain ⟨v, hv, hvn, ⟨x, hx, hxv⟩, y, hy, hyv⟩ := hmix
    have hTF : TF (fun x => b x v) (0 :: (r ++ [0])) := by
      cases e : b 0 v
      · have : x ∈ r := by
          rcases List.mem_cons.1 hx with rfl | hx
          · rw [e] at hxv; cases hxv
          · exact hx
        exact (tf_last (f := fun x => b x v) e ⟨x, this, hxv⟩).cons
      · exact tf_head (f := fun x => b x v) e ⟨y, (hmem y).2 hy, hyv⟩
    obtain ⟨m1, m2, e, hch⟩ := ins_mid (v := v) (f := fun x => b x v) (fun x hx => hx) hc.ch hTF (fun w hw hwv => by
      have hw' := (hmem w).1 hw
      exact h.no (hc.lt w hw') hv (fun q => hvn (q ▸ hw')) hwv)
    subst e
    have hp : (0 :: (m1 ++ v :: m2)).Perm (v :: 0 :: (m1 ++ m2)) := ((List.perm_middle).cons 0).trans (.swap _ _ _)
    refine ⟨m1 ++ v :: m2, ⟨by simp, hp.nodup_iff.2 (List.nodup_cons.2 ⟨hvn, hc.nd⟩), fun w hw => ?_, by rw [List.append_assoc]; exact hch⟩, by simp⟩
    rcases List.mem_cons.1 (hp.mem_iff.1 hw) with rfl | hw
    · exact hv
    · exact hc.lt w hw
  · -- each other point beats all of the ring, or is beaten by all of it
    have hpure : ∀ v, v < k → v ∉ 0 :: r → (∀ x ∈ 0 :: r, b x v = true) ∨ ∀ x ∈ 0 :: r, b v x = true := by
      intro v hv hvn
      by_cases hA : ∃ x ∈ 0 :: r, b x v = true
      · left
        intro y hy
        cases e : b y v
        · exact absurd ⟨v, hv, hvn, hA, y, hy, e⟩ hmix
        · rfl
      · right
        intro x hx
        cases e : b x v
        · exact h.no (hc.lt x hx) hv (fun q => hvn (q ▸ hx)) e
        · exact absurd ⟨x, hx, e⟩ hA
    have h0 : (0 : Nat) ∈ 0 :: r := List.mem_cons_self
    obtain ⟨w, hw, hwn⟩ : ∃ w, w < k ∧ w ∉ 0 :: r := by
      apply Classical.byContradiction
      intro hno
      have := nodup_len_le (l := List.range k) (l' := 0 :: r) List.nodup_range (fun x hx => by
        apply Classical.byContradiction
        intro hx2
        exact hno ⟨x, List.mem_range.1 hx, hx2⟩)
      rw [List.length_range, List.length_cons] at this; omega
    have hdu : ∃ d u, d < k ∧ u < k ∧ d ∉ 0 :: r ∧ u ∉ 0 :: r ∧ b 0 d = true ∧ (∀ x ∈ 0 :: r, b u x = true) ∧ b d u = true := by
      apply Classical.byContradiction
      intro hno
      -- no point beats all of the ring
      have hU : ∀ u, u < k → u ∉ 0 :: r → ∀ x ∈ 0 :: r, b x u = true := by
        intro u hu hun
        have := hS (fun x => x ∈ 0 :: r ∨ (x < k ∧ x ∉ 0 :: r ∧ ∀ y ∈ 0 :: r, b y x = true)) ⟨0, (h.lt _ _ (Ch.mid (A := []) (x := 0) (y := (r ++ [0]).head (by simp)) (C := (r ++ [0]).tail) (by simpa using hc.ch))).1, .inl h0⟩ (fun x y hx hxy => by
          have hyk := (h.lt _ _ hxy).2
          by_cases hy : y ∈ 0 :: r
          · exact .inl hy
          · right
            refine ⟨hyk, hy, ?_⟩
            rcases hpure y hyk hy with hp | hp
            · exact hp
            · exfalso
              rcases hx with hx | ⟨hxk, hxn, hx⟩
              · have := hp x hx; rw [h.asym hxy] at this; cases this
              · exact hno ⟨x, y, hxk, hyk, hxn, hy, hx 0 h0, hp, hxy⟩) u hu
        rcases this with hm | ⟨_, _, hm⟩
        · exact absurd hm hun
        · exact hm
      have := hS (fun x => x < k ∧ x ∉ 0 :: r) ⟨w, hw, hw, hwn⟩ (fun x y hx hxy => by
        refine ⟨(h.lt _ _ hxy).2, fun hy => ?_⟩
        have := hU x hx.1 hx.2 y hy
        rw [h.asym hxy] at this; cases this) 0 (by have := hc.lt 0 h0; omega)
      exact this.2 h0
    obtain ⟨d, u, hd, hu, hdn, hun, h1, h2, h3⟩ := hdu
    have hne : d ≠ u := fun e => by subst e; rw [h.irr] at h3; cases h3
    refine ⟨d :: u :: r, ⟨by simp, ?_, ?_, h1, h3, ?_⟩, by simp only [List.length_cons]; omega⟩
    · have hp : (0 :: d :: u :: r).Perm (d :: u :: 0 :: r) := (List.Perm.swap _ _ _).trans ((List.Perm.swap _ _ _).cons d)
      refine hp.nodup_iff.2 (List.nodup_cons.2 ⟨?_, List.nodup_cons.2 ⟨hun, hc.nd⟩⟩)
      intro hm
      rcases List.mem_cons.1 hm with e | e
      · exact hne e
      · exact hdn e
    · intro x hx
      simp only [List.mem_cons] at hx
      rcases hx with rfl | rfl | rfl | hx
      · exact hc.lt 0 h0
      · exact hd
      · exact hu
      · exact hc.lt x (List.mem_cons_of_mem _ hx)
    · have hchr := hc.ch.tail
      match r, hchr, hc.ne, h2 with
      | x :: r', hchr, _, h2 => exact ⟨h2 x (by simp), hchr⟩
theorem camion {k : Nat} {b : Nat → Nat → Bool} (h : Tn k b) (hk : 3 ≤ k) (hS : Strong k b) : ∃ r, Cyc k b r ∧ r.length + 1 = k := by
  have key : ∀ (g : Nat) (r : List Nat), Cyc k b r → k ≤ r.length + 1 + g → ∃ r, Cyc k b r ∧ r.length + 1 = k := by
    intro g
    induction g with
    | zero => intro r hr hg; exact ⟨r, hr, by have := hr.len; omega⟩
    | succ g ih =>
      intro r hr hg
      have := hr.len
      by_cases e : r.length + 1 = k
      · exact ⟨r, hr, e⟩
      · obtain ⟨r', h1, h2⟩ := ring_more h hS hr (by omega)
        exact ih r' h1 (by omega)
  obtain ⟨r, hr⟩ := ring3 h hk hS
  exact key k r hr (by omega)
/-- along a ring a closed set holds all of it -/
theorem ch_all {b : Nat → Nat → Bool} {P : Nat → Prop} (hP : ∀ x y, P x → b x y = true → P y) : ∀ {l : List Nat} {x : Nat}, Ch b (x :: l) → P x → ∀ y ∈ x :: l, P y
  | [], x, _, hx, y, hy => by rw [List.mem_singleton.1 hy]; exact hx
  | z :: l, x, hc, hx, y, hy => by
    rcases List.mem_cons.1 hy with rfl | hy
    · exact hx
    · exact ch_all hP hc.2 (hP x z hx hc.1) y hy
theorem ch_last {b : Nat → Nat → Bool} {P : Nat → Prop} (hP : ∀ x y, P x → b x y = true → P y) {z : Nat} : ∀ {l : List Nat}, Ch b (l ++ [z]) → (∃ x ∈ l, P x) → P z
  | [], _, ⟨x, h, _⟩ => by cases h
  | w :: l, hc, ⟨x, hx, hpx⟩ => by
    rcases List.mem_cons.1 hx with rfl | hx
    · exact ch_all hP (l := l ++ [z]) hc hpx z (by simp)
    · exact ch_last hP (l := l) (Ch.tail hc) ⟨x, hx, hpx⟩
/-- a ring through all makes it strong -/
theorem strong_of {k : Nat} {b : Nat → Nat → Bool} (h : Tn k b) {us : List Nat} {z : Nat} (hch : Ch b (z :: (us ++ [z]))) (hall : ∀ x, x < k → x ∈ z :: us) : Strong k b := by
  intro S hex hcl y hy
  obtain ⟨x, hx, hSx⟩ := hex
  have hz : S z := by
    rcases List.mem_cons.1 (hall x hx) with rfl | hm
    · exact hSx
    · exact ch_last hcl (l := us) (Ch.tail hch) ⟨x, hm, hSx⟩
  exact ch_all hcl hch hz y (by have := hall y hy; simp at this ⊢; rcases this with e | e; exact .inl e; exact .inr (.inl e))
/-! ### rings that are built up -/
def lastN (ws : List Nat) : Nat := ws.getD (ws.length - 1) 0
theorem lastN_snoc (ws : List Nat) (b : Nat) : lastN (ws ++ [b]) = b := by
  unfold lastN
  rw [List.length_append, List.length_singleton, Nat.add_sub_cancel]
  simp [List.getD]
def extB (a : Nat → Nat → Bool) (k : Nat) : Nat → List Nat → Bool
  | 0, ws => a (lastN ws) (ws.getD 0 0)
  | r+1, ws => (List.range' 0 k).any fun b => (a (lastN ws) b && !decide (b ∈ ws)) && extB a k r (ws ++ [b])
theorem snoc_of {ws : List Nat} (h : ws ≠ []) : ∃ vs, ws = vs ++ [lastN ws] := by
  have hl : 0 < ws.length := List.length_pos_iff.2 h
  refine ⟨ws.dropLast, ?_⟩
  have e : lastN ws = ws.getLast h := by
    unfold lastN
    rw [List.getLast_eq_getElem]; simp [List.getD, show ws.length - 1 < ws.length by omega]
  rw [e]; exact (List.dropLast_concat_getLast h).symm
theorem ext_of {b : Nat → Nat → Bool} {k z : Nat} : ∀ (r : List Nat) (ws : List Nat), Ch b (z :: (ws ++ (r ++ [z]))) → (z :: (ws ++ r)).Nodup → (∀ x ∈ r, x < k) → extB b k r.length (z :: ws) = true
  | [], ws, hc, hn, hk => by
    show b (lastN (z :: ws)) ((z :: ws).getD 0 0) = true
    obtain ⟨vs, e⟩ := snoc_of (ws := z :: ws) (by simp)
    have hc' : Ch b ((z :: ws) ++ [z]) := by simpa using hc
    rw [e] at hc'
    have := Ch.mid (A := vs) (x := lastN (z :: ws)) (y := z) (C := []) (by simpa using hc')
    simpa using this
  | v :: r, ws, hc, hn, hk => by
    refine List.any_eq_true.2 ⟨v, List.mem_range'_1.2 ⟨Nat.zero_le _, by have := hk v List.mem_cons_self; omega⟩, ?_⟩
    obtain ⟨vs, e⟩ := snoc_of (ws := z :: ws) (by simp)
    have hc' : Ch b ((z :: ws) ++ v :: (r ++ [z])) := by simpa using hc
    rw [e] at hc'
    have h1 := Ch.mid (A := vs) (x := lastN (z :: ws)) (y := v) (C := r ++ [z]) (by simpa using hc')
    have h2 : v ∉ z :: ws := by
      intro hm
      have hn' : ((z :: ws) ++ v :: r).Nodup := by simpa using hn
      rw [List.nodup_append] at hn'
      exact hn'.2.2 v hm v List.mem_cons_self rfl
    rw [h1, decide_eq_false h2, Bool.true_and, Bool.not_false, Bool.true_and]
    exact ext_of r (ws ++ [v]) (by simpa using hc) (by simpa using hn) (fun x hx => hk x (List.mem_cons_of_mem _ hx))
theorem of_ext {b : Nat → Nat → Bool} {k z : Nat} : ∀ (m : Nat) (ws : List Nat), Ch b (z :: ws) → (z :: ws).Nodup → (∀ x ∈ z :: ws, x < k) → extB b k m (z :: ws) = true → ∃ r, r.length = m ∧ Ch b (z :: ((ws ++ r) ++ [z])) ∧ (z :: (ws ++ r)).Nodup ∧ ∀ x ∈ z :: (ws ++ r), x < k
  | 0, ws, hc, hn, hk, h => by
    have h : b (lastN (z :: ws)) z = true := h
    refine ⟨[], rfl, ?_, by simpa using hn, by simpa using hk⟩
    rw [List.append_nil]
    have key : ∀ (l : List Nat), l ≠ [] → Ch b l → b (lastN l) z = true → Ch b (l ++ [z]) := by
      intro l
      induction l with
      | nil => intro h; exact absurd rfl h
      | cons x l ih =>
        intro _ hc hl
        match l, ih, hc, hl with
        | [], _, _, hl => exact ⟨hl, trivial⟩
        | y :: l', ih, hc, hl => exact ⟨hc.1, ih (by simp) hc.2 (by simpa [lastN] using hl)⟩
    exact key (z :: ws) (by simp) hc h
  | m+1, ws, hc, hn, hk, h => by
    obtain ⟨v, hv, h⟩ := List.any_eq_true.1 h
    have hvk : v < k := by have := List.mem_range'_1.1 hv; omega
    rw [Bool.and_eq_true, Bool.and_eq_true, Bool.not_eq_true', decide_eq_false_iff_not] at h
    have key : ∀ (l : List Nat), l ≠ [] → Ch b l → b (lastN l) v = true → Ch b (l ++ [v]) := by
      intro l
      induction l with
      | nil => intro h; exact absurd rfl h
      | cons x l ih =>
        intro _ hc hl
        match l, ih, hc, hl with
        | [], _, _, hl => exact ⟨hl, trivial⟩
        | y :: l', ih, hc, hl => exact ⟨hc.1, ih (by simp) hc.2 (by simpa [lastN] using hl)⟩
    obtain ⟨r, r1, r2, r3, r4⟩ := of_ext m (ws ++ [v]) (key (z :: ws) (by simp) hc h.1.1) (by
      have : ((z :: ws) ++ [v]).Nodup := by
        rw [List.nodup_append]; refine ⟨hn, by simp, fun x hx y hy e => ?_⟩
        rw [List.mem_singleton.1 hy] at e; subst e; exact h.1.2 hx
      simpa using this) (fun x hx => by
        have : x ∈ (z :: ws) ++ [v] := by simpa using hx
        rcases List.mem_append.1 this with hx | hx
        · exact hk x hx
        · rw [List.mem_singleton.1 hx]; exact hvk) (by simpa using h.2)
    refine ⟨v :: r, by rw [List.length_cons, r1], ?_, ?_, ?_⟩
    · have e : ws ++ v :: r = ws ++ [v] ++ r := by simp
      rw [e]; exact r2
    · have e : ws ++ v :: r = ws ++ [v] ++ r := by simp
      rw [e]; exact r3
    · have e : ws ++ v :: r = ws ++ [v] ++ r := by simp
      rw [e]; exact r4
theorem ext_iff {k : Nat} {b : Nat → Nat → Bool} (h : Tn k b) (hk : 3 ≤ k) : extB b k (k - 1) [0] = true ↔ Strong k b := by
  constructor
  · intro he
    obtain ⟨r, r1, r2, r3, r4⟩ := of_ext (k - 1) [] trivial (by simp) (by simp; omega) he
    rw [List.nil_append] at r2 r3 r4
    refine strong_of h r2 fun x hx => ?_
    apply Classical.byContradiction
    intro hm
    have := nodup_len_le (l := x :: 0 :: r) (l' := List.range k) (List.nodup_cons.2 ⟨hm, r3⟩) (fun y hy => by
      rcases List.mem_cons.1 hy with rfl | hy
      · exact List.mem_range.2 hx
      · exact List.mem_range.2 (r4 y hy))
    rw [List.length_range, List.length_cons, List.length_cons] at this; omega
  · intro hS
    obtain ⟨r, hr, hl⟩ := camion h hk hS
    have := ext_of (b := b) (k := k) (z := 0) r [] (by simpa using hr.ch) (by simpa using hr.nd) (fun x hx => hr.lt x (List.mem_cons_of_mem _ hx))
    rw [show k - 1 = r.length by omega]; exact this
end Go.Proofs.YtabkmceajgpdjaaDoor.To
