import Derived.Test.YtpbkepajgdmbpaaDoorTrEv
import Derived.Test.YtpbkepajgdmbpaaDoorF1
/- plain: Prufer rows -/
set_option linter.all false
set_option maxRecDepth 100000
namespace Go.Proofs.YtpbkepajgdmbpaaDoor
open Go.RowKit Pl
def rem (R : Nat → Bool) (i : Nat) : Nat → Bool := fun v => R v && !(v == i)
def dg (adj : Nat → Nat → Bool) (R : Nat → Bool) (v : Nat) : Nat := ((List.range 16).filter (fun j => R j && adj v j)).length
def occ (v : Nat) (ps : List (Nat × Nat)) : Nat := (ps.filter (fun p => p.2 == v)).length
def Pl0 (adj : Nat → Nat → Bool) : List (Nat × Nat) → (Nat → Bool) → (Nat → Bool) → Prop
  | [], R, R' => R' = R
  | (i, u) :: ps, R, R' => R i = true ∧ R u = true ∧ adj i u = true ∧ (∀ j, R j = true → adj i j = true → j = u) ∧ Pl0 adj ps (rem R i) R'
def Cd : List (Nat × Nat) → (Nat → Bool) → Prop
  | [], _ => True
  | (i, u) :: ps, R => R i = true ∧ occ i ((i, u) :: ps) = 0 ∧ (∀ v, v < i → R v = true → occ v ((i, u) :: ps) ≠ 0) ∧ Cd ps (rem R i)
theorem rem_true {R : Nat → Bool} {i v : Nat} : rem R i v = true ↔ R v = true ∧ v ≠ i := by unfold rem; simp
theorem rem_of {R : Nat → Bool} {i v : Nat} (h : rem R i v = true) : R v = true := (rem_true.1 h).1
theorem pl_snd {adj : Nat → Nat → Bool} : ∀ {ps : List (Nat × Nat)} {R R' : Nat → Bool}, Pl0 adj ps R R' → ∀ p ∈ ps, R p.2 = true
  | [], _, _, _, p, hp => by cases hp
  | (i, u) :: ps, R, R', h, p, hp => by
    obtain ⟨h1, h2, h3, h4, h5⟩ := h
    rcases List.mem_cons.1 hp with e | hp
    · subst e; exact h2
    · exact rem_of (pl_snd h5 p hp)
theorem pl_sub {adj : Nat → Nat → Bool} : ∀ {ps : List (Nat × Nat)} {R R' : Nat → Bool}, Pl0 adj ps R R' → ∀ v, R' v = true → R v = true
  | [], _, _, h, v, hv => by rw [show _ = _ from h] at hv; exact hv
  | (i, u) :: ps, R, R', h, v, hv => by
    obtain ⟨h1, h2, h3, h4, h5⟩ := h
    exact rem_of (pl_sub h5 v hv)
theorem occ_zero {v : Nat} {ps : List (Nat × Nat)} (h : ∀ p ∈ ps, p.2 ≠ v) : occ v ps = 0 := by
  unfold occ
  rw [List.length_eq_zero_iff, List.filter_eq_nil_iff]
  intro p hp hb
  exact h p hp (by simpa using hb)
theorem occ_cons (v i u : Nat) (ps : List (Nat × Nat)) : occ v ((i, u) :: ps) = occ v ps + (if u = v then 1 else 0) := by
  unfold occ
  rw [List.filter_cons]
  by_cases e : u = v
  · rw [if_pos (by simpa using e), if_pos e]; rfl
  · rw [if_neg (by simpa using e), if_neg e]; rfl
theorem one_of {p : Nat → Bool} {u : Nat} (hu : u < 16) (h : ∀ j, j < 16 → (p j = true ↔ j = u)) : ((List.range 16).filter p).length = 1 := by
  have : (List.range 16).filter p = (List.range 16).filter (fun v => v == u) := by
    apply List.filter_congr
    intro x hx
    have := h x (List.mem_range.1 hx)
    by_cases e : x = u
    · rw [this.2 e]; simp [e]
    · have : p x = false := by cases hq : p x with | false => rfl | true => exact absurd (this.1 hq) e
      rw [this]; simp [e]
  rw [this]
  exact once_len u _ List.nodup_range (List.mem_range.2 hu)
theorem dg_rem {adj : Nat → Nat → Bool} {R : Nat → Bool} {i v : Nat} (hi : R i = true) (h16 : i < 16) : dg adj R v = dg adj (rem R i) v + (if adj v i = true then 1 else 0) := by
  unfold dg
  rw [cnt3 (fun j => R j && adj v j) (fun j => rem R i j && adj v j) (fun j => (j == i) && adj v i) (List.range 16) (by
    intro x _
    by_cases e : x = i
    · subst e; simp [rem, hi]
    · have : (x == i) = false := by simpa using e
      simp [rem, this])]
  congr 1
  by_cases ha : adj v i = true
  · rw [if_pos ha]
    exact one_of h16 (fun j _ => by simp [ha])
  · rw [if_neg ha, List.length_eq_zero_iff, List.filter_eq_nil_iff]
    intro x _ hb
    simp at hb
    exact ha hb.2
theorem pl_cnt {adj : Nat → Nat → Bool} (hs : ∀ a b, adj a b = true → adj b a = true) (hne : ∀ a, adj a a = false) : ∀ {ps : List (Nat × Nat)} {R R' : Nat → Bool}, Pl0 adj ps R R' → (∀ v, R v = true → v < 16) →
    (∀ v, R' v = true → dg adj R' v = 1) → ∀ v, R v = true → dg adj R v = occ v ps + 1
  | [], R, R', h, hl, hf, v, hv => by
    have e : R' = R := h
    subst e
    rw [hf v hv]; rfl
  | (i, u) :: ps, R, R', h, hl, hf, v, hv => by
    obtain ⟨h1, h2, h3, h4, h5⟩ := h
    have hl' : ∀ v, rem R i v = true → v < 16 := fun v hv => hl v (rem_of hv)
    have hiu : u ≠ i := fun e => by subst e; rw [hne] at h3; cases h3
    rw [occ_cons]
    by_cases e : v = i
    · subst e
      rw [if_neg hiu, occ_zero (fun p hp e => by have := rem_true.1 (pl_snd h5 p hp); exact this.2 e)]
      unfold dg
      rw [one_of (hl u h2) (fun j _ => ⟨fun hb => by simp at hb; exact h4 j hb.1 hb.2, fun e => by subst e; simp [h2, h3]⟩)]
    · have hr : rem R i v = true := rem_true.2 ⟨hv, e⟩
      rw [dg_rem h1 (hl i h1), pl_cnt hs hne h5 hl' hf v hr]
      by_cases eu : u = v
      · subst eu
        rw [if_pos rfl, if_pos (hs _ _ h3)]
      · rw [if_neg eu, if_neg (fun ha => eu (h4 v hv (hs _ _ ha)).symm)]
/-! ### trees -/
section
variable {k : Nat} {A : Nat → Nat → Prop} {d : Nat → Nat → Nat}
def Cvx (T : Tr k A d) (R : Nat → Bool) : Prop := ∀ a b v, R a = true → R b = true → T.btw a b v → R v = true
theorem max_ex (f : Nat → Nat) (R : Nat → Bool) : ∀ n b, b < n → R b = true → ∃ v, v < n ∧ R v = true ∧ ∀ j, j < n → R j = true → f j ≤ f v
  | 0, b, h, _ => by omega
  | n+1, b, h, hb => by
    by_cases ex : ∃ b', b' < n ∧ R b' = true
    · obtain ⟨b', h1, h2⟩ := ex
      obtain ⟨v, v1, v2, v3⟩ := max_ex f R n b' h1 h2
      by_cases hn : R n = true ∧ f v < f n
      · refine ⟨n, by omega, hn.1, fun j hj hr => ?_⟩
        rcases Nat.lt_or_ge j n with h | h
        · have := v3 j h hr; omega
        · have : j = n := by omega
          subst this; exact Nat.le_refl _
      · refine ⟨v, by omega, v2, fun j hj hr => ?_⟩
        rcases Nat.lt_or_ge j n with h | h
        · exact v3 j h hr
        · have : j = n := by omega
          subst this
          exact Nat.le_of_not_lt fun hlt => hn ⟨hr, hlt⟩
    · have : b = n := by
        rcases Nat.lt_or_ge b n with h' | h'
        · exact absurd ⟨b, h', hb⟩ ex
        · omega
      subst this
      refine ⟨b, by omega, hb, fun j hj hr => ?_⟩
      rcases Nat.lt_or_ge j b with h | h
      · exact absurd ⟨j, h, hr⟩ ex
      · have : j = b := by omega
        subst this; exact Nat.le_refl _
theorem leaf_ex (T : Tr k A d) {R : Nat → Bool} (hR : ∀ v, R v = true → v < k) (hc : Cvx T R) {a b : Nat} (ha : R a = true) (hb : R b = true) (hab : b ≠ a) :
    ∃ v u, R v = true ∧ v ≠ a ∧ R u = true ∧ A v u ∧ ∀ j, R j = true → A v j → j = u := by
  have hak := hR a ha
  obtain ⟨v, v1, v2, v3⟩ := max_ex (d a) R k b (hR b hb) hb
  have hva : v ≠ a := fun e => by
    subst e
    have := v3 b (hR b hb) hb
    rw [T.zero v hak] at this
    exact hab (T.eq_of_zero hak (hR b hb) (by omega))
  obtain ⟨u, hu⟩ := T.up_ex hak v1 hva
  have huk := T.up_lt hu
  have huR : R u = true := hc a v u ha v2 ⟨huk, by rw [hu.2, T.one hu.1]⟩
  refine ⟨v, u, v2, hva, huR, T.sym _ _ hu.1, fun j hj hvj => ?_⟩
  by_cases hup : T.up a v j
  · exact T.uniq a j u v hak hup.1 hu.1 hup.2 hu.2
  · have := T.far hak (T.sym _ _ hvj) hup
    have := v3 j (hR j hj) hj
    omega
theorem cvx_rem (T : Tr k A d) {R : Nat → Bool} (hR : ∀ v, R v = true → v < k) (hc : Cvx T R) {i u : Nat} (hi : R i = true) (hu : ∀ j, R j = true → A i j → j = u) : Cvx T (rem R i) := by
  intro a b v ha0 hb0 hv
  obtain ⟨ha, hai⟩ := rem_true.1 ha0
  obtain ⟨hb, hbi⟩ := rem_true.1 hb0
  refine rem_true.2 ⟨hc a b v ha hb hv, fun e => ?_⟩
  subst e
  have hak := hR a ha; have hbk := hR b hb; have hik := hR v hi
  obtain ⟨x, hx⟩ := T.up_ex hak hik (Ne.symm hai)
  obtain ⟨y, hy⟩ := T.up_ex hbk hik (Ne.symm hbi)
  have xR : R x = true := hc a v x ha hi ⟨T.up_lt hx, by rw [hx.2, T.one hx.1]⟩
  have yR : R y = true := hc b v y hb hi ⟨T.up_lt hy, by rw [hy.2, T.one hy.1]⟩
  have ex := hu x xR (T.sym _ _ hx.1)
  have ey := hu y yR (T.sym _ _ hy.1)
  subst ex; subst ey
  have h1 := T.tri hak (T.up_lt hx) hbk
  have h2 := T.symd (T.up_lt hx) hbk
  have h3 := T.symd hik hbk
  have h4 := hv.2; have h5 := hx.2; have h6 := hy.2
  omega
end
end Go.Proofs.YtpbkepajgdmbpaaDoor
