import Derived.Test.YtcbalejnkhnppaaDoorHp
import Derived.Test.YtcbalejnkhnppaaDoorFwT
import Derived.Test.YtcbalejnkhnppaaDoorHr
/- plain: ChordalRings -/
set_option linter.all false
set_option maxRecDepth 100000
namespace Go.Proofs.YtcbalejnkhnppaaDoor
open Go.RowKit Go.Shelf Pl
def dgS (a : Nat → Nat → Bool) (S v : Nat) : Nat := ((memb S).filter (a v)).length
def inS (S : Nat) : Nat → Prop := fun u => S.testBit u = true
/-- four points or more, each beside two, that hang together -/
def Hole (a : Nat → Nat → Bool) (S : Nat) : Prop := 4 ≤ (memb S).length ∧ (∀ v, S.testBit v = true → dgS a S v = 2) ∧ ∀ u v, S.testBit u = true → S.testBit v = true → ∃ n, WU a (inS S) n u v
theorem two_nb {a : Nat → Nat → Bool} {S x u w : Nat} (hS : S < 65536) (h : dgS a S x = 2) (hu : S.testBit u = true) (hw : S.testBit w = true) (huw : u ≠ w) (e1 : a x u = true) (e2 : a x w = true) {z : Nat} (hz : S.testBit z = true) (e3 : a x z = true) : z = u ∨ z = w := by
  refine Classical.byContradiction fun q => ?_
  have q1 : z ≠ u := fun e => q (.inl e)
  have q2 : z ≠ w := fun e => q (.inr e)
  have := nodup_len_le (l := [z, u, w]) (l' := (memb S).filter (a x)) (by simp [q1, q2, huw]) (fun t ht => by
    have hm : ∀ t, S.testBit t = true → a x t = true → t ∈ (memb S).filter (a x) := fun t h1 h2 => List.mem_filter.2 ⟨(mem_memb hS).2 h1, h2⟩
    simp at ht
    rcases ht with rfl | rfl | rfl
    · exact hm _ hz e3
    · exact hm _ hu e1
    · exact hm _ hw e2)
  unfold dgS at h
  rw [h] at this
  simp at this
theorem closed_walk {a : Nat → Nat → Bool} {U K : Nat → Prop} (hK : ∀ z z', K z → U z → U z' → a z z' = true → K z') : ∀ {n z t : Nat}, WU a U n z t → K z → K t
  | 0, z, t, h, hz => by obtain ⟨rfl, _⟩ := h.zero; exact hz
  | n+1, z, t, h, hz => by
    obtain ⟨y, h1, h2, h3⟩ := h.un
    have hy : U y := by
      obtain ⟨g, g1, _, g3, _⟩ := h3
      have := g3 0 (Nat.zero_le _); rwa [g1] at this
    exact closed_walk hK h3 (hK z y hz h1 hy h2)
theorem hole_no {a : Nat → Nat → Bool} (hs : ∀ i j, a i j = a j i) (hirr : ∀ v, a v v = false) {k S : Nat} (h8 : k ≤ 8) (hlt : S < 2 ^ k) (H : Hole a S) : ¬ Peels a k := fun P => by
  have hp := Nat.pow_le_pow_right (n := 2) (by omega) h8
  have hS : S < 65536 := by omega
  obtain ⟨H1, H2, H3⟩ := H
  have hz : S ≠ 0 := fun e => by
    rw [e] at H1
    have : (memb 0).length = 0 := by decide
    omega
  obtain ⟨v, hv, hsv⟩ := P S hz hlt
  have hne : ∀ x y, a x y = true → x ≠ y := fun x y e q => by rw [q, hirr] at e; cases e
  have hd := H2 v hv
  unfold dgS at hd
  obtain ⟨u, w, hl⟩ : ∃ u w, (memb S).filter (a v) = [u, w] := by
    match (memb S).filter (a v), hd with
    | [u, w], _ => exact ⟨u, w, rfl⟩
  have hnd : ((memb S).filter (a v)).Nodup := List.Pairwise.filter _ (membNd S)
  have hmu : u ∈ (memb S).filter (a v) := by rw [hl]; simp
  have hmw : w ∈ (memb S).filter (a v) := by rw [hl]; simp
  have huw : u ≠ w := by rw [hl] at hnd; simpa using hnd
  obtain ⟨u1, u2⟩ := List.mem_filter.1 hmu
  obtain ⟨w1, w2⟩ := List.mem_filter.1 hmw
  have hu := (mem_memb hS).1 u1
  have hw := (mem_memb hS).1 w1
  have hadj := hsv u w hu hw u2 w2 huw
  have hK : ∀ z z', (z = v ∨ z = u ∨ z = w) → inS S z → inS S z' → a z z' = true → (z' = v ∨ z' = u ∨ z' = w) := by
    rintro z z' (rfl | rfl | rfl) h1 h2 e
    · rcases two_nb hS (H2 _ hv) hu hw huw u2 w2 h2 e with q | q
      · exact .inr (.inl q)
      · exact .inr (.inr q)
    · rcases two_nb hS (H2 _ hu) hv hw (hne _ _ w2) (by rw [hs]; exact u2) hadj h2 e with q | q
      · exact .inl q
      · exact .inr (.inr q)
    · rcases two_nb hS (H2 _ hw) hv hu (hne _ _ u2) (by rw [hs]; exact w2) (by rw [hs]; exact hadj) h2 e with q | q
      · exact .inl q
      · exact .inr (.inl q)
  have := nodup_len_le (l := memb S) (l' := [v, u, w]) (membNd S) (fun t ht => by
    obtain ⟨n, hn⟩ := H3 v t hv ((mem_memb hS).1 ht)
    have := closed_walk hK hn (.inl rfl)
    simpa using this)
  simp at this
  omega
theorem hole_of {a : Nat → Nat → Bool} (hs : ∀ i j, a i j = a j i) (hirr : ∀ v, a v v = false) {k : Nat} (h8 : k ≤ 8) (hP : ¬ Peels a k) : ∃ S, S < 2 ^ k ∧ Hole a S := by
  have hp := Nat.pow_le_pow_right (n := 2) (by omega) h8
  obtain ⟨L, c, hL, hc, hI, hE⟩ := hole_ex hs hirr h8 hP
  have hI' : ∀ s t, s < L → t < L → c s = c t → s = t := fun s t h1 h2 e => by
    rcases Nat.lt_trichotomy s t with q | q | q
    · exact absurd e (hI s t q h2)
    · exact q
    · exact absurd e.symm (hI t s q h1)
  have hlt : maskOf ((List.range L).map c) < 2 ^ k := maskOf_lt fun x hx => by
    obtain ⟨s, hs', rfl⟩ := List.mem_map.1 hx
    exact hc s (List.mem_range.1 hs')
  obtain ⟨S, hSe⟩ : ∃ S, S = maskOf ((List.range L).map c) := ⟨_, rfl⟩
  rw [← hSe] at hlt
  have hS : S < 65536 := by omega
  have hb : ∀ v, S.testBit v = true ↔ ∃ s, s < L ∧ c s = v := fun v => by
    rw [hSe, maskOf_bit, decide_eq_true_eq, List.mem_map]
    exact ⟨fun ⟨s, h1, h2⟩ => ⟨s, List.mem_range.1 h1, h2⟩, fun ⟨s, h1, h2⟩ => ⟨s, List.mem_range.2 h1, h2⟩⟩
  have hnext : ∀ s, s + 1 < L → a (c s) (c (s+1)) = true := fun s h => (hE s (s+1) (by omega) h).2 (.inl rfl)
  have hlast : a (c 0) (c (L-1)) = true := (hE 0 (L-1) (by omega) (by omega)).2 (.inr ⟨rfl, by omega⟩)
  refine ⟨S, hlt, ?_, fun v hv => ?_, fun u v hu hv => ?_⟩
  · have := nodup_len_le (l := (List.range 4).map c) (l' := memb S) (by
      unfold List.Nodup
      rw [List.pairwise_map]
      refine List.Pairwise.imp_of_mem ?_ (List.nodup_range (n := 4))
      intro i j hi hj hne e
      have := List.mem_range.1 hi; have := List.mem_range.1 hj
      exact hne (hI' i j (by omega) (by omega) e)) (fun x hx => by
      obtain ⟨s, hs', rfl⟩ := List.mem_map.1 hx
      exact (mem_memb hS).2 ((hb _).2 ⟨s, by have := List.mem_range.1 hs'; omega, rfl⟩))
    rw [List.length_map, List.length_range] at this; exact this
  · obtain ⟨s, hsL, rfl⟩ := (hb v).1 hv
    obtain ⟨nx, pv, n1, n2, n3, e1, e2, hall⟩ : ∃ nx pv, nx < L ∧ pv < L ∧ nx ≠ pv ∧ a (c s) (c nx) = true ∧ a (c s) (c pv) = true ∧ ∀ t, t < L → a (c s) (c t) = true → t = nx ∨ t = pv := by
      have hadj : ∀ t, t < L → a (c s) (c t) = true → t = s + 1 ∨ (s = 0 ∧ t + 1 = L) ∨ s = t + 1 ∨ (t = 0 ∧ s + 1 = L) := fun t ht e => by
        rcases Nat.lt_trichotomy s t with q | q | q
        · rcases (hE s t q ht).1 e with z | z
          · exact .inl z
          · exact .inr (.inl z)
        · subst q; rw [hirr] at e; cases e
        · rw [hs] at e
          rcases (hE t s q hsL).1 e with z | z
          · exact .inr (.inr (.inl z))
          · exact .inr (.inr (.inr z))
      by_cases c0 : s = 0
      · subst c0
        exact ⟨1, L-1, by omega, by omega, by omega, hnext 0 (by omega), hlast, fun t ht e => by have := hadj t ht e; omega⟩
      · obtain ⟨r, rfl⟩ : ∃ r, s = r + 1 := ⟨s - 1, by omega⟩
        by_cases c1 : r + 1 + 1 = L
        · exact ⟨0, r, by omega, by omega, by omega, by rw [hs]; rw [show L - 1 = r + 1 by omega] at hlast; exact hlast, by rw [hs]; exact hnext r (by omega), fun t ht e => by have := hadj t ht e; omega⟩
        · exact ⟨r + 2, r, by omega, by omega, by omega, hnext (r+1) (by omega), by rw [hs]; exact hnext r (by omega), fun t ht e => by have := hadj t ht e; omega⟩
    have hne : c nx ≠ c pv := fun e => n3 (hI' _ _ n1 n2 e)
    have l1 := nodup_len_le (l := [c nx, c pv]) (l' := (memb S).filter (a (c s))) (by simp [hne]) (fun t ht => by
      simp at ht
      rcases ht with rfl | rfl
      · exact List.mem_filter.2 ⟨(mem_memb hS).2 ((hb _).2 ⟨nx, n1, rfl⟩), e1⟩
      · exact List.mem_filter.2 ⟨(mem_memb hS).2 ((hb _).2 ⟨pv, n2, rfl⟩), e2⟩)
    have l2 := nodup_len_le (l := (memb S).filter (a (c s))) (l' := [c nx, c pv]) (List.Pairwise.filter _ (membNd S)) (fun t ht => by
      obtain ⟨h1, h2⟩ := List.mem_filter.1 ht
      obtain ⟨r, hr, rfl⟩ := (hb t).1 ((mem_memb hS).1 h1)
      rcases hall r hr h2 with rfl | rfl <;> simp)
    unfold dgS
    simp at l1 l2
    omega
  · obtain ⟨s, hsL, rfl⟩ := (hb u).1 hu
    obtain ⟨t, htL, rfl⟩ := (hb v).1 hv
    have up : ∀ i j, i ≤ j → j < L → WU a (inS S) (j - i) (c i) (c j) := fun i j hij hj => ⟨fun x => c (i + x), rfl, by show c (i + (j - i)) = c j; rw [show i + (j - i) = j by omega], fun x hx => (hb _).2 ⟨i + x, by omega, rfl⟩, fun x hx => hnext (i + x) (by omega)⟩
    rcases Nat.le_total s t with q | q
    · exact ⟨_, up s t q htL⟩
    · exact ⟨_, (up t s q hsL).rev hs⟩
end Go.Proofs.YtcbalejnkhnppaaDoor
