import Derived.Test.YtgnbholhgcbhfaaNe
import Derived.Test.YtgnbholhgcbhfaaT5
import Derived.Test.YtgnbholhgcbhfaaFwT
/- TreeJordan -/
set_option linter.all false
set_option maxRecDepth 100000
namespace Go.Proofs.Ytgnbholhgcbhfaa
open Go.RowKit Pl
namespace Tr
variable {k : Nat} {A : Nat → Nat → Prop} {d : Nat → Nat → Nat} (T : Tr k A d)
include T
/-- a point on the way between two, at a given distance -/
theorem on_ex {a b : Nat} (ha : a < k) (hb : b < k) : ∀ n, n ≤ d a b → ∃ v, T.btw a b v ∧ d a v = n := by
  have key : ∀ q, q ≤ d a b → ∃ v, T.btw a b v ∧ d v b = q := by
    have : ∀ r v, T.btw a b v → d v b = r → ∀ q, q ≤ r → ∃ v', T.btw a b v' ∧ d v' b = q := by
      intro r
      induction r with
      | zero => intro v hv e q hq; exact ⟨v, hv, by omega⟩
      | succ r ih =>
        intro v hv e q hq
        by_cases c : q = r + 1
        · exact ⟨v, hv, by omega⟩
        · have hne : v ≠ b := fun e2 => by subst e2; rw [T.zero v hb] at e; omega
          obtain ⟨w, hw⟩ := T.up_ex hb hv.1 hne
          obtain ⟨h1, _⟩ := T.btw_up ha hb hv hw
          have h2 := hw.2
          rw [T.symd hb hv.1, T.symd hb h1.1] at h2
          exact ih w h1 (by omega) q (by omega)
    exact fun q hq => this (d a b) a (T.btw_l ha hb) rfl q hq
  intro n hn
  obtain ⟨v, hv, e⟩ := key (d a b - n) (by omega)
  exact ⟨v, hv, by have := hv.2; omega⟩
theorem on_one {a b v v' : Nat} (ha : a < k) (hb : b < k) (hv : T.btw a b v) (hv' : T.btw a b v') (e : d a v = d a v') : v = v' :=
  T.on_uniq ha hb (d v b) v v' rfl (by have := hv.2; have := hv'.2; omega) hv hv'
end Tr
section
variable {k : Nat} {l : List (Int × Int)}
/-- two points that are farthest apart -/
theorem ends_ex (G : Good k l) : ∃ a b, a < k ∧ b < k ∧ dst k l a b = diam k l ∧ ∀ x y, x < k → y < k → dst k l x y ≤ diam k l := by
  have h0 : 0 < k := G.pos
  obtain ⟨a, ha, e1⟩ := mx_at (f := ecc k l) h0
  obtain ⟨b, hb, e2⟩ := mx_at (f := dst k l a) h0
  refine ⟨a, b, ha, hb, e2.trans e1, fun x y hx hy => ?_⟩
  exact Nat.le_trans (le_mx (f := dst k l x) hy) (le_mx (f := ecc k l) hx)
/-- a point of the way is as far from all as from one of the ends -/
theorem on_ecc (G : Good k l) {a b x y : Nat} (ha : a < k) (hb : b < k) (hab : dst k l a b = diam k l) (hmax : ∀ x y, x < k → y < k → dst k l x y ≤ diam k l) (hx : (tr_of G).btw a b x) (hy : y < k) :
    dst k l x y ≤ max (dst k l a x) (dst k l x b) := by
  have T := tr_of G
  obtain ⟨m, h1, h2, h3⟩ := T.meet_ex (r := y) (a := a) (b := b) hy ha hb
  -- m is on all three ways
  have hmk := h1.1
  have e1 := h1.2; have e2 := h2.2; have e3 := h3.2
  have hx2 := hx.2
  have s1 := T.symd hb hmk; have s2 := T.symd hy hmk
  have m1 := hmax a y ha hy; have m2 := hmax b y hb hy
  have t1 := T.tri (a := x) (b := m) hx.1 hmk hy
  -- x and m both on the way from a to b
  rcases Nat.le_total (dst k l a m) (dst k l a x) with c | c
  · -- m before x
    have hd : dst k l x m + dst k l m a = dst k l x a := by
      obtain ⟨v, hv, ev⟩ := T.on_ex ha hx.1 (dst k l a m) c
      have hvb : T.btw a b v := ⟨hv.1, by
        have q1 := T.tri (a := a) (b := v) ha hv.1 hb
        have q2 := T.tri (a := v) (b := x) hv.1 hx.1 hb
        have := hv.2; omega⟩
      have : v = m := T.on_one ha hb hvb h1 ev
      subst this
      have := hv.2
      rw [T.symd hx.1 hmk, T.symd hmk ha, T.symd hx.1 ha]; omega
    have := T.symd hx.1 ha; have := T.symd hmk ha
    omega
  · -- x before m
    have hd : dst k l x m + dst k l m b = dst k l x b := by
      obtain ⟨v, hv, ev⟩ := T.on_ex hx.1 hb (dst k l a m - dst k l a x) (by have := h1.2; omega)
      have hvb : T.btw a b v := ⟨hv.1, by
        have q1 := T.tri (a := a) (b := v) ha hv.1 hb
        have q2 := T.tri (a := a) (b := x) ha hx.1 hv.1
        have := hv.2; omega⟩
      have hav : dst k l a v = dst k l a m := by
        have := hvb.2; have := hv.2; have := h1.2; omega
      have : v = m := T.on_one ha hb hvb h1 hav
      subst this
      have := hv.2; omega
    omega
/-- another point is farther than half the longest way from one of its ends -/
theorem far_end (G : Good k l) {a b x : Nat} (ha : a < k) (hb : b < k) (hx : x < k) : ∃ m, (tr_of G).btw a b m ∧ dst k l x a = dst k l x m + dst k l m a ∧ dst k l x b = dst k l x m + dst k l m b := by
  have T := tr_of G
  obtain ⟨m, h1, h2, h3⟩ := T.meet_ex (r := x) (a := a) (b := b) hx ha hb
  refine ⟨m, h1, ?_, ?_⟩
  · have := h2.2; rw [T.symd hx ha, T.symd hx h1.1, T.symd h1.1 ha]; omega
  · have := h3.2; rw [T.symd hx hb, T.symd hx h1.1, T.symd h1.1 hb]; omega
theorem ecc_le {a y : Nat} (hy : y < k) : dst k l a y ≤ ecc k l a := le_mx hy
theorem ecc_of {a B : Nat} (h : ∀ y, y < k → dst k l a y ≤ B) (h0 : 0 < k) : ecc k l a ≤ B := by
  obtain ⟨y, hy, e⟩ := mx_at (f := dst k l a) h0
  show mx _ k ≤ B
  rw [← e]; exact h y hy
/-- Jordan: the middle -/
theorem jordan (G : Good k l) : (∃ c, mids k l = [c] ∧ diam k l = 2 * rad k l) ∨ (∃ c e, mids k l = [c, e] ∧ Ad k l c e ∧ diam k l + 1 = 2 * rad k l) := by
  have T := tr_of G
  have h0 : 0 < k := G.pos
  obtain ⟨a, b, ha, hb, hab, hmax⟩ := ends_ex G
  obtain ⟨D, hD⟩ : ∃ D, diam k l = D := ⟨_, rfl⟩
  rw [hD] at hab hmax ⊢
  have hmax' : ∀ x y, x < k → y < k → dst k l x y ≤ diam k l := by rw [hD]; exact hmax
  have hab' : dst k l a b = diam k l := by rw [hD]; exact hab
  -- how far a point of the way is from the farthest one
  have hon : ∀ x, T.btw a b x → ecc k l x = max (dst k l a x) (dst k l x b) := fun x hx => by
    apply Nat.le_antisymm
    · exact ecc_of (fun y hy => on_ecc G ha hb hab' hmax' hx hy) h0
    · have := ecc_le (l := l) (a := x) ha; have := ecc_le (l := l) (a := x) hb
      rw [T.symd hx.1 ha] at *; omega
  -- no point is nearer than half
  have hlow : ∀ x, x < k → (D + 1) / 2 ≤ ecc k l x := fun x hx => by
    obtain ⟨m, h1, h2, h3⟩ := far_end G ha hb hx
    have := h1.2; have := ecc_le (l := l) (a := x) ha; have := ecc_le (l := l) (a := x) hb
    have := T.symd h1.1 ha
    omega
  have hat : ∀ x, x < k → ecc k l x = (D + 1) / 2 → T.btw a b x ∧ (dst k l a x = D / 2 ∨ dst k l a x = (D + 1) / 2) := fun x hx e => by
    obtain ⟨m, h1, h2, h3⟩ := far_end G ha hb hx
    have e1 := h1.2; have e2 := ecc_le (l := l) (a := x) ha; have e3 := ecc_le (l := l) (a := x) hb
    have e4 := T.symd h1.1 ha
    have hz : dst k l x m = 0 := by omega
    have : m = x := T.eq_of_zero hx h1.1 hz
    subst this
    exact ⟨h1, by have := T.symd h1.1 ha; omega⟩
  obtain ⟨c1, hc1, d1⟩ := T.on_ex ha hb (D / 2) (by omega)
  obtain ⟨c2, hc2, d2⟩ := T.on_ex ha hb ((D + 1) / 2) (by omega)
  have E1 : ecc k l c1 = (D + 1) / 2 := by rw [hon c1 hc1]; have := hc1.2; omega
  have E2 : ecc k l c2 = (D + 1) / 2 := by rw [hon c2 hc2]; have := hc2.2; omega
  have hrad : rad k l = (D + 1) / 2 := by
    apply Nat.le_antisymm
    · rw [← E1]; exact mn_le hc1.1
    · obtain ⟨y, hy, e⟩ := mn_at (f := ecc k l) h0
      show _ ≤ mn _ k
      rw [← e]; exact hlow y hy
  have hmem : ∀ x, x ∈ mids k l ↔ x = c1 ∨ x = c2 := fun x => by
    rw [mids_mem, hrad]
    constructor
    · rintro ⟨hx, e⟩
      obtain ⟨hb2, q⟩ := hat x hx e
      rcases q with q | q
      · exact .inl (T.on_one ha hb hb2 hc1 (by omega))
      · exact .inr (T.on_one ha hb hb2 hc2 (by omega))
    · rintro (rfl | rfl)
      · exact ⟨hc1.1, E1⟩
      · exact ⟨hc2.1, E2⟩
  have hnd : (mids k l).Nodup := List.nodup_range.filter _
  by_cases par : D % 2 = 0
  · have : c1 = c2 := T.on_one ha hb hc1 hc2 (by omega)
    subst this
    left
    refine ⟨c1, ?_, by omega⟩
    have hp : (mids k l).Perm [c1] := (List.perm_ext_iff_of_nodup hnd (by simp)).2 fun x => by rw [hmem]; simp
    exact List.perm_singleton.1 hp
  · right
    have hne : c1 ≠ c2 := fun e => by subst e; omega
    have hA : Ad k l c1 c2 := by
      -- the next one on the way
      have hne2 : c1 ≠ b := fun e => by
        subst e
        have q := hc1.2; rw [T.zero c1 hb] at q; omega
      obtain ⟨w, hw⟩ := T.up_ex hb hc1.1 hne2
      obtain ⟨h1, h2⟩ := T.btw_up ha hb hc1 hw
      have h3 := h2.2
      have : w = c2 := T.on_one ha hb h1 hc2 (by omega)
      subst this
      exact T.sym _ _ hw.1
    have hp : (mids k l).Perm [c1, c2] := (List.perm_ext_iff_of_nodup hnd (by simp [hne])).2 fun x => by rw [hmem]; simp
    have hl2 := hp.length_eq
    match hm : mids k l, hl2 with
    | [u, v], _ =>
      rw [hm] at hp hnd hmem
      have hu := (hmem u).1 (by simp)
      have hv := (hmem v).1 (by simp)
      have huv : u ≠ v := by simp at hnd; exact hnd
      refine ⟨u, v, rfl, ?_, by omega⟩
      rcases hu with rfl | rfl <;> rcases hv with rfl | rfl
      · exact absurd rfl huv
      · exact hA
      · exact T.sym _ _ hA
      · exact absurd rfl huv
end
theorem treeJordan_ev {n : Int} {l : List (Int × Int)} (hg : good n l) : L3_TreeJordan 300 n l = some true := by
  unfold L3_TreeJordan
  rw [fact_tree, Option.bind_some, if_pos rfl]
  by_cases h : errT n l = 0
  · obtain ⟨k, rfl, G⟩ := good_of hg h
    have hk := G.le; have hpos := G.pos; have hll := G.len
    rw [middle_ev G, Option.bind_some]
    dsimp only
    rw [if_neg (by decide), long_ev G, Option.bind_some]
    dsimp only
    have hml := mids_len (l := l) hk
    have hil : (intl (mids k l)).length = (mids k l).length := by simp [intl]
    have hall : allIn (intl (mids k l)) 0 ((k : Int) - 1) = true := by
      unfold allIn
      refine List.all_eq_true.2 fun x hx => ?_
      obtain ⟨a, ha, rfl⟩ := List.mem_map.1 hx
      have := (mids_mem.1 ha).1
      simp; omega
    rw [if_neg (by decide), R1_All_ev _ _ (by omega) (by omega), w64 (by omega) (by omega), hall, Option.bind_some, if_pos rfl, Option.bind_some, if_neg (by decide)]
    have hd : diam k l < 300 := by
      obtain ⟨a, b, ha, hb, e, _⟩ := ends_ex G
      have := dst_lt G ha hb; omega
    rcases jordan G with ⟨c, hm, hr⟩ | ⟨c, e, hm, hA, hr⟩
    · rw [hm]
      have h1 : (intl [c]).length = 1 := rfl
      rw [h1, if_pos (by decide), w64 (by omega) (by omega), if_pos (by rw [beq_iff_eq]; omega)]; rfl
    · rw [hm]
      have h1 : (intl [c, e]).length = 2 := rfl
      have i0 : ix (intl [c, e]) 0 = some (c : Int) := rfl
      have i1 : ix (intl [c, e]) 1 = some (e : Int) := rfl
      have hb : besL l (c : Int) (e : Int) = true := (besL_ad G.inl c e).2 hA
      rw [h1, if_neg (by decide), if_pos (by decide), i0, Option.bind_some, i1, Option.bind_some, R1_Beside_ev _ _ (by omega) (by omega), hb, Option.bind_some, if_pos rfl, Option.bind_some, if_pos rfl, show wrap64 (2 * (rad k l : Int)) = 2 * (rad k l : Int) from w64 (by omega) (by omega), w64 (by omega) (by omega), if_pos (by rw [beq_iff_eq]; omega)]; rfl
  · rw [middle_bad hg h, Option.bind_some]
    dsimp only
    rw [if_pos (by rw [bne_iff_ne]; exact h)]; rfl
theorem treeJordan_any (w : World) (n : Int) (hn : (Lit.int .i64 n).wf = true) (A : Option Addr) (cap : Nat) (l : List (Int × Int)) (hr : ReadsL w w.heap.size A l) (hl : l.length ≤ maxLen) :
    Calls Try.prog 5 #[.int .i64 n, .slice A l.length cap] w fun e w' => e = .returned (.bool true) ∧ Below w.heap.size w w' :=
  L3_TreeJordan_ok w cap hr (treeJordan_ev ⟨hn, hl⟩)
end Go.Proofs.Ytgnbholhgcbhfaa
