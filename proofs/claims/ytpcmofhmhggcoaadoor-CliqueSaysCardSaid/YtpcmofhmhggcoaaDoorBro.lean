import Derived.Test.YtpcmofhmhggcoaaDoorBSt
/- rows that are handed on: a row whose elements are rows of another one -/
set_option linter.all false
set_option maxRecDepth 100000
namespace Go.Proofs.YtpcmofhmhggcoaaDoor
open Go.RowKit
/-- the values vs are rows that hold ls in the world W -/
def Shr (W : World) (vs : List Value) (ls : List (List Int)) : Prop := vs.length = ls.length ∧ ∀ (k : Nat) (l : List Int), ls[k]? = some l → ∃ A' cap', vs[k]? = some (.slice A' l.length cap') ∧ ReadsI W W.heap.size A' l
theorem readsR_nil {w : World} {B : Nat} {A : Option Addr} : ReadsR w B A [] := ⟨[], ⟨rfl, fun h => by simp at h⟩, fun k l hl => by simp at hl⟩
def RdR (W : World) (V : Value) (ls : List (List Int)) : Prop := ∃ A cap, V = .slice A ls.length cap ∧ ReadsR W W.heap.size A ls
theorem Shr.nil (W : World) : Shr W [] [] := ⟨rfl, fun k l h => by simp at h⟩
theorem Shr.len {W : World} {vs : List Value} {ls : List (List Int)} (h : Shr W vs ls) : vs.length = ls.length := h.1
theorem Shr.snoc {W W' : World} {A A2 : Option Addr} {all : List (List Int)} {i : Int} {y : List Int} {b o c2 : Nat} {vs : List Value} {ls : List (List Int)} (hB : Below W.heap.size W W') (hr : ReadsR W W.heap.size A all) (hx : ix all i = some y) (eA : A = some ⟨b, o, none⟩)
    (hc : W'.cell? ⟨b, o + i.toNat, none⟩ = some (.slice A2 y.length c2)) (h : Shr W vs ls) : Shr W (vs ++ [.slice A2 y.length c2]) (ls ++ [y]) := by
  obtain ⟨b', o', A', cap', ea, hb, h0, h1, h2, h3⟩ := ReadsR.ix hr hx
  have e := eA.symm.trans ea
  injection e with e; injection e with e1 e2 _
  subst e1; subst e2
  have e3 := hB.cell (p := ⟨b, o + i.toNat, none⟩) hb
  rw [e3] at hc
  have e4 := hc.symm.trans h2
  injection e4 with e4; injection e4 with e5 _ e6
  subst e5; subst e6
  refine ⟨by simp [h.1], fun k l hl => ?_⟩
  by_cases hk : k < ls.length
  · rw [List.getElem?_append_left hk] at hl
    rw [List.getElem?_append_left (by rw [h.1]; exact hk)]
    exact h.2 k l hl
  · rw [List.getElem?_append_right (by omega)] at hl
    rw [List.getElem?_append_right (by rw [h.1]; omega), h.1]
    match hq : k - ls.length, hl with
    | 0, hl => simp at hl; subst hl; exact ⟨_, _, rfl, h3⟩
    | q+1, hl => simp at hl
theorem Shr.reads {W W' : World} {its : List It} {V : Value} {vs : List Value} {ls : List (List Int)} (h : Shr W vs ls) (hp : HP W' W.heap.size its) (hB : Below W.heap.size W W') (hm : It.fl (owV V vs) ∈ its) :
    ∃ A cap, V = .slice A ls.length cap ∧ ReadsR W' W'.heap.size A ls := by
  obtain ⟨A, cap, e, hr⟩ := own_reads (hp.get hm)
  have e' : V = .slice A vs.length cap := e
  have hr' : Reads W' W'.heap.size 1 A vs.length vs := hr
  refine ⟨A, cap, by rw [e', h.1], vs, by rw [← h.1]; exact hr', fun k l hl => ?_⟩
  obtain ⟨A', cap', h1, h2⟩ := h.2 k l hl
  exact ⟨A', cap', h1, rdI hB h2⟩
section
variable {ops : Array Oper} {rest : List Oper} {o : Oper} {a : Act} {Q : Exit → Act → World → Prop}
/-- append(out, row), out a row of rows that are not owned -/
theorem hp_appV (W : World) (s x : Operand) (t : TypeId) (ht : Tryd.prog.underlying t = some (.slice 43)) (hgd : o.guard = none)
    (ho : o.op = .call { callee := .builtin .append, args := #[s, x], argTypes := #[t, t] })
    {B : Nat} {e' : TypeId} {its1 its2 : List It} {V u : Value} {vs : List Value} (h : HP W B (its1 ++ .fl (owV V vs) :: its2)) (hs : a.eval s = V) (hx : a.eval x = .slice (some ⟨W.heap.size, 0, none⟩) 1 1) (h1 : u.oneCell' = true)
    (hlen : vs.length < 2000000000) (hB : B ≤ W.heap.size)
    (hk : ∀ v' w', HP w' B (its1 ++ .fl (owV v' (vs ++ [u])) :: its2) → Below B W w' → wpList Tryd.prog ops Q rest (a.put o.dst v') w') :
    wpList Tryd.prog ops Q (o :: rest) a (W.alloc (.cells #[u] e')) := by
  obtain ⟨i0, hi0, hz0, hz1, hz2⟩ := info_parts row1_info
  obtain ⟨M1, M2, hoa, hback⟩ := h.getAt
  have hrow : W.ownsRow B 43 1 V vs.length vs := hoa.get (o := owV V vs) (by simp)
  refine wp_app1 W s x t hgd ho B 43 e' i0 _ 1 24 ht hi0 hz0 hz1 hz2 rfl (by omega) V vs.length vs hs hrow [u] hx rfl (by simpa using h1) (by omega) (by omega) hB ?_
  intro v' w' hown hg hblk hb
  refine hk v' w' (hback _ _ (OA.upd (W := W) (o := owV V vs) hoa hg ?_ ?_)) hb
  · show w'.ownsRow B 43 1 v' (vs ++ [u]).length (vs ++ [u])
    rw [List.length_append]; exact hown
  · rcases hblk with e | e
    · exact .inl e
    · exact .inr ⟨_, e, by omega⟩
end
end Go.Proofs.YtpcmofhmhggcoaaDoor
