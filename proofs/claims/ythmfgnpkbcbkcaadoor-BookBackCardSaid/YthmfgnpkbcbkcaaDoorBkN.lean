import Derived.Test.YthmfgnpkbcbkcaaDoorBkC
/- new, text -/
set_option linter.all false
set_option maxRecDepth 100000
namespace Go.Proofs.YthmfgnpkbcbkcaaDoor
open Go.RowKit Go.Shelf Pl
def newB : BkT := ([0, 0, 0, 0, 0, 0, 0, 0], (⟨#[]⟩ : ByteArray), 0)
theorem bkNew_ok (w : World) :
    Calls Tryd.prog 15 #[] w fun e w' => ∃ g, e = .returned (.pointer (some ⟨g, 0, none⟩)) ∧ HP w' w.heap.size [bkI g newB] ∧ Below w.heap.size w w' := by
  go_enter Tryd.func15, Tryd.ntmps15
  go_wp2
  go_ret
  refine ⟨_, rfl, ?_, (Below.refl _ _).alloc (Nat.le_refl _) _⟩
  refine ⟨[owBk w.heap.size (.pointer none) (.slice none 0 0) newB.1 0, owU (.slice none 0 0) newB.2.1], ⟨?_, ?_⟩, .bk _ ⟨.inl rfl, .inl rfl⟩ .nil⟩
  · intro o ho
    simp only [List.mem_cons, List.not_mem_nil, or_false] at ho
    rcases ho with rfl | rfl
    · have := own_lit (w := w) (base := w.heap.size) (n := 1) (e := 58) (bkCells (.pointer none) (.slice none 0 0) newB.1 0).toArray 11 (by rfl) (Nat.le_refl _) (by unfold maxLen; omega)
      exact this
    · exact World.ownsRowF_nil _ _ _ _
  · refine List.pairwise_cons.2 ⟨fun o ho => ?_, List.pairwise_singleton _ _⟩
    obtain rfl := List.mem_singleton.1 ho
    intro g _ h; cases h
theorem bkText_ok {B g : Nat} {its1 its2 : List It} {b : BkT} (w : World) (h : HP w B (its1 ++ bkI g b :: its2)) (hB : B ≤ w.heap.size) :
    Calls Tryd.prog 18 #[.pointer (some ⟨g, 0, none⟩)] w fun e w' => e = .returned (.string b.2.1) ∧ HP w' B (its1 ++ bkI g b :: its2) ∧ Below B w w' := by
  go_enter Tryd.func18, Tryd.ntmps18
  go_wp2_with fail
  refine (bkString_ok w h hB).mono ?_; rintro e w' ⟨rfl, h2, hb⟩
  go_wp2_with fail
  go_ret
  exact ⟨rfl, h2, hb⟩
/-- the masks, read -/
def ReadsBk (w : World) (g : Nat) (ms : List Nat) : Prop := g < w.heap.size ∧ ms.length = 8 ∧ ∀ k, k < 8 → w.cell? ⟨g, k, none⟩ = some (.int .u64 ((ms.getD k 0 : Nat) : Int))
theorem rdBk {w W : World} {g : Nat} {ms : List Nat} (hb : Below w.heap.size w W) (h : ReadsBk w g ms) : ReadsBk W g ms :=
  ⟨Nat.lt_of_lt_of_le h.1 hb.size, h.2.1, fun k hk => (hb.cell (p := ⟨g, k, none⟩) h.1).trans (h.2.2 k hk)⟩
theorem ReadsBk.ix {w : World} {g : Nat} {ms : List Nat} {i : Int} {y : Nat} (h : ReadsBk w g ms) (hy : ix ms i = some y) : 0 ≤ i ∧ i < 8 ∧ w.cell? ⟨g, i.toNat, none⟩ = some (.int .u64 ((y : Nat) : Int)) := by
  unfold Go.Proofs.YthmfgnpkbcbkcaaDoor.ix at hy
  split at hy
  · rename_i h0
    obtain ⟨h1, h2⟩ := List.getElem?_eq_some_iff.1 hy
    have h8 := h.2.1
    refine ⟨h0, by omega, ?_⟩
    rw [h.2.2 i.toNat (by omega), List.getD_eq_getElem?_getD, hy]; rfl
  · cases hy
theorem HP.rdBk {W : World} {B g : Nat} {its1 its2 : List It} {b : BkT} (h : HP W B (its1 ++ bkI g b :: its2)) : ReadsBk W g b.1 := by
  obtain ⟨m1, m2, m3, m4, m5, m6⟩ := h.bkM
  exact ⟨World.block_lt_of_cell? _ _ m4, m2, m3⟩
theorem HP.callIt {W W' : World} {B : Nat} {its its' : List It} (h : HP W B its) (hb : Below W.heap.size W W') (hB : B ≤ W.heap.size) (ho : HP W' W.heap.size its') : HP W' B (its' ++ its) := by
  obtain ⟨L, h1, h2⟩ := h
  obtain ⟨L', h3, h4⟩ := ho
  have h1' := h1.below hb
  refine ⟨L' ++ L, ⟨fun x hx => ?_, List.pairwise_append.2 ⟨h3.2, h1.2, fun x hx y hy g hg hyg => ?_⟩⟩, Fl.join h4 h2⟩
  · rcases List.mem_append.1 hx with hx | hx
    · exact Ow.ok.weak (h3.1 x hx) hB
    · exact h1'.1 x hx
  · have a1 := (Ow.ok.lt (h3.1 x hx) g hg).1
    have a2 := (Ow.ok.lt (h1.1 y hy) g hyg).2
    omega
def bkNewM : Option BkT := some newB
theorem bkNewM_ok {y : BkT} (w : World) (h : bkNewM = some y) : Calls Tryd.prog 15 #[] w fun e w' => ∃ g, e = .returned (.pointer (some ⟨g, 0, none⟩)) ∧ HP w' w.heap.size [bkI g y] ∧ Below w.heap.size w w' := by
  obtain rfl := Option.some.inj h
  exact bkNew_ok w
def mText (b : BkT) : Option ByteArray := some b.2.1
theorem mText_ok {B g : Nat} {its1 its2 : List It} {b : BkT} {y : ByteArray} (w : World) (h : HP w B (its1 ++ bkI g b :: its2)) (hB : B ≤ w.heap.size) (hm : mText b = some y) :
    Calls Tryd.prog 18 #[.pointer (some ⟨g, 0, none⟩)] w fun e w' => e = .returned (.string y) ∧ HP w' B (its1 ++ bkI g b :: its2) ∧ Below B w w' := by
  obtain rfl := Option.some.inj hm
  exact bkText_ok w h hB
theorem mJoin_ok2 {B g : Nat} {its1 its2 : List It} {b b' : BkT} {i j e1 : Int} (w : World) (htb : TabB B w) (h : HP w B (its1 ++ bkI g b :: its2)) (hB : B ≤ w.heap.size) (hm : mJoin b i j = some (e1, b')) :
    Calls Tryd.prog 10 #[.pointer (some ⟨g, 0, none⟩), .int .i64 i, .int .i64 j] w fun e w' => e = .returned (errV 64 e1) ∧ HP w' B (its1 ++ bkI g b' :: its2) ∧ Below B w w' := mJoin_ok w htb h hB hm
theorem mCut_ok2 {B g : Nat} {its1 its2 : List It} {b b' : BkT} {i j e1 : Int} (w : World) (htb : TabB B w) (h : HP w B (its1 ++ bkI g b :: its2)) (hB : B ≤ w.heap.size) (hm : mCut b i j = some (e1, b')) :
    Calls Tryd.prog 13 #[.pointer (some ⟨g, 0, none⟩), .int .i64 i, .int .i64 j] w fun e w' => e = .returned (errV 64 e1) ∧ HP w' B (its1 ++ bkI g b' :: its2) ∧ Below B w w' := mCut_ok w htb h hB hm
end Go.Proofs.YthmfgnpkbcbkcaaDoor
