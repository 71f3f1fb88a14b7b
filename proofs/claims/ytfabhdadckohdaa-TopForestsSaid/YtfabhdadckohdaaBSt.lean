import Derived.Test.YtfabhdadckohdaaBox
/- rows of bools: reads, stores, make -/
set_option linter.all false
set_option maxRecDepth 100000
namespace Go.Proofs.Ytfabhdadckohdaa
open Go.RowKit
theorem upon_go {P : Program} {o : Oper} {a : Act} {K : Act → World → Prop} {Q : Exit → Act → World → Prop} {r : Result Next} (h : Oper.upon P o a K Q r) : Oper.upon P o a K Q r := h
def boolV (l : List Bool) : List Value := l.map Value.bool
def owB (v : Value) (l : List Bool) : Ow := ⟨4, 1, v, l.length, boolV l⟩
def ReadsB (W : World) (B : Nat) (A : Option Addr) (l : List Bool) : Prop := Reads W B 1 A l.length (boolV l)
theorem rdB {w W : World} {A : Option Addr} {l : List Bool} (h : Below w.heap.size w W) (hr : ReadsB w w.heap.size A l) : ReadsB W W.heap.size A l := Reads.more (Reads.below hr h) h.size
theorem ReadsB.drewN' {w : World} {B : Nat} {A : Option Addr} {l : List Bool} (h : ReadsB w B A l) (m : Nat) : ReadsB (w.drewN m) B A l := h
theorem ReadsB.ix {W : World} {B : Nat} {A : Option Addr} {l : List Bool} {i : Int} {x : Bool} (h : ReadsB W B A l) (hx : ix l i = some x) :
    ∃ b o, A = some ⟨b, o, none⟩ ∧ b < B ∧ 0 ≤ i ∧ i < (l.length : Int) ∧ W.cell? ⟨b, o + i.toNat, none⟩ = some (.bool x) := by
  obtain ⟨h0, h1, h2⟩ := ix_some hx
  obtain ⟨b, o, e, hb, hc⟩ := h.2 (by omega)
  exact ⟨b, o, e, hb, h0, h1, hc _ _ (by simp [boolV, h2])⟩
theorem HP.open_B {W : World} {B : Nat} {its : List It} {v : Value} {l : List Bool} (h : HP W B its) (ho : It.fl (owB v l) ∈ its) : ∃ A cap, v = .slice A l.length cap ∧ ReadsB W W.heap.size A l := own_reads (h.get ho)
theorem HP.rd_B {W : World} {B : Nat} {its : List It} {l : List Bool} {cap n : Nat} {A : Option Addr} (h : HP W B its) (ho : It.fl (owB (.slice A n cap) l) ∈ its) : ReadsB W W.heap.size A l := by
  obtain ⟨A', cap', e, hr⟩ := h.open_B ho; cases e; exact hr
theorem HP.len_B {W : World} {B n cap : Nat} {its : List It} {A : Option Addr} {l : List Bool} (h : HP W B its) (ho : It.fl (owB (.slice A n cap) l) ∈ its) : n = l.length := by
  obtain ⟨A', cap', e, _⟩ := h.open_B ho; cases e; rfl
theorem ownB_form {W : World} {B n cap : Nat} {A : Option Addr} {l : List Bool} (h : Ow.ok W B (owB (.slice A n cap) l)) (hl : 0 < l.length) : ∃ g, A = some ⟨g, 0, none⟩ ∧ n = l.length ∧ B ≤ g ∧ g < W.heap.size ∧
    (∀ k x, l[k]? = some x → W.cell? ⟨g, k, none⟩ = some (.bool x)) ∧ ∀ k, W.frozen? ⟨g, k, none⟩ = false := by
  rcases h.2 with ⟨h1, h2⟩ | ⟨g, cap', cur, e1, h2, h3, h4, h5, h6, h7⟩
  · have : (owB (.slice A n cap) l).n = l.length := rfl
    omega
  · have e1' : Value.slice A n cap = .slice (some ⟨g, 0, none⟩) l.length cap' := e1
    injection e1' with ea en ec
    subst ea; subst en; subst ec
    refine ⟨g, rfl, rfl, h2, (Array.getElem?_eq_some_iff.1 h3).1, fun k x hx => ?_, fun k => by simp [World.frozen?, h3]⟩
    have := World.ownsRow.cells h (g := g) rfl k (.bool x) (by show (boolV l)[k]? = _; simp [boolV, hx])
    rwa [show ((⟨g, 0, none⟩ : Addr).add k) = ⟨g, k, none⟩ from by unfold Addr.add; split <;> simp_all] at this
theorem HP.setB {W : World} {B n cap : Nat} {its1 its2 : List It} {A : Option Addr} {l : List Bool} (h : HP W B (its1 ++ .fl (owB (.slice A n cap) l) :: its2)) {i : Int} {x : Bool} (hi : 0 ≤ i ∧ i < (l.length : Int)) :
    ∃ g, A = some ⟨g, 0, none⟩ ∧ W.frozen? ⟨g, i.toNat, none⟩ = false ∧ (∃ u, W.cell? ⟨g, i.toNat, none⟩ = some u) ∧
      HP (W.setCell ⟨g, i.toNat, none⟩ (.bool x)) B (its1 ++ .fl (owB (.slice A n cap) (l.set i.toNat x)) :: its2) ∧ Below B W (W.setCell ⟨g, i.toNat, none⟩ (.bool x)) := by
  obtain ⟨g, rfl, rfl, hB, hg, hc, hf⟩ := ownB_form (l := l) (A := A) (n := n) (cap := cap) (h.get (o := owB (.slice A n cap) l) (by simp)) (by omega)
  obtain ⟨M1, M2, h1, h2⟩ := h.getAt
  obtain ⟨h3, h4⟩ := OA.set h1 (k := i.toNat) (u := .bool x) (show i.toNat < l.length by omega) rfl rfl
  refine ⟨g, rfl, hf _, ⟨_, hc i.toNat l[i.toNat] (List.getElem?_eq_getElem (by omega))⟩, h2 _ _ ?_, h4⟩
  have e : owB (.slice (some ⟨g, 0, none⟩) l.length cap) (l.set i.toNat x) = ⟨4, 1, .slice (some ⟨g, 0, none⟩) l.length cap, l.length, (boolV l).set i.toNat (.bool x)⟩ := by
    unfold owB boolV; rw [List.length_set, List.map_set]
  rw [e]; exact h3
/-- a row of n times false -/
def mkB (n : Int) : Option (List Bool) := if 0 ≤ n ∧ n < 1000000000 then some (List.replicate n.toNat false) else none
theorem mkB_some {n : Int} {r : List Bool} (h : mkB n = some r) : (0 ≤ n ∧ n < 1000000000) ∧ List.replicate n.toNat false = r := s_of h
theorem bool_info : (Try.prog.info? 4).map (fun i => (i.zero, i.size, i.bytes)) = some (some (.bool false), 1, 1) := by kernel_rfl
theorem run_makeB {n : Int} (h : 0 ≤ n ∧ n < 1000000000) (W : World) : (Instr.makeSlice 53 (.int .i64 n) (.int .i64 n)).run Try.prog W =
    .ok (.slice (some ⟨W.heap.size, 0, none⟩) n.toNat n.toNat) (W.alloc (.cells (Array.replicate n.toNat (Value.bool false)) 4)) := by
  obtain ⟨k, rfl⟩ := Int.eq_ofNat_of_zero_le h.1
  have := run_make_row' (P := Try.prog) 53 4 (.bool false) 1 Try.underlying53 bool_info rfl .i64 .i64 k (by omega) (by omega) W
  rw [Int.toNat_natCast, this]
  congr 3
  apply Array.ext'
  simp only [madeCells, Array.toList_map, Array.toList_range, Array.toList_replicate]
  rw [List.eq_replicate_iff]
  refine ⟨by simp, fun b hb => ?_⟩
  obtain ⟨x, _, rfl⟩ := List.mem_map.1 hb
  have : x % (#[Value.bool false] : Array Value).size = 0 := Nat.mod_one x
  rw [this]; rfl
theorem mkB_ok (W : World) {n : Int} (h : 0 ≤ n ∧ n < 1000000000) : (owB (.slice (some ⟨W.heap.size, 0, none⟩) n.toNat n.toNat) (List.replicate n.toNat false)).ok (W.alloc (.cells (Array.replicate n.toNat (Value.bool false)) 4)) W.heap.size := by
  have := own_lit (w := W) (base := W.heap.size) (n := n.toNat) (e := 4) (Array.replicate n.toNat (Value.bool false)) 1 (by simp) (Nat.le_refl _) (by unfold maxLen; omega)
  simpa [Ow.ok, owB, boolV, List.map_replicate] using this
theorem hp_appB {ops : Array Oper} {rest : List Oper} {o : Oper} {a : Act} {Q : Exit → Act → World → Prop} (W : World) (s x : Operand) (t : TypeId) (ht : Try.prog.underlying t = some (.slice 4)) (hgd : o.guard = none)
    (ho : o.op = .call { callee := .builtin .append, args := #[s, x], argTypes := #[t, t] })
    {B : Nat} {e' : TypeId} {L1 L2 : List It} {v : Value} {l : List Bool} {y : Bool} (h : HP W B (L1 ++ .fl (owB v l) :: L2)) (hs : a.eval s = v) (hx : a.eval x = .slice (some ⟨W.heap.size, 0, none⟩) 1 1)
    (hlen : l.length < 1000000000) (hB : B ≤ W.heap.size)
    (hk : ∀ v' w', HP w' B (L1 ++ .fl (owB v' (l ++ [y])) :: L2) → Below B W w' → wpList Try.prog ops Q rest (a.put o.dst v') w') :
    wpList Try.prog ops Q (o :: rest) a (W.alloc (.cells #[Value.bool y] e')) := by
  obtain ⟨i0, hi0, hz0, hz1, hz2⟩ := info_parts bool_info
  obtain ⟨M1, M2, h1, h2⟩ := h.getAt
  obtain ⟨v', w', hrun, hown, hg, hblk, hb, hn⟩ := run_app1 (e' := e') W t o.type B 4 i0 _ 1 1 ht hi0 hz0 hz1 hz2 rfl (by omega) v l.length (boolV l) (h1.get (o := owB v l) (by simp)) [.bool y] rfl (by simp [Value.oneCell']) (by omega) (by omega) hB
  refine wp_appRun hrun hgd ho hs hx (hk v' w' (h2 _ _ (h1.upd hg ?_ ?_)) hb)
  · show w'.ownsRow B 4 1 v' (l ++ [y]).length (boolV (l ++ [y]))
    unfold boolV; rw [List.length_append, List.map_append]; exact hown
  · rcases hblk with e | e
    · exact .inl e
    · exact .inr ⟨_, e, by omega⟩
end Go.Proofs.Ytfabhdadckohdaa
