import Derived.Test.YtekfgkeimlidhaaGreatDoorBox
/- strings: what is computed with them, rows of them -/
set_option linter.all false
set_option maxRecDepth 100000
namespace Go.Proofs.YtekfgkeimlidhaaGreatDoor
open Go.RowKit
/-- two strings joined -/
def sCat (x y : ByteArray) : Option ByteArray := if x.size + y.size < 1000000000 then some (x ++ y) else none
theorem sCat_some {x y r : ByteArray} (h : sCat x y = some r) : ¬ (9223372036854775807 < ((x.size : Int) + (y.size : Int))) ∧ x ++ y = r := by
  obtain ⟨h1, h2⟩ := s_of h
  exact ⟨by omega, h2⟩
/-- a string's byte -/
def sIx (s : ByteArray) (i : Int) : Option Int := if 0 ≤ i then (s[i.toNat]?).map fun b => (b.toNat : Int) else none
theorem sIx_some {s : ByteArray} {i r : Int} (h : sIx s i = some r) : ∃ b : UInt8, 0 ≤ i ∧ s[i.toNat]? = some b ∧ ∃ h : i.toNat < s.size, s[i.toNat] = b ∧ ((b.toNat : Nat) : Int) = r := by
  unfold sIx at h
  split at h
  · rename_i h0
    cases e : s[i.toNat]? with
    | none => rw [e] at h; cases h
    | some b =>
      rw [e] at h
      obtain ⟨h1, h2⟩ := getElem?_eq_some_iff.1 e
      exact ⟨b, h0, rfl, h1, h2, Option.some.inj h⟩
  · cases h
def strV (l : List ByteArray) : List Value := l.map Value.string
def owS (v : Value) (l : List ByteArray) : Ow := ⟨9, 1, v, l.length, strV l⟩
def ReadsS (W : World) (B : Nat) (A : Option Addr) (l : List ByteArray) : Prop := Reads W B 1 A l.length (strV l)
theorem rdS {w W : World} {A : Option Addr} {l : List ByteArray} (h : Below w.heap.size w W) (hr : ReadsS w w.heap.size A l) : ReadsS W W.heap.size A l := Reads.more (Reads.below hr h) h.size
theorem ReadsS.drewN' {w : World} {B : Nat} {A : Option Addr} {l : List ByteArray} (h : ReadsS w B A l) (m : Nat) : ReadsS (w.drewN m) B A l := h
theorem ReadsS.ix {W : World} {B : Nat} {A : Option Addr} {l : List ByteArray} {i : Int} {x : ByteArray} (h : ReadsS W B A l) (hx : ix l i = some x) :
    ∃ b o, A = some ⟨b, o, none⟩ ∧ b < B ∧ 0 ≤ i ∧ i < (l.length : Int) ∧ W.cell? ⟨b, o + i.toNat, none⟩ = some (.string x) := by
  obtain ⟨h0, h1, h2⟩ := ix_some hx
  obtain ⟨b, o, e, hb, hc⟩ := h.2 (by omega)
  exact ⟨b, o, e, hb, h0, h1, hc _ _ (by simp [strV, h2])⟩
theorem readsS_nil {w : World} {B : Nat} {A : Option Addr} : ReadsS w B A [] := ⟨rfl, fun h => absurd h (Nat.lt_irrefl 0)⟩
theorem HP.open_S {W : World} {B : Nat} {its : List It} {v : Value} {l : List ByteArray} (h : HP W B its) (ho : It.fl (owS v l) ∈ its) : ∃ A cap, v = .slice A l.length cap ∧ ReadsS W W.heap.size A l := own_reads (h.get ho)
theorem HP.rd_S {W : World} {B : Nat} {its : List It} {l : List ByteArray} {cap n : Nat} {A : Option Addr} (h : HP W B its) (ho : It.fl (owS (.slice A n cap) l) ∈ its) : ReadsS W W.heap.size A l := by
  obtain ⟨A', cap', e, hr⟩ := h.open_S ho; cases e; exact hr
theorem HP.len_S {W : World} {B n cap : Nat} {its : List It} {A : Option Addr} {l : List ByteArray} (h : HP W B its) (ho : It.fl (owS (.slice A n cap) l) ∈ its) : n = l.length := by
  obtain ⟨A', cap', e, _⟩ := h.open_S ho; cases e; rfl
theorem str_info : (Tryz.prog.info? 9).map (fun i => (i.zero, i.size, i.bytes)) = some (some (.string ⟨#[]⟩), 1, 16) := by kernel_rfl
theorem run_appS (W : World) (t ot : TypeId) (ht : Tryz.prog.underlying t = some (.slice 9))
    {B : Nat} {e' : TypeId} {L1 L2 : List It} {v : Value} {l : List ByteArray} {y : ByteArray} (h : HP W B (L1 ++ .fl (owS v l) :: L2)) (hlen : l.length < 1000000000) (hB : B ≤ W.heap.size) :
    ∃ v' w', (Builtin.append_ #[t, t] ot #[v, .slice (some ⟨W.heap.size, 0, none⟩) 1 1]).run Tryz.prog (W.alloc (.cells #[Value.string y] e')) = .ok v' w' ∧
      HP w' B (L1 ++ .fl (owS v' (l ++ [y])) :: L2) ∧ Below B W w' ∧ NC W w' := by
  obtain ⟨i0, hi0, hz0, hz1, hz2⟩ := info_parts str_info
  obtain ⟨M1, M2, h1, h2⟩ := h.getAt
  obtain ⟨v', w', hrun, hown, hg, hblk, hb, hn⟩ := run_app1 (e' := e') W t ot B 9 i0 _ 1 16 ht hi0 hz0 hz1 hz2 rfl (by omega) v l.length (strV l) (h1.get (o := owS v l) (by simp)) [.string y] rfl (by simp [Value.oneCell']) (by omega) (by omega) hB
  refine ⟨v', w', hrun, h2 _ _ (h1.upd hg ?_ ?_), hb, hn⟩
  · show w'.ownsRow B 9 1 v' (l ++ [y]).length (strV (l ++ [y]))
    unfold strV; rw [List.length_append, List.map_append]; exact hown
  · rcases hblk with e | e
    · exact .inl e
    · exact .inr ⟨_, e, by omega⟩
section
variable {ops : Array Oper} {rest : List Oper} {o : Oper} {a : Act} {Q : Exit → Act → World → Prop}
theorem hp_appS (W : World) (s x : Operand) (t : TypeId) (ht : Tryz.prog.underlying t = some (.slice 9)) (hgd : o.guard = none)
    (ho : o.op = .call { callee := .builtin .append, args := #[s, x], argTypes := #[t, t] })
    {B : Nat} {e' : TypeId} {L1 L2 : List It} {v : Value} {l : List ByteArray} {y : ByteArray} (h : HP W B (L1 ++ .fl (owS v l) :: L2)) (hs : a.eval s = v) (hx : a.eval x = .slice (some ⟨W.heap.size, 0, none⟩) 1 1)
    (hlen : l.length < 1000000000) (hB : B ≤ W.heap.size)
    (hk : ∀ v' w', HP w' B (L1 ++ .fl (owS v' (l ++ [y])) :: L2) → Below B W w' → wpList Tryz.prog ops Q rest (a.put o.dst v') w') :
    wpList Tryz.prog ops Q (o :: rest) a (W.alloc (.cells #[Value.string y] e')) := by
  obtain ⟨v', w', hrun, hoa, hb, _⟩ := run_appS (e' := e') (y := y) W t o.type ht h hlen hB
  exact wp_appRun hrun hgd ho hs hx (hk v' w' hoa hb)
end
end Go.Proofs.YtekfgkeimlidhaaGreatDoor
