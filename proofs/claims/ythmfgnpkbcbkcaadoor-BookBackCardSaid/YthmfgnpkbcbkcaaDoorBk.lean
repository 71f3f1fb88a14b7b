import Derived.Test.YthmfgnpkbcbkcaaDoorTl
import Derived.Lib.Builder
import Derived.Lib.UnsafeStr
import Derived.Lib.FrozenHead
import Derived.Laws.Externs
/- a book's block, and the builder in it -/
set_option linter.all false
set_option maxRecDepth 100000
namespace Go.Proofs.YthmfgnpkbcbkcaaDoor
open Go.RowKit
section
variable {W W' : World} {B g : Nat} {its1 its2 : List It} {L L1 L2 : List Ow} {p V : Value} {ms : List Nat} {t : ByteArray} {n : Int}
theorem strCells_app (s t : ByteArray) : Lib.strCells (s ++ t) = Lib.strCells s ++ Lib.strCells t := by
  simp [Lib.strCells, ByteArray.data_append]
def bkCells (p V : Value) (ms : List Nat) (n : Int) : List Value := ms.map (fun m : Nat => Value.int .u64 (m : Int)) ++ [p, V, .int .i64 n]
theorem bk_block (h : (owBk g p V ms n).ok W B) : B ≤ g ∧ W.heap[g]? = some (.cells (bkCells p V ms n).toArray 58 (0, 0)) ∧ ms.length = 8 := by
  have h : W.ownsRow B 58 11 (.slice (some ⟨g, 0, none⟩) 1 1) 1 (bkCells p V ms n) := h
  have hl : (bkCells p V ms n).length = 11 := h.1
  have hl' : ms.length = 8 := by simp [bkCells] at hl; omega
  rcases h.2 with ⟨q, _⟩ | ⟨g', cap, cur, q1, q2, q3, q4, q5, q6, q7⟩
  · cases q
  · injection q1 with qa qb qc
    injection qa with qa
    injection qa with qa
    subst qa; subst qc
    have : cur.toList = bkCells p V ms n := by rw [List.take_of_length_le (by simp [q6])] at q7; exact q7
    exact ⟨q2, by rw [q3, ← this], hl'⟩
theorem bk_cell (h : (owBk g p V ms n).ok W B) (k : Nat) : W.cell? ⟨g, k, none⟩ = (bkCells p V ms n)[k]? := by
  rw [Lib.cell_of_heap (bk_block h).2.1]; simp
theorem bk_at8 (h : (owBk g p V ms n).ok W B) : W.cell? ⟨g, 8, none⟩ = some p ∧ W.cell? ⟨g, 9, none⟩ = some V ∧ W.cell? ⟨g, 10, none⟩ = some (.int .i64 n) := by
  have hl := (bk_block h).2.2
  refine ⟨?_, ?_, ?_⟩ <;> (rw [bk_cell h]; simp [bkCells, List.getElem?_append, hl])
theorem bk_frozen (h : (owBk g p V ms n).ok W B) (k : Nat) : W.frozen? ⟨g, k, none⟩ = false := Lib.frozen_of_heap (bk_block h).2.1 k
theorem bk_shape (h : (owBk g p V ms n).ok W B) : W.shape? g = some (58, 11) := by
  obtain ⟨_, h2, h3⟩ := bk_block h
  simp [World.shape?, h2, bkCells, h3]
theorem bk_set (h : OA W B (L1 ++ owBk g p V ms n :: L2)) {p' V' : Value} {ms' : List Nat} {n' : Int} {k : Nat} {u : Value} (hk : k < 11) (e : (bkCells p V ms n).set k u = bkCells p' V' ms' n') :
    OA (W.setCell ⟨g, k, none⟩ u) B (L1 ++ owBk g p' V' ms' n' :: L2) ∧ Below B W (W.setCell ⟨g, k, none⟩ u) := by
  have hok : (owBk g p V ms n).ok W B := h.get (o := owBk g p V ms n) (by simp)
  obtain ⟨hB, hh, hl⟩ := bk_block hok
  have hgb : W.grownBy (W.setCell ⟨g, k, none⟩ u) (owBk g p V ms n).v.ownBlock := by
    refine ⟨rfl, rfl, rfl, by simp [World.setCell], fun j hj hne => Below.heap_setCell W ⟨g, k, none⟩ u j ?_⟩
    intro e; subst e; exact hne rfl
  refine ⟨h.upd hgb ?_ (.inl rfl), (Below.refl _ _).setCell (p := ⟨g, k, none⟩) hB _⟩
  show (W.setCell ⟨g, k, none⟩ u).ownsRow B 58 11 (.slice (some ⟨g, 0, none⟩) 1 1) 1 (bkCells p' V' ms' n')
  have hlen : (bkCells p' V' ms' n').length = 11 := by rw [← e, List.length_set]; simp [bkCells, hl]
  refine ⟨hlen, .inr ⟨g, 1, (bkCells p' V' ms' n').toArray, rfl, hB, ?_, Nat.le_refl _, by unfold maxLen; omega, by simpa using hlen, by rw [List.take_of_length_le (by simp [hlen])]⟩⟩
  simp only [World.setCell, Array.getElem?_modify, if_true]
  rw [hh, ← e]; simp
/-- the masks -/
theorem HP.bkM (h : HP W B (its1 ++ .bk g ms t n :: its2)) : B ≤ g ∧ ms.length = 8 ∧ (∀ k, k < 8 → W.cell? ⟨g, k, none⟩ = some (.int .u64 ((ms.getD k 0 : Nat) : Int))) ∧ W.cell? ⟨g, 10, none⟩ = some (.int .i64 n) ∧ (∀ k, W.frozen? ⟨g, k, none⟩ = false) ∧ W.shape? g = some (58, 11) := by
  obtain ⟨p, V, L1, L2, hp, hoa, _⟩ := h.getBk
  have hok : (owBk g p V ms n).ok W B := hoa.get (o := owBk g p V ms n) (by simp)
  have hl := (bk_block hok).2.2
  refine ⟨(bk_block hok).1, hl, fun k hk => ?_, (bk_at8 hok).2.2, bk_frozen hok, bk_shape hok⟩
  rw [bk_cell hok]
  simp [bkCells, List.getElem?_append, hl, hk]
theorem HP.bkSetM (h : HP W B (its1 ++ .bk g ms t n :: its2)) {k : Nat} (hk : k < 8) (m : Nat) : HP (W.setCell ⟨g, k, none⟩ (.int .u64 (m : Int))) B (its1 ++ .bk g (ms.set k m) t n :: its2) ∧ Below B W (W.setCell ⟨g, k, none⟩ (.int .u64 (m : Int))) := by
  obtain ⟨p, V, L1, L2, hp, hoa, hre⟩ := h.getBk
  have hok : (owBk g p V ms n).ok W B := hoa.get (o := owBk g p V ms n) (by simp)
  have hl := (bk_block hok).2.2
  obtain ⟨h1, h2⟩ := bk_set (L2 := owU V t :: L2) hoa (p' := p) (V' := V) (ms' := ms.set k m) (n' := n) (k := k) (u := .int .u64 (m : Int)) (by omega) (by
    rw [bkCells, bkCells, List.map_set, List.set_append_left _ _ (by simpa [hl] using hk)])
  exact ⟨hre _ _ _ _ _ _ hp h1, h2⟩
theorem HP.bkSetN (h : HP W B (its1 ++ .bk g ms t n :: its2)) (n' : Int) : HP (W.setCell ⟨g, 10, none⟩ (.int .i64 n')) B (its1 ++ .bk g ms t n' :: its2) ∧ Below B W (W.setCell ⟨g, 10, none⟩ (.int .i64 n')) := by
  obtain ⟨p, V, L1, L2, hp, hoa, hre⟩ := h.getBk
  have hok : (owBk g p V ms n).ok W B := hoa.get (o := owBk g p V ms n) (by simp)
  have hl := (bk_block hok).2.2
  obtain ⟨h1, h2⟩ := bk_set (L2 := owU V t :: L2) hoa (p' := p) (V' := V) (ms' := ms) (n' := n') (k := 10) (u := .int .i64 n') (by omega) (by
    rw [bkCells, bkCells, List.set_append_right _ _ (by simp [hl])]; simp [hl])
  exact ⟨hre _ _ _ _ _ _ hp h1, h2⟩
/-! ### the builder -/
theorem sizeBuilder : (Tryd.prog.info? 56).map (·.size) = some 2 := by kernel_rfl
theorem liesBuilder : liesAt Tryd.prog Tryd.prog.depth 58 (11 / Tryd.prog.cellsOf 58) 8 56 1 = true := by kernel_rfl
set_option maxHeartbeats 1000000 in
theorem bkCC_used (w : World) (h0 : w.cell? ⟨g, 8, none⟩ = some (.pointer (some ⟨g, 8, none⟩))) :
    Calls Tryd.prog 56 #[.pointer (some ⟨g, 8, none⟩)] w fun e w' => e = .returned (.tuple #[]) ∧ w' = w := by
  obtain ⟨j, hj, _⟩ := Option.map_eq_some_iff.1 sizeBuilder
  go_enter Tryd.func56, Tryd.ntmps56
  go_wp2
  rw [Lib.run_neq_ptr_same w _ Tryd.underlying53 hj]
  go_wp2
  go_end0
  exact ⟨rfl, rfl⟩
set_option maxHeartbeats 1000000 in
theorem bkCC_fresh (w : World) (h0 : w.cell? ⟨g, 8, none⟩ = some (.pointer none)) (hsh : w.shape? g = some (58, 11)) (hfz : w.frozen? ⟨g, 8, none⟩ = false) :
    Calls Tryd.prog 56 #[.pointer (some ⟨g, 8, none⟩)] w fun e w' => e = .returned (.tuple #[]) ∧ w' = w.setCell ⟨g, 8, none⟩ (.pointer (some ⟨g, 8, none⟩)) := by
  obtain ⟨j, hj, hjs⟩ := Option.map_eq_some_iff.1 sizeBuilder
  go_enter Tryd.func56, Tryd.ntmps56
  go_wp2
  rw [Lib.run_to_unsafe w ⟨g, 8, none⟩ Tryd.underlying53 Tryd.underlying91 hj (by rw [hjs]; decide) hsh (show (8 : Nat) < 11 by decide)]
  simp only [Result.andThen]
  rw [Oper.upon_value]
  go_wp2
  rw [run_callFunc_extern Tryd.func67 (by kernel_rfl) (by kernel_rfl) (by kernel_rfl) (e := Extern.AbiNoEscape.same) (by kernel_rfl)]
  rw [Lib.run_noEscape]
  simp only [Result.andThen]
  rw [Oper.upon_value]
  go_wp2
  rw [Lib.run_from_unsafe w ⟨g, 8, none⟩ Tryd.underlying91 Tryd.underlying53 hj hsh liesBuilder]
  simp only [Result.andThen]
  rw [Oper.upon_value]
  go_wp2
  go_end0
  exact ⟨rfl, rfl⟩
theorem bkCC_ok (w : World) (h : HP w B (its1 ++ .bk g ms t n :: its2)) :
    Calls Tryd.prog 56 #[.pointer (some ⟨g, 8, none⟩)] w fun e w' => e = .returned (.tuple #[]) ∧ HP w' B (its1 ++ .bk g ms t n :: its2) ∧ Below B w w' := by
  obtain ⟨p, V, L1, L2, hp, hoa, hre⟩ := h.getBk
  have hok : (owBk g p V ms n).ok w B := hoa.get (o := owBk g p V ms n) (by simp)
  obtain ⟨c8, c9, c10⟩ := bk_at8 hok
  rcases hp with ⟨rfl | rfl, hV⟩
  · refine (bkCC_fresh w c8 (bk_shape hok) (bk_frozen hok 8)).mono ?_
    rintro e w' ⟨rfl, rfl⟩
    have hl := (bk_block hok).2.2
    obtain ⟨h1, h2⟩ := bk_set (L2 := owU V t :: L2) hoa (p' := .pointer (some ⟨g, 8, none⟩)) (V' := V) (ms' := ms) (n' := n) (k := 8) (u := .pointer (some ⟨g, 8, none⟩)) (by omega) (by
      rw [bkCells, bkCells, List.set_append_right _ _ (by simp [hl])]; simp [hl])
    exact ⟨rfl, hre _ _ _ _ _ _ ⟨.inr rfl, hV⟩ h1, h2⟩
  · refine (bkCC_used w c8).mono ?_
    rintro e w' ⟨rfl, rfl⟩
    exact ⟨rfl, h, Below.refl _ _⟩
/-- append of a text to a builder's buffer: where it lies behind -/
theorem run_appU (w : World) {B : Nat} {v : Value} {m : Nat} {xs : List Value} (hown : w.ownsRowF B 5 1 v m xs) (s : ByteArray) (ot : TypeId) (hlen : m + s.size < 1000000000) (hB : B ≤ w.heap.size) :
    ∃ v' w', (Builtin.append_ #[54, 9] ot #[v, .string s]).run Tryd.prog w = .ok v' w' ∧ w'.ownsRowF B 5 1 v' (m + s.size) (xs ++ Lib.strCells s) ∧ w.grownBy w' v.ownBlock ∧
      (v' = .slice none 0 0 ↔ v = .slice none 0 0 ∧ s.size = 0) ∧ (v'.ownBlock = v.ownBlock ∨ ∃ k, v'.ownBlock = some k ∧ w.heap.size ≤ k) := by
  obtain ⟨i0, hi, hz0, hz1, hz2⟩ := info_parts (show (Tryd.prog.info? 5).map (fun i => (i.zero, i.size, i.bytes)) = some (some (.int .u8 0), 1, 1) by kernel_rfl)
  obtain ⟨v', w', h1, h2, h3, h4⟩ := Lib.run_append_own_stringF (P := Tryd.prog) w B 54 9 ot 5 i0 Tryd.underlying54 Tryd.underlying9 hi hz0 hz1 hz2 v m xs hown s (by unfold maxLen; omega) (by omega) hB
  refine ⟨v', w', h1, h2, h3, h4, ?_⟩
  rcases hown.2 with ⟨rfl, rfl⟩ | ⟨k, cap, cur, fz, rfl, hbg, hg, hfz, hnc, hcm, hcs, htake⟩
  · obtain ⟨v2, w2, q1, q2, q3, q4⟩ := Lib.run_append_own_stringF (P := Tryd.prog) w w.heap.size 54 9 ot 5 i0 Tryd.underlying54 Tryd.underlying9 hi hz0 hz1 hz2 (.slice none 0 0) 0 [] (World.ownsRowF_nil _ _ _ _) s (by unfold maxLen; omega) (by omega) (Nat.le_refl _)
    rw [q1] at h1
    injection h1 with h1 _
    subst h1
    cases hb : v2.ownBlock with
    | none => exact .inl rfl
    | some k => exact .inr ⟨k, rfl, (q2.lt k hb).1⟩
  · by_cases hroom : m + s.size ≤ cap
    · have hcs' : cur.size = cap := by simpa using hcs
      have hr := Lib.run_append_room_stringF (P := Tryd.prog) w 54 9 ot 5 i0 Tryd.underlying54 Tryd.underlying9 hi hz1 k m cap cur fz hg (by simpa using hfz) s hroom (by omega)
      rw [hr] at h1
      injection h1 with h1 _
      subst h1; exact .inl rfl
    · have holds : ∀ j u, xs[j]? = some u → w.cell? ((⟨k, 0, none⟩ : Addr).add j) = some u := hown.cells (g := k) rfl
      have hr := Lib.run_append_grow_string (P := Tryd.prog) w 54 9 ot 5 i0 (.int .u8 0) Tryd.underlying54 Tryd.underlying9 hi hz0 ⟨k, 0, none⟩ m cap xs (by rw [hz1]; simpa using hown.1) holds s (by omega) (by omega) (by rw [hz2]; exact growslice_fits (by omega) (by omega))
      rw [hr] at h1
      injection h1 with h1 _
      subst h1; exact .inr ⟨_, rfl, Nat.le_refl _⟩
theorem wp_appRunU {P : Program} {ops : Array Oper} {rest : List Oper} {o : Oper} {a : Act} {Q : Exit → Act → World → Prop} {W W' : World} {s x : Operand} {t u : TypeId} {v y v' : Value} (hrun : (Builtin.append_ #[t, u] o.type #[v, y]).run P W = .ok v' W') (hgd : o.guard = none)
    (ho : o.op = .call { callee := .builtin .append, args := #[s, x], argTypes := #[t, u] }) (hs : a.eval s = v) (hx : a.eval x = y) (hk : wpList P ops Q rest (a.put o.dst v') W') : wpList P ops Q (o :: rest) a W := by
  refine wpList_plain hgd fun K hK => ?_
  unfold Oper.wp execOp
  simp only [ho, resolve, invoke, builtin, Sem.run_bind, Sem.run_pure, Result.andThen_ok, List.map_toArray, List.map_cons, List.map_nil, hs, hx, hrun]
  exact hK _ _ hk
set_option maxHeartbeats 2000000 in
theorem bkWrite_ok (w : World) (h : HP w B (its1 ++ .bk g ms t n :: its2)) (s : ByteArray) (hlen : t.size + s.size < 1000000000) (hB : B ≤ w.heap.size) :
    Calls Tryd.prog 42 #[.pointer (some ⟨g, 8, none⟩), .string s] w fun e w' => e = .returned (.tuple #[.int .i64 s.size, .nilIface]) ∧ HP w' B (its1 ++ .bk g ms (t ++ s) n :: its2) ∧ Below B w w' := by
  go_enter Tryd.func42, Tryd.ntmps42
  go_wp2_with fail
  refine (bkCC_ok _ h).mono ?_; rintro e w1 ⟨rfl, h1, hb1⟩
  obtain ⟨p, V, L1, L2, hp, hoa, hre⟩ := h1.getBk
  have hok : (owBk g p V ms n).ok w1 B := hoa.get (o := owBk g p V ms n) (by simp)
  have hokU : w1.ownsRowF B 5 1 V t.size (Lib.strCells t) := hoa.get (o := owU V t) (by simp)
  obtain ⟨c8, c9, c10⟩ := bk_at8 hok
  obtain ⟨V', w2, r1, r2, r3, r4, r5⟩ := run_appU w1 hokU s 54 hlen (Nat.le_trans hB hb1.size)
  have e1 : L1 ++ owBk g p V ms n :: owU V t :: L2 = (L1 ++ [owBk g p V ms n]) ++ owU V t :: L2 := by simp
  have e2 : (L1 ++ [owBk g p V ms n]) ++ owU V' (t ++ s) :: L2 = L1 ++ owBk g p V ms n :: (owU V' (t ++ s) :: L2) := by simp
  rw [e1] at hoa
  have hoa2 : OA w2 B ((L1 ++ [owBk g p V ms n]) ++ owU V' (t ++ s) :: L2) := hoa.upd r3 (by
    show w2.ownsRowF B 5 1 V' (t ++ s).size (Lib.strCells (t ++ s))
    rw [ByteArray.size_append, strCells_app]; exact r2) r5
  rw [e2] at hoa2
  have hok2 : (owBk g p V ms n).ok w2 B := hoa2.get (o := owBk g p V ms n) (by simp)
  obtain ⟨d8, d9, d10⟩ := bk_at8 hok2
  have f9 := bk_frozen hok2 9
  have hl := (bk_block hok2).2.2
  obtain ⟨h3, h4⟩ := bk_set (L2 := owU V' (t ++ s) :: L2) hoa2 (p' := p) (V' := V') (ms' := ms) (n' := n) (k := 9) (u := V') (by omega) (by
    rw [bkCells, bkCells, List.set_append_right _ _ (by simp [hl])]; simp [hl])
  have hbk : bkP g p V' (t ++ s) := ⟨hp.1, by
    rcases Nat.eq_zero_or_pos (t ++ s).size with h0 | h0
    · rw [ByteArray.size_append] at h0
      rcases hp.2 with e | e
      · exact .inl (r4.2 ⟨e, by omega⟩)
      · omega
    · exact .inr h0⟩
  have hfin := hre _ _ _ _ _ _ hbk h3
  have hbel : Below B w (w2.setCell ⟨g, 9, none⟩ V') := hb1.trans (((Below.refl _ _).grown r3 (Nat.le_trans hB hb1.size) (fun k hk => (hokU.lt k hk).1)).trans h4)
  obtain ⟨ao, n', cap, rfl⟩ : ∃ ao n' cap, V' = .slice ao n' cap := by
    rcases r2.2 with ⟨hv, _⟩ | ⟨g, cap, cur, fz, hv, _⟩
    · exact ⟨_, _, _, hv⟩
    · exact ⟨_, _, _, hv⟩
  go_wp2_with (at_builtin; refine wp_appRunU r1 rfl rfl rfl rfl ?_)
  go_ret2
  exact ⟨rfl, hfin, hbel⟩
theorem byteCells_str (t : ByteArray) : Lib.strCells t = Lib.byteCells t.data.toList := rfl
theorem bkFroze (w : World) {g' cap : Nat} (hoa : OA w B (L1 ++ owU (.slice (some ⟨g', 0, none⟩) t.size cap) t :: L2)) : OA (w.freeze ⟨g', 0, none⟩ t.size) B (L1 ++ owU (.slice (some ⟨g', 0, none⟩) t.size cap) t :: L2) ∧ Below B w (w.freeze ⟨g', 0, none⟩ t.size) := by
  have hok : w.ownsRowF B 5 1 (.slice (some ⟨g', 0, none⟩) t.size cap) t.size (Lib.strCells t) := hoa.get (o := owU _ t) (by simp)
  have hB := (hok.lt g' rfl).1
  have hb : Below B w (w.freeze ⟨g', 0, none⟩ t.size) := Lib.below_freeze (Below.refl B w) (p := ⟨g', 0, none⟩) hB _
  refine ⟨hoa.upd (o' := owU (.slice (some ⟨g', 0, none⟩) t.size cap) t) ?_ ?_ (.inl rfl), hb⟩
  · unfold World.freeze
    split
    · exact ⟨rfl, rfl, rfl, Nat.le_refl _, fun _ _ _ => rfl⟩
    · refine ⟨rfl, rfl, rfl, by simp, fun k hk hne => ?_⟩
      simp only [Array.getElem?_modify]
      rw [if_neg (fun e => hne (by rw [← e]; rfl))]
  · show World.ownsRowF _ B 5 1 _ t.size (Lib.strCells t)
    unfold World.freeze
    split
    · exact hok
    · refine ⟨hok.1, ?_⟩
      rcases hok.2 with ⟨hv, _⟩ | ⟨g2, cap2, cur, fz, hv, hbg, hg, hfz, rest⟩
      · cases hv
      · injection hv with ha _ hcap
        injection ha with ha
        injection ha with hgg _ _
        subst hgg
        subst hcap
        obtain ⟨lo, hi⟩ := fz
        refine .inr ⟨g', _, cur, (if lo == hi then (0, 0 + t.size) else (min lo 0, max hi (0 + t.size))), rfl, hbg, ?_, ?_, rest⟩
        · simp [Array.getElem?_modify, hg]
        · simp only at hfz
          split <;> simp <;> omega
set_option maxHeartbeats 2000000 in
theorem bkString_ok (w : World) (h : HP w B (its1 ++ .bk g ms t n :: its2)) (hB : B ≤ w.heap.size) :
    Calls Tryd.prog 34 #[.pointer (some ⟨g, 8, none⟩)] w fun e w' => e = .returned (.string t) ∧ HP w' B (its1 ++ .bk g ms t n :: its2) ∧ Below B w w' := by
  obtain ⟨p, V, L1, L2, hp, hoa, hre⟩ := h.getBk
  have hok : (owBk g p V ms n).ok w B := hoa.get (o := owBk g p V ms n) (by simp)
  have hokU : w.ownsRowF B 5 1 V t.size (Lib.strCells t) := hoa.get (o := owU V t) (by simp)
  obtain ⟨c8, c9, c10⟩ := bk_at8 hok
  rcases hokU.2 with ⟨rfl, h0⟩ | ⟨g', cap, cur, fz, rfl, hbg, hg, hfz, hnc, hcm, hcs, htake⟩
  · have ht : t = .empty := by cases t; rename_i d; simp [ByteArray.size] at h0; subst h0; rfl
    have c1 : w.drew.cell? ⟨g, 9, none⟩ = some (.slice none 0 0) := c9
    have hUS : (Builtin.unsafeString_ #[84, 3] 9 #[.pointer none, .int .i64 0]).run Tryd.prog w.drew = .ok (.string .empty) w.drew := Lib.run_unsafeString_none _ _ _ _ _
    have hSD : (Builtin.unsafeSliceData_ #[54] 84 #[.slice none 0 0]).run Tryd.prog w.drew = .ok (.pointer none) w.drew := rfl
    have hfin : HP w.drew B (its1 ++ .bk g ms t n :: its2) := h.dr ⟨1, rfl⟩
    go_enter Tryd.func34, Tryd.ntmps34
    go_wp2
    go_region
    all_goals (go_wp2; go_ret; exact ⟨by rw [ht]; rfl, hfin, Below.drew (Below.refl B w)⟩)
  · have h0 : 0 < t.size := hp.2.resolve_left (fun e => by cases e)
    have hl : t.data.toList ≠ [] := by
      intro e
      have : t.data.toList.length = t.size := by rw [Array.length_toList]; rfl
      rw [e] at this; simp at this; omega
    have hll : t.data.toList.length = t.size := by rw [Array.length_toList]; rfl
    have c1 : w.drew.cell? ⟨g, 9, none⟩ = some (.slice (some ⟨g', 0, none⟩) t.size cap) := c9
    have hSD : (Builtin.unsafeSliceData_ #[54] 84 #[.slice (some ⟨g', 0, none⟩) t.size cap]).run Tryd.prog w.drew = .ok (.pointer (some ⟨g', 0, none⟩)) w.drew :=
      Lib.run_unsafeSliceData_row _ _ _ _ _ _ (by omega)
    have hUS : (Builtin.unsafeString_ #[84, 3] 9 #[.pointer (some ⟨g', 0, none⟩), .int .i64 (t.size : Int)]).run Tryd.prog w.drew = .ok (.string t) (w.drew.freeze ⟨g', 0, none⟩ t.size) := by
      have := Lib.run_unsafeString_row (P := Tryd.prog) w.drew 84 3 9 5 Tryd.underlying84 (by kernel_rfl) g' cur.size (by have hg' : w.drew.heap[g']? = some (.cells cur 5 fz) := hg; simp [World.shape?, hg']) t.data.toList hl (by omega) (by unfold maxLen at hcm; omega) (fun j x hx => by
        have := hokU.cells (g := g') rfl j (.int .u8 x.toNat) (by rw [byteCells_str]; simp [Lib.byteCells, hx])
        exact this)
      rw [hll] at this
      exact this
    have e1 : L1 ++ owBk g p (.slice (some ⟨g', 0, none⟩) t.size cap) ms n :: owU (.slice (some ⟨g', 0, none⟩) t.size cap) t :: L2 = (L1 ++ [owBk g p (.slice (some ⟨g', 0, none⟩) t.size cap) ms n]) ++ owU (.slice (some ⟨g', 0, none⟩) t.size cap) t :: L2 := by simp
    have hoa1 : OA w.drew B _ := hoa.dr ⟨1, rfl⟩
    rw [e1] at hoa1
    obtain ⟨q1, q2⟩ := bkFroze w.drew hoa1
    rw [← e1] at q1
    have hfin := hre _ _ _ _ _ _ hp q1
    have hbel : Below B w (w.drew.freeze ⟨g', 0, none⟩ t.size) := (Below.drew (Below.refl B w)).trans q2
    go_enter Tryd.func34, Tryd.ntmps34
    go_wp2
    go_region
    all_goals (go_wp2; go_ret; exact ⟨rfl, hfin, hbel⟩)
end
end Go.Proofs.YthmfgnpkbcbkcaaDoor
