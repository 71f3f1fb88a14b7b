import Derived.Test.YtekfgkeimlidhaaGreatDoorTl
import Derived.Lib.Builder
import Derived.Lib.UnsafeStr
import Derived.Lib.FrozenHead
import Derived.Laws.Externs
import Derived.Test.YtekfgkeimlidhaaGreatDoorQB
import Derived.Test.YtekfgkeimlidhaaGreatDoorStr
import Derived.Shelf.Strconv.Itoa3
import Derived.Lib.ConvBytes
import Derived.Lib.AppendIntMem
import Derived.Test.YtekfgkeimlidhaaGreatDoorL1
import Derived.StillTailTactics
/- a book's block, and the builder in it -/
set_option linter.all false
set_option maxRecDepth 100000
namespace Go.Proofs.YtekfgkeimlidhaaGreatDoor
open Go.RowKit
section
variable {W W' : World} {B g : Nat} {its1 its2 : List It} {L L1 L2 : List Ow} {p V : Value} {ms : List Nat} {t : ByteArray} {n : Int}
theorem strCells_app (s t : ByteArray) : Lib.strCells (s ++ t) = Lib.strCells s ++ Lib.strCells t := by
  simp [Lib.strCells, ByteArray.data_append]
def bkCells (p V : Value) (ms : List Nat) (n : Int) : List Value := ms.map (fun m : Nat => Value.int .u64 (m : Int)) ++ [p, V, .int .i64 n]
theorem bk_block (h : (owBk g p V ms n).ok W B) : B ≤ g ∧ W.heap[g]? = some (.cells (bkCells p V ms n).toArray 51 (0, 0)) ∧ ms.length = 8 := by
  have h : W.ownsRow B 51 11 (.slice (some ⟨g, 0, none⟩) 1 1) 1 (bkCells p V ms n) := h
  have hl : (bkCells p V ms n).length = 11 := h.1
  have hl' : ms.length = 8 := by simp [bkCells] at hl; omega
  rcases h.2 with ⟨q, _⟩ | ⟨g', cap, cur, q1, q2, q3, q4, q5, q6, q7⟩
  · cases q
  · injection q1 with qa qb qc
    injection qa with qa
    injection qa with qa
    subst qa; subst qc
    have : cur.toList = bkCells p V ms n := by rw [List.take_of_length_le (by simp [q6])] at q7; exact q7
    exact ⟨q2, by rw [q3, ← this], hl'⟩
theorem bk_cell (h : (owBk g p V ms n).ok W B) (k : Nat) : W.cell? ⟨g, k, none⟩ = (bkCells p V ms n)[k]? := by
  rw [Lib.cell_of_heap (bk_block h).2.1]; simp
theorem bk_at8 (h : (owBk g p V ms n).ok W B) : W.cell? ⟨g, 8, none⟩ = some p ∧ W.cell? ⟨g, 9, none⟩ = some V ∧ W.cell? ⟨g, 10, none⟩ = some (.int .i64 n) := by
  have hl := (bk_block h).2.2
  refine ⟨?_, ?_, ?_⟩ <;> (rw [bk_cell h]; simp [bkCells, List.getElem?_append, hl])
theorem bk_frozen (h : (owBk g p V ms n).ok W B) (k : Nat) : W.frozen? ⟨g, k, none⟩ = false := Lib.frozen_of_heap (bk_block h).2.1 k
theorem bk_shape (h : (owBk g p V ms n).ok W B) : W.shape? g = some (51, 11) := by
  obtain ⟨_, h2, h3⟩ := bk_block h
  simp [World.shape?, h2, bkCells, h3]
theorem bk_set (h : OA W B (L1 ++ owBk g p V ms n :: L2)) {p' V' : Value} {ms' : List Nat} {n' : Int} {k : Nat} {u : Value} (hk : k < 11) (e : (bkCells p V ms n).set k u = bkCells p' V' ms' n') :
    OA (W.setCell ⟨g, k, none⟩ u) B (L1 ++ owBk g p' V' ms' n' :: L2) ∧ Below B W (W.setCell ⟨g, k, none⟩ u) := by
  have hok : (owBk g p V ms n).ok W B := h.get (o := owBk g p V ms n) (by simp)
  obtain ⟨hB, hh, hl⟩ := bk_block hok
  have hgb : W.grownBy (W.setCell ⟨g, k, none⟩ u) (owBk g p V ms n).v.ownBlock := by
    refine ⟨rfl, rfl, rfl, by simp [World.setCell], fun j hj hne => Below.heap_setCell W ⟨g, k, none⟩ u j ?_⟩
    intro e; subst e; exact hne rfl
  refine ⟨h.upd hgb ?_ (.inl rfl), (Below.refl _ _).setCell (p := ⟨g, k, none⟩) hB _⟩
  show (W.setCell ⟨g, k, none⟩ u).ownsRow B 51 11 (.slice (some ⟨g, 0, none⟩) 1 1) 1 (bkCells p' V' ms' n')
  have hlen : (bkCells p' V' ms' n').length = 11 := by rw [← e, List.length_set]; simp [bkCells, hl]
  refine ⟨hlen, .inr ⟨g, 1, (bkCells p' V' ms' n').toArray, rfl, hB, ?_, Nat.le_refl _, by unfold maxLen; omega, by simpa using hlen, by rw [List.take_of_length_le (by simp [hlen])]⟩⟩
  simp only [World.setCell, Array.getElem?_modify, if_true]
  rw [hh, ← e]; simp
/-- the masks -/
theorem HP.bkM (h : HP W B (its1 ++ .bk g ms t n :: its2)) : B ≤ g ∧ ms.length = 8 ∧ (∀ k, k < 8 → W.cell? ⟨g, k, none⟩ = some (.int .u64 ((ms.getD k 0 : Nat) : Int))) ∧ W.cell? ⟨g, 10, none⟩ = some (.int .i64 n) ∧ (∀ k, W.frozen? ⟨g, k, none⟩ = false) ∧ W.shape? g = some (51, 11) := by
  obtain ⟨p, V, L1, L2, hp, hoa, _⟩ := h.getBk
  have hok : (owBk g p V ms n).ok W B := hoa.get (o := owBk g p V ms n) (by simp)
  have hl := (bk_block hok).2.2
  refine ⟨(bk_block hok).1, hl, fun k hk => ?_, (bk_at8 hok).2.2, bk_frozen hok, bk_shape hok⟩
  rw [bk_cell hok]
  simp [bkCells, List.getElem?_append, hl, hk]
theorem HP.bkSetM (h : HP W B (its1 ++ .bk g ms t n :: its2)) {k : Nat} (hk : k < 8) (m : Nat) : HP (W.setCell ⟨g, k, none⟩ (.int .u64 (m : Int))) B (its1 ++ .bk g (ms.set k m) t n :: its2) ∧ Below B W (W.setCell ⟨g, k, none⟩ (.int .u64 (m : Int))) := by
  obtain ⟨p, V, L1, L2, hp, hoa, hre⟩ := h.getBk
  have hok : (owBk g p V ms n).ok W B := hoa.get (o := owBk g p V ms n) (by simp)
  have hl := (bk_block hok).2.2
  obtain ⟨h1, h2⟩ := bk_set (L2 := owU V t :: L2) hoa (p' := p) (V' := V) (ms' := ms.set k m) (n' := n) (k := k) (u := .int .u64 (m : Int)) (by omega) (by
    rw [bkCells, bkCells, List.map_set, List.set_append_left _ _ (by simpa [hl] using hk)])
  exact ⟨hre _ _ _ _ _ _ hp h1, h2⟩
theorem HP.bkSetN (h : HP W B (its1 ++ .bk g ms t n :: its2)) (n' : Int) : HP (W.setCell ⟨g, 10, none⟩ (.int .i64 n')) B (its1 ++ .bk g ms t n' :: its2) ∧ Below B W (W.setCell ⟨g, 10, none⟩ (.int .i64 n')) := by
  obtain ⟨p, V, L1, L2, hp, hoa, hre⟩ := h.getBk
  have hok : (owBk g p V ms n).ok W B := hoa.get (o := owBk g p V ms n) (by simp)
  have hl := (bk_block hok).2.2
  obtain ⟨h1, h2⟩ := bk_set (L2 := owU V t :: L2) hoa (p' := p) (V' := V) (ms' := ms) (n' := n') (k := 10) (u := .int .i64 n') (by omega) (by
    rw [bkCells, bkCells, List.set_append_right _ _ (by simp [hl])]; simp [hl])
  exact ⟨hre _ _ _ _ _ _ hp h1, h2⟩
/-! ### the builder -/
theorem sizeBuilder : (Tryz.prog.info? 31).map (·.size) = some 2 := by kernel_rfl
theorem liesBuilder : liesAt Tryz.prog Tryz.prog.depth 51 (11 / Tryz.prog.cellsOf 51) 8 31 1 = true := by kernel_rfl
set_option maxHeartbeats 1000000 in
theorem bkCC_used (w : World) (h0 : w.cell? ⟨g, 8, none⟩ = some (.pointer (some ⟨g, 8, none⟩))) :
    Calls Tryz.prog 16 #[.pointer (some ⟨g, 8, none⟩)] w fun e w' => e = .returned (.tuple #[]) ∧ w' = w := by
  obtain ⟨j, hj, _⟩ := Option.map_eq_some_iff.1 sizeBuilder
  go_enter Tryz.func16, Tryz.ntmps16
  go_wp2
  rw [Lib.run_neq_ptr_same w _ Tryz.underlying28 hj]
  go_wp2
  go_end0
  exact ⟨rfl, rfl⟩
set_option maxHeartbeats 1000000 in
theorem bkCC_fresh (w : World) (h0 : w.cell? ⟨g, 8, none⟩ = some (.pointer none)) (hsh : w.shape? g = some (51, 11)) (hfz : w.frozen? ⟨g, 8, none⟩ = false) :
    Calls Tryz.prog 16 #[.pointer (some ⟨g, 8, none⟩)] w fun e w' => e = .returned (.tuple #[]) ∧ w' = w.setCell ⟨g, 8, none⟩ (.pointer (some ⟨g, 8, none⟩)) := by
  obtain ⟨j, hj, hjs⟩ := Option.map_eq_some_iff.1 sizeBuilder
  go_enter Tryz.func16, Tryz.ntmps16
  go_wp2
  rw [Lib.run_to_unsafe w ⟨g, 8, none⟩ Tryz.underlying28 Tryz.underlying77 hj (by rw [hjs]; decide) hsh (show (8 : Nat) < 11 by decide)]
  simp only [Result.andThen]
  rw [Oper.upon_value]
  go_wp2
  rw [run_callFunc_extern Tryz.func35 (by kernel_rfl) (by kernel_rfl) (by kernel_rfl) (e := Extern.AbiNoEscape.same) (by kernel_rfl)]
  rw [Lib.run_noEscape]
  simp only [Result.andThen]
  rw [Oper.upon_value]
  go_wp2
  rw [Lib.run_from_unsafe w ⟨g, 8, none⟩ Tryz.underlying77 Tryz.underlying28 hj hsh liesBuilder]
  simp only [Result.andThen]
  rw [Oper.upon_value]
  go_wp2
  go_end0
  exact ⟨rfl, rfl⟩
theorem NC.freeze (w : World) (p : Addr) (n : Nat) : NC w (w.freeze p n) := by
  unfold World.freeze
  by_cases h0 : n = 0
  · rw [if_pos h0]; exact NC.refl _
  · rw [if_neg h0]
    refine ⟨by simp, fun k o hk ho => ?_⟩
    by_cases e : p.block = k
    · subst e
      simp only [Array.getElem?_modify, if_true]
      rw [hk]
      cases o <;> first | rfl | cases ho
    · simp only [Array.getElem?_modify, if_neg e]
      exact hk
theorem bkCC_okN (w : World) (h : HP w B (its1 ++ .bk g ms t n :: its2)) :
    Calls Tryz.prog 16 #[.pointer (some ⟨g, 8, none⟩)] w fun e w' => e = .returned (.tuple #[]) ∧ HP w' B (its1 ++ .bk g ms t n :: its2) ∧ Below B w w' ∧ NC w w' := by
  obtain ⟨p, V, L1, L2, hp, hoa, hre⟩ := h.getBk
  have hok : (owBk g p V ms n).ok w B := hoa.get (o := owBk g p V ms n) (by simp)
  obtain ⟨c8, c9, c10⟩ := bk_at8 hok
  rcases hp with ⟨rfl | rfl, hV⟩
  · refine (bkCC_fresh w c8 (bk_shape hok) (bk_frozen hok 8)).mono ?_
    rintro e w' ⟨rfl, rfl⟩
    have hl := (bk_block hok).2.2
    obtain ⟨h1, h2⟩ := bk_set (L2 := owU V t :: L2) hoa (p' := .pointer (some ⟨g, 8, none⟩)) (V' := V) (ms' := ms) (n' := n) (k := 8) (u := .pointer (some ⟨g, 8, none⟩)) (by omega) (by
      rw [bkCells, bkCells, List.set_append_right _ _ (by simp [hl])]; simp [hl])
    exact ⟨rfl, hre _ _ _ _ _ _ ⟨.inr rfl, hV⟩ h1, h2, NC.setCell _ _ _⟩
  · refine (bkCC_used w c8).mono ?_
    rintro e w' ⟨rfl, rfl⟩
    exact ⟨rfl, h, Below.refl _ _, NC.refl _⟩
/-- append of a text to a builder's buffer: where it lies behind -/
theorem run_appU (w : World) {B : Nat} {v : Value} {m : Nat} {xs : List Value} (hown : w.ownsRowF B 5 1 v m xs) (s : ByteArray) (ot : TypeId) (hlen : m + s.size < 1000000000) (hB : B ≤ w.heap.size) :
    ∃ v' w', (Builtin.append_ #[29, 9] ot #[v, .string s]).run Tryz.prog w = .ok v' w' ∧ w'.ownsRowF B 5 1 v' (m + s.size) (xs ++ Lib.strCells s) ∧ w.grownBy w' v.ownBlock ∧
      (v' = .slice none 0 0 ↔ v = .slice none 0 0 ∧ s.size = 0) ∧ (v'.ownBlock = v.ownBlock ∨ ∃ k, v'.ownBlock = some k ∧ w.heap.size ≤ k) := by
  obtain ⟨i0, hi, hz0, hz1, hz2⟩ := info_parts (show (Tryz.prog.info? 5).map (fun i => (i.zero, i.size, i.bytes)) = some (some (.int .u8 0), 1, 1) by kernel_rfl)
  obtain ⟨v', w', h1, h2, h3, h4⟩ := Lib.run_append_own_stringF (P := Tryz.prog) w B 29 9 ot 5 i0 Tryz.underlying29 Tryz.underlying9 hi hz0 hz1 hz2 v m xs hown s (by unfold maxLen; omega) (by omega) hB
  refine ⟨v', w', h1, h2, h3, h4, ?_⟩
  rcases hown.2 with ⟨rfl, rfl⟩ | ⟨k, cap, cur, fz, rfl, hbg, hg, hfz, hnc, hcm, hcs, htake⟩
  · obtain ⟨v2, w2, q1, q2, q3, q4⟩ := Lib.run_append_own_stringF (P := Tryz.prog) w w.heap.size 29 9 ot 5 i0 Tryz.underlying29 Tryz.underlying9 hi hz0 hz1 hz2 (.slice none 0 0) 0 [] (World.ownsRowF_nil _ _ _ _) s (by unfold maxLen; omega) (by omega) (Nat.le_refl _)
    rw [q1] at h1
    injection h1 with h1 _
    subst h1
    cases hb : v2.ownBlock with
    | none => exact .inl rfl
    | some k => exact .inr ⟨k, rfl, (q2.lt k hb).1⟩
  · by_cases hroom : m + s.size ≤ cap
    · have hcs' : cur.size = cap := by simpa using hcs
      have hr := Lib.run_append_room_stringF (P := Tryz.prog) w 29 9 ot 5 i0 Tryz.underlying29 Tryz.underlying9 hi hz1 k m cap cur fz hg (by simpa using hfz) s hroom (by omega)
      rw [hr] at h1
      injection h1 with h1 _
      subst h1; exact .inl rfl
    · have holds : ∀ j u, xs[j]? = some u → w.cell? ((⟨k, 0, none⟩ : Addr).add j) = some u := hown.cells (g := k) rfl
      have hr := Lib.run_append_grow_string (P := Tryz.prog) w 29 9 ot 5 i0 (.int .u8 0) Tryz.underlying29 Tryz.underlying9 hi hz0 ⟨k, 0, none⟩ m cap xs (by rw [hz1]; simpa using hown.1) holds s (by omega) (by omega) (by rw [hz2]; exact growslice_fits (by omega) (by omega))
      rw [hr] at h1
      injection h1 with h1 _
      subst h1; exact .inr ⟨_, rfl, Nat.le_refl _⟩
theorem wp_appRunU {P : Program} {ops : Array Oper} {rest : List Oper} {o : Oper} {a : Act} {Q : Exit → Act → World → Prop} {W W' : World} {s x : Operand} {t u : TypeId} {v y v' : Value} (hrun : (Builtin.append_ #[t, u] o.type #[v, y]).run P W = .ok v' W') (hgd : o.guard = none)
    (ho : o.op = .call { callee := .builtin .append, args := #[s, x], argTypes := #[t, u] }) (hs : a.eval s = v) (hx : a.eval x = y) (hk : wpList P ops Q rest (a.put o.dst v') W') : wpList P ops Q (o :: rest) a W := by
  refine wpList_plain hgd fun K hK => ?_
  unfold Oper.wp execOp
  simp only [ho, resolve, invoke, builtin, Sem.run_bind, Sem.run_pure, Result.andThen_ok, List.map_toArray, List.map_cons, List.map_nil, hs, hx, hrun]
  exact hK _ _ hk
set_option maxHeartbeats 2000000 in
theorem bkWrite_okN (w : World) (h : HP w B (its1 ++ .bk g ms t n :: its2)) (s : ByteArray) (hlen : t.size + s.size < 1000000000) (hB : B ≤ w.heap.size) :
    Calls Tryz.prog 8 #[.pointer (some ⟨g, 8, none⟩), .string s] w fun e w' => e = .returned (.tuple #[.int .i64 s.size, .nilIface]) ∧ HP w' B (its1 ++ .bk g ms (t ++ s) n :: its2) ∧ Below B w w' ∧ NC w w' := by
  go_enter Tryz.func8, Tryz.ntmps8
  go_wp2_with fail
  refine (bkCC_okN _ h).mono ?_; rintro e w1 ⟨rfl, h1, hb1, hn1⟩
  obtain ⟨p, V, L1, L2, hp, hoa, hre⟩ := h1.getBk
  have hok : (owBk g p V ms n).ok w1 B := hoa.get (o := owBk g p V ms n) (by simp)
  have hokU : w1.ownsRowF B 5 1 V t.size (Lib.strCells t) := hoa.get (o := owU V t) (by simp)
  obtain ⟨c8, c9, c10⟩ := bk_at8 hok
  obtain ⟨V', w2, r1, r2, r3, r4, r5⟩ := run_appU w1 hokU s 29 hlen (Nat.le_trans hB hb1.size)
  have e1 : L1 ++ owBk g p V ms n :: owU V t :: L2 = (L1 ++ [owBk g p V ms n]) ++ owU V t :: L2 := by simp
  have e2 : (L1 ++ [owBk g p V ms n]) ++ owU V' (t ++ s) :: L2 = L1 ++ owBk g p V ms n :: (owU V' (t ++ s) :: L2) := by simp
  rw [e1] at hoa
  have hoa2 : OA w2 B ((L1 ++ [owBk g p V ms n]) ++ owU V' (t ++ s) :: L2) := hoa.upd r3 (by
    show w2.ownsRowF B 5 1 V' (t ++ s).size (Lib.strCells (t ++ s))
    rw [ByteArray.size_append, strCells_app]; exact r2) r5
  rw [e2] at hoa2
  have hok2 : (owBk g p V ms n).ok w2 B := hoa2.get (o := owBk g p V ms n) (by simp)
  obtain ⟨d8, d9, d10⟩ := bk_at8 hok2
  have f9 := bk_frozen hok2 9
  have hl := (bk_block hok2).2.2
  obtain ⟨h3, h4⟩ := bk_set (L2 := owU V' (t ++ s) :: L2) hoa2 (p' := p) (V' := V') (ms' := ms) (n' := n) (k := 9) (u := V') (by omega) (by
    rw [bkCells, bkCells, List.set_append_right _ _ (by simp [hl])]; simp [hl])
  have hbk : bkP g p V' (t ++ s) := ⟨hp.1, by
    rcases Nat.eq_zero_or_pos (t ++ s).size with h0 | h0
    · rw [ByteArray.size_append] at h0
      rcases hp.2 with e | e
      · exact .inl (r4.2 ⟨e, by omega⟩)
      · omega
    · exact .inr h0⟩
  have hfin := hre _ _ _ _ _ _ hbk h3
  have hbel : Below B w (w2.setCell ⟨g, 9, none⟩ V') := hb1.trans (((Below.refl _ _).grown r3 (Nat.le_trans hB hb1.size) (fun k hk => (hokU.lt k hk).1)).trans h4)
  have hnc : NC w (w2.setCell ⟨g, 9, none⟩ V') := (hn1.trans (NC.grown r3 (fun k hk => by
    rcases hokU.2 with ⟨hv, _⟩ | ⟨g', cap, cur, fz, hv, _, hg, _⟩
    · rw [hv] at hk; cases hk
    · rw [hv] at hk; cases hk; exact ⟨_, _, _, hg⟩))).trans (NC.setCell _ _ _)
  obtain ⟨ao, n', cap, rfl⟩ : ∃ ao n' cap, V' = .slice ao n' cap := by
    rcases r2.2 with ⟨hv, _⟩ | ⟨g, cap, cur, fz, hv, _⟩
    · exact ⟨_, _, _, hv⟩
    · exact ⟨_, _, _, hv⟩
  go_wp2_with (at_builtin; refine wp_appRunU r1 rfl rfl rfl rfl ?_)
  go_ret2
  exact ⟨rfl, hfin, hbel, hnc⟩
theorem bkWrite_ok (w : World) (h : HP w B (its1 ++ .bk g ms t n :: its2)) (s : ByteArray) (hlen : t.size + s.size < 1000000000) (hB : B ≤ w.heap.size) :
    Calls Tryz.prog 8 #[.pointer (some ⟨g, 8, none⟩), .string s] w fun e w' => e = .returned (.tuple #[.int .i64 s.size, .nilIface]) ∧ HP w' B (its1 ++ .bk g ms (t ++ s) n :: its2) ∧ Below B w w' :=
  (bkWrite_okN w h s hlen hB).mono fun _ _ h_ => ⟨h_.1, h_.2.1, h_.2.2.1⟩
theorem byteCells_str (t : ByteArray) : Lib.strCells t = Lib.byteCells t.data.toList := rfl
theorem bkFroze (w : World) {g' cap : Nat} (hoa : OA w B (L1 ++ owU (.slice (some ⟨g', 0, none⟩) t.size cap) t :: L2)) : OA (w.freeze ⟨g', 0, none⟩ t.size) B (L1 ++ owU (.slice (some ⟨g', 0, none⟩) t.size cap) t :: L2) ∧ Below B w (w.freeze ⟨g', 0, none⟩ t.size) := by
  have hok : w.ownsRowF B 5 1 (.slice (some ⟨g', 0, none⟩) t.size cap) t.size (Lib.strCells t) := hoa.get (o := owU _ t) (by simp)
  have hB := (hok.lt g' rfl).1
  have hb : Below B w (w.freeze ⟨g', 0, none⟩ t.size) := Lib.below_freeze (Below.refl B w) (p := ⟨g', 0, none⟩) hB _
  refine ⟨hoa.upd (o' := owU (.slice (some ⟨g', 0, none⟩) t.size cap) t) ?_ ?_ (.inl rfl), hb⟩
  · unfold World.freeze
    split
    · exact ⟨rfl, rfl, rfl, Nat.le_refl _, fun _ _ _ => rfl⟩
    · refine ⟨rfl, rfl, rfl, by simp, fun k hk hne => ?_⟩
      simp only [Array.getElem?_modify]
      rw [if_neg (fun e => hne (by rw [← e]; rfl))]
  · show World.ownsRowF _ B 5 1 _ t.size (Lib.strCells t)
    unfold World.freeze
    split
    · exact hok
    · refine ⟨hok.1, ?_⟩
      rcases hok.2 with ⟨hv, _⟩ | ⟨g2, cap2, cur, fz, hv, hbg, hg, hfz, rest⟩
      · cases hv
      · injection hv with ha _ hcap
        injection ha with ha
        injection ha with hgg _ _
        subst hgg
        subst hcap
        obtain ⟨lo, hi⟩ := fz
        refine .inr ⟨g', _, cur, (if lo == hi then (0, 0 + t.size) else (min lo 0, max hi (0 + t.size))), rfl, hbg, ?_, ?_, rest⟩
        · simp [Array.getElem?_modify, hg]
        · simp only at hfz
          split <;> simp <;> omega
set_option maxHeartbeats 2000000 in
theorem bkString_okN (w : World) (h : HP w B (its1 ++ .bk g ms t n :: its2)) (hB : B ≤ w.heap.size) :
    Calls Tryz.prog 12 #[.pointer (some ⟨g, 8, none⟩)] w fun e w' => e = .returned (.string t) ∧ HP w' B (its1 ++ .bk g ms t n :: its2) ∧ Below B w w' ∧ NC w w' := by
  obtain ⟨p, V, L1, L2, hp, hoa, hre⟩ := h.getBk
  have hok : (owBk g p V ms n).ok w B := hoa.get (o := owBk g p V ms n) (by simp)
  have hokU : w.ownsRowF B 5 1 V t.size (Lib.strCells t) := hoa.get (o := owU V t) (by simp)
  obtain ⟨c8, c9, c10⟩ := bk_at8 hok
  rcases hokU.2 with ⟨rfl, h0⟩ | ⟨g', cap, cur, fz, rfl, hbg, hg, hfz, hnc, hcm, hcs, htake⟩
  · have ht : t = .empty := by cases t; rename_i d; simp [ByteArray.size] at h0; subst h0; rfl
    have c1 : w.drew.cell? ⟨g, 9, none⟩ = some (.slice none 0 0) := c9
    have hUS : (Builtin.unsafeString_ #[65, 3] 9 #[.pointer none, .int .i64 0]).run Tryz.prog w.drew = .ok (.string .empty) w.drew := Lib.run_unsafeString_none _ _ _ _ _
    have hSD : (Builtin.unsafeSliceData_ #[29] 65 #[.slice none 0 0]).run Tryz.prog w.drew = .ok (.pointer none) w.drew := rfl
    have hfin : HP w.drew B (its1 ++ .bk g ms t n :: its2) := h.dr ⟨1, rfl⟩
    go_enter Tryz.func12, Tryz.ntmps12
    go_wp2
    go_region
    all_goals (go_wp2; go_ret; exact ⟨by rw [ht]; rfl, hfin, Below.drew (Below.refl B w), NC.drew w⟩)
  · have h0 : 0 < t.size := hp.2.resolve_left (fun e => by cases e)
    have hl : t.data.toList ≠ [] := by
      intro e
      have : t.data.toList.length = t.size := by rw [Array.length_toList]; rfl
      rw [e] at this; simp at this; omega
    have hll : t.data.toList.length = t.size := by rw [Array.length_toList]; rfl
    have c1 : w.drew.cell? ⟨g, 9, none⟩ = some (.slice (some ⟨g', 0, none⟩) t.size cap) := c9
    have hSD : (Builtin.unsafeSliceData_ #[29] 65 #[.slice (some ⟨g', 0, none⟩) t.size cap]).run Tryz.prog w.drew = .ok (.pointer (some ⟨g', 0, none⟩)) w.drew :=
      Lib.run_unsafeSliceData_row _ _ _ _ _ _ (by omega)
    have hUS : (Builtin.unsafeString_ #[65, 3] 9 #[.pointer (some ⟨g', 0, none⟩), .int .i64 (t.size : Int)]).run Tryz.prog w.drew = .ok (.string t) (w.drew.freeze ⟨g', 0, none⟩ t.size) := by
      have := Lib.run_unsafeString_row (P := Tryz.prog) w.drew 65 3 9 5 Tryz.underlying65 (by kernel_rfl) g' cur.size (by have hg' : w.drew.heap[g']? = some (.cells cur 5 fz) := hg; simp [World.shape?, hg']) t.data.toList hl (by omega) (by unfold maxLen at hcm; omega) (fun j x hx => by
        have := hokU.cells (g := g') rfl j (.int .u8 x.toNat) (by rw [byteCells_str]; simp [Lib.byteCells, hx])
        exact this)
      rw [hll] at this
      exact this
    have e1 : L1 ++ owBk g p (.slice (some ⟨g', 0, none⟩) t.size cap) ms n :: owU (.slice (some ⟨g', 0, none⟩) t.size cap) t :: L2 = (L1 ++ [owBk g p (.slice (some ⟨g', 0, none⟩) t.size cap) ms n]) ++ owU (.slice (some ⟨g', 0, none⟩) t.size cap) t :: L2 := by simp
    have hoa1 : OA w.drew B _ := hoa.dr ⟨1, rfl⟩
    rw [e1] at hoa1
    obtain ⟨q1, q2⟩ := bkFroze w.drew hoa1
    rw [← e1] at q1
    have hfin := hre _ _ _ _ _ _ hp q1
    have hbel : Below B w (w.drew.freeze ⟨g', 0, none⟩ t.size) := (Below.drew (Below.refl B w)).trans q2
    go_enter Tryz.func12, Tryz.ntmps12
    go_wp2
    go_region
    all_goals (go_wp2; go_ret; exact ⟨rfl, hfin, hbel, (NC.drew w).trans (NC.freeze _ _ _)⟩)
theorem bkString_ok (w : World) (h : HP w B (its1 ++ .bk g ms t n :: its2)) (hB : B ≤ w.heap.size) :
    Calls Tryz.prog 12 #[.pointer (some ⟨g, 8, none⟩)] w fun e w' => e = .returned (.string t) ∧ HP w' B (its1 ++ .bk g ms t n :: its2) ∧ Below B w w' :=
  (bkString_okN w h hB).mono fun _ _ h_ => ⟨h_.1, h_.2.1, h_.2.2.1⟩
end
end Go.Proofs.YtekfgkeimlidhaaGreatDoor
/- a line's sum; a number's digits (the library's) -/
set_option linter.all false
set_option maxRecDepth 100000
namespace Go.Proofs.YtekfgkeimlidhaaGreatDoor
open Go.RowKit Go.Shelf
def bsm : List UInt8 → Nat → Nat
  | [], _ => 0
  | c :: l, i => (i + 1) * c.toNat + bsm l (i + 1)
theorem bsm_app : ∀ (l : List UInt8) (c : UInt8) (i : Nat), bsm (l ++ [c]) i = bsm l i + (i + l.length + 1) * c.toNat
  | [], c, i => by simp [bsm]
  | d :: l, c, i => by
    rw [List.cons_append, bsm, bsm, bsm_app l c (i + 1), List.length_cons, show i + 1 + l.length + 1 = i + (l.length + 1) + 1 by omega]; omega
theorem bsm_le : ∀ (l : List UInt8) (i m : Nat), i + l.length ≤ m → bsm l i ≤ l.length * (m * 255)
  | [], _, _, _ => by simp [bsm]
  | d :: l, i, m, h => by
    rw [List.length_cons] at h
    have ih := bsm_le l (i + 1) m (by omega)
    have h1 : (i + 1) * d.toNat ≤ m * 255 := Nat.mul_le_mul (by omega) (by have := d.toNat_lt; omega)
    rw [bsm, List.length_cons, Nat.add_mul l.length 1 (m * 255)]; omega
def mSum (s : ByteArray) : Option Int := if s.size < 1000000 then some ((bsm s.data.toList 0 % 9973 : Nat) : Int) else none
set_option maxHeartbeats 1000000 in
theorem mSum_ok {s : ByteArray} {r : Int} (w : World) (h : mSum s = some r) :
    Calls Tryz.prog 78 #[.string s] w fun e w' => e = .returned (.int .i64 r) ∧ Below w.heap.size w w' := by
  unfold mSum at h
  split at h
  case isFalse => cases h
  rename_i hs
  obtain rfl := Option.some.inj h
  clear h
  have hcv := Lib.run_convert_string_bytes (P := Tryz.prog) w 9 29 5 s (u := .string) Tryz.underlying9 Tryz.underlying29 Tryz.underlying5
  have hB : ∀ j, j < s.size → (Lib.bytesWorld w 5 s).cell? ⟨w.heap.size, j, none⟩ = some (.int .u8 (s.data.toList.getD j 0).toNat) := fun j hj => Lib.bytesWorld_cell w 5 s j hj
  have hbel : Below w.heap.size w (Lib.bytesWorld w 5 s) := ⟨rfl, rfl, rfl, by rw [Lib.bytesWorld_size]; omega, fun k hk => Lib.bytesWorld_at_old w 5 s k hk⟩
  obtain ⟨W1, hW1⟩ : ∃ W1, W1 = Lib.bytesWorld w 5 s := ⟨_, rfl⟩
  rw [← hW1] at hcv hB hbel
  clear hW1
  obtain ⟨bs, hL⟩ : ∃ bs, bs = s.data.toList := ⟨_, rfl⟩
  have hLn : bs.length = s.size := by rw [hL, Array.length_toList]; rfl
  rw [← hL] at hB ⊢
  clear hL
  have HBEL := Lib.hid hbel; clear hbel
  go_enter Tryz.func78, Tryz.ntmps78
  go_wp2
  go_loop [3, 9] (fun vn vi => ∃ (k : Nat) (a : Int), vn = .int .i64 a ∧ vi = .int .i64 k ∧ k ≤ s.size ∧ Hid (a = (bsm (bs.take k) 0 : Nat))) (fun _ vi => s.size - (intOf vi).toNat)
  case atStart => exact ⟨0, 0, rfl, rfl, by omega, rfl⟩
  case round =>
    obtain ⟨k, a, rfl, rfl, hk, hh⟩ := hrel
    have ha := hh.out
    have hle := bsm_le (bs.take k) 0 k (by rw [List.length_take]; omega)
    have hle2 : (bs.take k).length * (k * 255) ≤ k * (k * 255) := Nat.mul_le_mul_right _ (by rw [List.length_take]; omega)
    have hk1 : k * (k * 255) ≤ 1000000 * (1000000 * 255) := Nat.mul_le_mul (by omega) (Nat.mul_le_mul (by omega) (Nat.le_refl _))
    have a0 : 0 ≤ a := by omega
    have a1 : a ≤ 255000000000000 := by omega
    clear hle hle2 hk1
    by_cases hkn : k < s.size
    · have hc := hB k hkn
      have hget : bs.getD k 0 = bs[k]'(by omega) := by simp [List.getD, List.getElem?_eq_getElem (show k < bs.length by omega)]
      rw [hget] at hc
      have hstep : bsm (bs.take (k + 1)) 0 = bsm (bs.take k) 0 + (k + 1) * (bs[k]'(by omega)).toNat := by
        rw [List.take_succ_eq_append_getElem (by omega), bsm_app, List.length_take, show 0 + min k bs.length + 1 = k + 1 by omega]
      generalize bs[k]'(by omega) = c at hc hget hstep
      have hc256 : c.toNat < 256 := c.toNat_lt
      have hp : (k + 1) * c.toNat ≤ 1000000 * 255 := Nat.mul_le_mul (by omega) (by omega)
      have hpe : ((k : Int) + 1) * (c.toNat : Int) = (((k + 1) * c.toNat : Nat) : Int) := by rw [Int.natCast_mul]; rfl
      generalize hq : (k + 1) * c.toNat = q at hp hpe hstep
      have HSTEP := Lib.hid hstep
      clear hB hget hstep ha hq
      go_wp2
      go_round
      case rel => exact ⟨k+1, a + q, by first | rfl | go_num | (congr 1; omega), by go_num, by omega, by show _ = _; rw [HSTEP.out, hh.out]; omega⟩
      case measure => simp [intOf] <;> omega
    · have hke : k = s.size := by omega
      have hfin : a = (bsm bs 0 : Nat) := by rw [ha, List.take_of_length_le (by omega)]
      clear hB ha
      have hmod : a.tmod 9973 = ((bsm bs 0 % 9973 : Nat) : Int) := by rw [hfin]; rfl
      go_wp2
      go_ret
      exact ⟨by first | rfl | (rw [← hmod]) | (congr 2), HBEL.out⟩
def TabC (w : World) : Prop := Lib.TabIs Tryz.prog w "internal/strconv.uint64pow10" .u64 Lib.pow10Tab
theorem TabC.go {w W : World} (h : TabC w) (hb : Below w.heap.size w W) : TabC W := by
  unfold TabC Lib.TabIs World.var? at *
  cases hg : Tryz.prog.globalNamed "internal/strconv.uint64pow10" with
  | none => simp [hg] at h
  | some g =>
    simp only [hg, Option.bind_some] at h ⊢
    have hlt : g < w.heap.size := by
      rcases Nat.lt_or_ge g w.heap.size with h' | h'
      · exact h'
      · simp [Array.getElem?_eq_none h'] at h
    rw [hb.block g hlt]; exact h
theorem TabC.lt {w : World} (h : TabC w) : 4 < w.heap.size := by
  have hg : Tryz.prog.globalNamed "internal/strconv.uint64pow10" = some 4 := by kernel_rfl
  unfold TabC Lib.TabIs World.var? at h
  simp only [hg, Option.bind_some] at h
  rcases Nat.lt_or_ge 4 w.heap.size with h' | h'
  · exact h'
  · simp [Array.getElem?_eq_none h'] at h
/-- the table lies below B -/
def TabB (B : Nat) (w : World) : Prop := TabC w ∧ 4 < B
theorem TabC.at_ {w : World} (h : TabC w) : TabB w.heap.size w := ⟨h, h.lt⟩
theorem TabB.go {B : Nat} {w W : World} (h : TabB B w) (hb : Below B w W) : TabB B W := by
  refine ⟨?_, h.2⟩
  have hg : Tryz.prog.globalNamed "internal/strconv.uint64pow10" = some 4 := by kernel_rfl
  have h1 := h.1
  unfold TabC Lib.TabIs World.var? at h1 ⊢
  simp only [hg, Option.bind_some] at h1 ⊢
  rw [hb.block _ h.2]; exact h1
def itoaRen : Ren := ⟨fun x => if x = 129 then 110 else if x = 171 then 40 else if x = 243 then 63 else if x = 246 then 81 else if x = 283 then 97 else if x = 284 then 98 else if x = 285 then 99 else if x = 286 then 100 else if x = 317 then 109 else if x = 318 then 111 else if x = 319 then 112 else if x = 320 then 113 else if x = 337 then 117 else if x = 338 then 118 else 0,
  fun x => if x = 0 then 0 else if x = 2 then 2 else if x = 3 then 3 else if x = 4 then 4 else if x = 5 then 5 else if x = 9 then 9 else if x = 20 then 20 else if x = 37 then 29 else if x = 46 then 47 else if x = 51 then 160 else if x = 53 then 148 else if x = 171 then 147 else if x = 173 then 151 else if x = 212 then 159 else if x = 213 then 161 else if x = 232 then 174 else if x = 233 then 175 else 0, fun x => if x = 17 then 4 else if x = 18 then 7 else if x = 19 then 8 else x⟩
theorem itoaLays : LaysM.n171 Tryz.prog itoaRen :=
  { mixed := by kernel_rfl
    f129 := Tryz.func110.trans (congrArg some (by kernel_rfl))
    f171 := Tryz.func40.trans (congrArg some (by kernel_rfl))
    f243 := Tryz.func63.trans (congrArg some (by kernel_rfl))
    f246 := Tryz.func81.trans (congrArg some (by kernel_rfl))
    f283 := Tryz.func97.trans (congrArg some (by kernel_rfl))
    f284 := Tryz.func98.trans (congrArg some (by kernel_rfl))
    f285 := Tryz.func99.trans (congrArg some (by kernel_rfl))
    f286 := Tryz.func100.trans (congrArg some (by kernel_rfl))
    f317 := Tryz.func109.trans (congrArg some (by kernel_rfl))
    f318 := Tryz.func111.trans (congrArg some (by kernel_rfl))
    f319 := Tryz.func112.trans (congrArg some (by kernel_rfl))
    f320 := Tryz.func113.trans (congrArg some (by kernel_rfl))
    f337 := Tryz.func117.trans (congrArg some (by kernel_rfl))
    f338 := Tryz.func118.trans (congrArg some (by kernel_rfl))
    t0 := Tryz.underlying0
    a0 := Tryz.isAgg0
    z0 := Tryz.sizeOf0
    v0 := Tryz.zeroValue0
    t2 := Tryz.underlying2
    a2 := Tryz.isAgg2
    z2 := Tryz.sizeOf2
    v2 := Tryz.zeroValue2
    t3 := Tryz.underlying3
    a3 := Tryz.isAgg3
    z3 := Tryz.sizeOf3
    v3 := Tryz.zeroValue3
    t4 := Tryz.underlying4
    a4 := Tryz.isAgg4
    z4 := Tryz.sizeOf4
    v4 := Tryz.zeroValue4
    t5 := Tryz.underlying5
    a5 := Tryz.isAgg5
    z5 := Tryz.sizeOf5
    v5 := Tryz.zeroValue5
    t9 := Tryz.underlying9
    a9 := Tryz.isAgg9
    z9 := Tryz.sizeOf9
    v9 := Tryz.zeroValue9
    t20 := Tryz.underlying20
    a20 := Tryz.isAgg20
    z20 := Tryz.sizeOf20
    v20 := Tryz.zeroValue20
    t37 := Tryz.underlying29
    a37 := Tryz.isAgg29
    z37 := Tryz.sizeOf29
    v37 := Tryz.zeroValue29
    t46 := Tryz.underlying47
    a46 := Tryz.isAgg47
    z46 := Tryz.sizeOf47
    v46 := Tryz.zeroValue47
    t51 := Tryz.underlying160
    a51 := Tryz.isAgg160
    z51 := Tryz.sizeOf160
    v51 := Tryz.zeroValue160
    t53 := Tryz.underlying148
    a53 := Tryz.isAgg148
    z53 := Tryz.sizeOf148
    v53 := Tryz.zeroValue148
    t171 := Tryz.underlying147
    a171 := Tryz.isAgg147
    z171 := Tryz.sizeOf147
    v171 := Tryz.zeroValue147
    t173 := Tryz.underlying151
    a173 := Tryz.isAgg151
    z173 := Tryz.sizeOf151
    v173 := Tryz.zeroValue151
    t212 := Tryz.underlying159
    a212 := Tryz.isAgg159
    z212 := Tryz.sizeOf159
    v212 := Tryz.zeroValue159
    t213 := Tryz.underlying161
    a213 := Tryz.isAgg161
    z213 := Tryz.sizeOf161
    t232 := Tryz.underlying174
    a232 := Tryz.isAgg174
    z232 := Tryz.sizeOf174
    v232 := Tryz.zeroValue174
    t233 := Tryz.underlying175
    a233 := Tryz.isAgg175
    z233 := Tryz.sizeOf175
    v233 := Tryz.zeroValue175
    g17 := by kernel_rfl
    g18 := by kernel_rfl
    g19 := by kernel_rfl
    i0 := by kernel_rfl
    i2 := by kernel_rfl
    i3 := by kernel_rfl
    i4 := by kernel_rfl
    i5 := by kernel_rfl
    i9 := by kernel_rfl
    i20 := by kernel_rfl
    i37 := by kernel_rfl
    i46 := by kernel_rfl
    i51 := by kernel_rfl
    i53 := by kernel_rfl
    i171 := by kernel_rfl
    i173 := by kernel_rfl
    i212 := by kernel_rfl
    i232 := by kernel_rfl
    i233 := by kernel_rfl
    m17 := by kernel_rfl
    m18 := by kernel_rfl
    m19 := by kernel_rfl }
def dec (n : Int) : ByteArray := ⟨(Lib.itoa n).toArray⟩
def mItoa (n : Int) : Option ByteArray := if 0 ≤ n ∧ n ≤ 9223372036854775807 then some (dec n) else none
theorem mItoa_ok {n : Int} {r : ByteArray} (w : World) (htb : TabC w) (h : mItoa n = some r) :
    Calls Tryz.prog 40 #[.int .i64 n] w fun e w' => e = .returned (.string r) ∧ Below w.heap.size w w' := by
  unfold mItoa at h
  split at h
  case isFalse => cases h
  rename_i hn
  obtain rfl := Option.some.inj h
  refine (Any.strconv_Itoa itoaLays n (by omega) hn.2 w htb).mono ?_
  rintro e w' ⟨rfl, k, os, rfl⟩
  exact ⟨rfl, Lib.below_grow _ _ (Nat.le_refl _) _ _⟩
end Go.Proofs.YtekfgkeimlidhaaGreatDoor
/- what is put down -/
set_option linter.all false
set_option maxRecDepth 100000
namespace Go.Proofs.YtekfgkeimlidhaaGreatDoor
open Go.RowKit Go.Shelf
def dnW : ByteArray → List Int → ByteArray
  | w, [] => w
  | w, n :: l => dnW (w ++ ((⟨#[32]⟩ : ByteArray) ++ dec n)) l
/-- a line, with its sum, and its end -/
def lineW (wd : ByteArray) : ByteArray := ((wd ++ (⟨#[32]⟩ : ByteArray)) ++ dec ((bsm wd.data.toList 0 % 9973 : Nat) : Int)) ++ (⟨#[10]⟩ : ByteArray)
theorem dec_size (n : Int) (h0 : 0 ≤ n) : (dec n).size = Lib.nDigits n.toNat := by
  unfold dec Lib.itoa
  rw [if_neg (by omega)]
  exact Lib.decDigits_length _
theorem nDigits_lt {u k : Nat} (hk : 0 < k) (h : u < 10 ^ k) : Lib.nDigits u ≤ k := by
  induction k generalizing u with
  | zero => omega
  | succ k ih =>
    rw [← Lib.decDigits_length, Lib.decDigits]
    split
    · simp
    · rename_i hu
      rcases Nat.eq_zero_or_pos k with rfl | hk'
      · simp at h; omega
      · have := ih hk' (u := u / 10) (by rw [Nat.pow_succ] at h; omega)
        rw [← Lib.decDigits_length] at this
        rw [List.length_append, List.length_singleton]; omega
theorem dec_le {n : Int} (h0 : 0 ≤ n) {k : Nat} (hk : 0 < k) (h : n.toNat < 10 ^ k) : (dec n).size ≤ k := by rw [dec_size n h0]; exact nDigits_lt hk h
theorem one_size (b : UInt8) : (⟨#[b]⟩ : ByteArray).size = 1 := rfl
set_option maxHeartbeats 2000000 in
theorem bkDown_okN {B g : Nat} {its1 its2 : List It} {ms : List Nat} {t : ByteArray} {n : Int} {A : Option Addr} {cap : Nat} {l : List Int} {word : ByteArray} (w : World) (htb : TabC w) (h : HP w B (its1 ++ .bk g ms t n :: its2)) (hB : B ≤ w.heap.size) (hr : ReadsI w w.heap.size A l)
    (hl : l.length ≤ 2) (hn : ∀ x ∈ l, 0 ≤ x ∧ x < 8) (hw : word.size ≤ 10) (ht : t.size < 1000000) (hm : 0 ≤ n ∧ n < 1000) :
    Calls Tryz.prog 59 #[.pointer (some ⟨g, 0, none⟩), .string word, .slice A l.length cap] w fun e w' =>
      e = .returned (.tuple #[]) ∧ HP w' B (its1 ++ .bk g ms (t ++ lineW (dnW word l)) (n + 1) :: its2) ∧ Below B w w' ∧ NC w w' := by
  have HH := Lib.hid h; clear h
  have HR := Lib.hid hr; clear hr
  have HN := Lib.hid hn; clear hn
  have HTB := Lib.hid htb; clear htb
  have HT := Lib.hid ht; clear ht
  go_enter Tryz.func59, Tryz.ntmps59
  go_wp2_with fail
  go_loopg [1, 10] 100 (fun gg uw ui wr => ∃ (wd : ByteArray) (k : Nat), uw = .string wd ∧ ui = .int .i64 k ∧ k ≤ l.length ∧ gg = 100 - k ∧ Hid (Below w.heap.size w wr) ∧ Hid (dnW wd (l.drop k) = dnW word l) ∧ Hid (wd.size ≤ 10 + 2 * k))
  case atStart => exact ⟨word, 0, rfl, rfl, by omega, rfl, Lib.hid (Below.refl _ _), Lib.hid rfl, Lib.hid (by omega)⟩
  case round =>
    obtain ⟨wd, k, rfl, rfl, hk, rfl, HW, HD, HS⟩ := hrel
    rename World => W
    by_cases hkn : k < l.length
    · obtain ⟨b, o, rfl, _, hc⟩ := (rdI HW.out HR.out).at_ hkn
      have hd1 : l.drop k = l[k] :: l.drop (k + 1) := List.drop_eq_getElem_cons hkn
      have hx := HN.out _ (List.getElem_mem hkn)
      have hrel := HD.out
      rw [hd1, dnW] at hrel
      generalize l[k] = x at hc hx hrel
      have hs := HS.out
      have hds := dec_le hx.1 (k := 1) (by omega) (by omega)
      have HREL := Lib.hid hrel
      clear hd1 hrel
      obtain ⟨y, hy⟩ : ∃ y, y = dec x := ⟨_, rfl⟩
      have hI : mItoa x = some y := by unfold mItoa; rw [if_pos (by omega), hy]
      have HI := Lib.hid (mItoa_ok W (HTB.out.go HW.out) hI)
      have hc1 : ¬ (9223372036854775807 < (((⟨#[32]⟩ : ByteArray).size : Int) + (y.size : Int))) := by rw [hy, one_size]; omega
      have hc2 : ¬ (9223372036854775807 < ((wd.size : Int) + (((⟨#[32]⟩ : ByteArray) ++ y).size : Int))) := by rw [ByteArray.size_append, hy, one_size]; omega
      have HY := Lib.hid hy
      have HDS := Lib.hid hds
      clear hy hI hx hds hs
      go_wp2_with fail
      refine HI.out.mono ?_; rintro e W2 ⟨rfl, hd⟩
      go_wp2_with fail
      go_roundg (100 - (k + 1))
      case measure => omega
      case rel => exact ⟨_, k + 1, rfl, by go_num, by omega, rfl, Lib.hid (HW.out.trans (hd.mono HW.out.size)), Lib.hid (by rw [HY.out]; exact HREL.out), Lib.hid (by have := HS.out; have := HDS.out; rw [ByteArray.size_append, ByteArray.size_append, HY.out, one_size]; omega)⟩
    · have hke : k = l.length := by omega
      have hwd : wd = dnW word l := by have := HD.out; rw [hke, List.drop_length, dnW] at this; exact this
      have hs := HS.out
      obtain ⟨sm, hsm⟩ : ∃ sm : Int, sm = ((bsm wd.data.toList 0 % 9973 : Nat) : Int) := ⟨_, rfl⟩
      have hsm0 : 0 ≤ sm ∧ sm < 9973 := by have := Nat.mod_lt (bsm wd.data.toList 0) (show 0 < 9973 by omega); omega
      have hS : mSum wd = some sm := by unfold mSum; rw [if_pos (by omega), hsm]
      obtain ⟨y, hy⟩ : ∃ y, y = dec sm := ⟨_, rfl⟩
      have hI : mItoa sm = some y := by unfold mItoa; rw [if_pos (by omega), hy]
      have hds : y.size ≤ 4 := by rw [hy]; exact dec_le hsm0.1 (by omega) (by omega)
      have HCS := Lib.hid (fun d_ os_ => Calls.regrown_of (v := .int .i64 sm) (mSum_ok (Go.Sort.grow (redrawn W d_) os_) hS))
      have HCI := Lib.hid (fun d_ os_ => Calls.regrown_of (v := .string y) (mItoa_ok (Go.Sort.grow (redrawn W d_) os_) (HTB.out.go (HW.out.trans ((below_regrown W d_ os_).mono HW.out.size))) hI))
      have hc1 : ¬ (9223372036854775807 < ((wd.size : Int) + ((⟨#[32]⟩ : ByteArray).size : Int))) := by rw [one_size]; omega
      have hc2 : ¬ (9223372036854775807 < (((wd ++ (⟨#[32]⟩ : ByteArray)).size : Int) + (y.size : Int))) := by rw [ByteArray.size_append, one_size]; omega
      have hc3 : ¬ (9223372036854775807 < ((((wd ++ (⟨#[32]⟩ : ByteArray)) ++ y).size : Int) + ((⟨#[10]⟩ : ByteArray).size : Int))) := by rw [ByteArray.size_append, ByteArray.size_append, one_size, one_size]; omega
      have hn1 : ¬ (9223372036854775807 < wd.size + 1) := by omega
      have hn2 : ¬ (9223372036854775807 < wd.size + 1 + y.size) := by omega
      have hn3 : ¬ (9223372036854775807 < wd.size + 1 + y.size + 1) := by omega
      have hline : ((wd ++ (⟨#[32]⟩ : ByteArray)) ++ y) ++ (⟨#[10]⟩ : ByteArray) = lineW (dnW word l) := by rw [← hwd, lineW, hy, hsm]
      have hls : (lineW (dnW word l)).size < 100 := by rw [← hline, ByteArray.size_append, ByteArray.size_append, ByteArray.size_append, one_size, one_size]; omega
      have HLINE := Lib.hid hline
      have HLS := Lib.hid hls
      clear hsm hy hS hI hline hls hwd hds hs hsm0
      go_wp2_with fail
      refine wp_region_quiet_tail 10 (by kernel_rfl) (by kernel_rfl) ?_
      dsimp only [List.take, List.drop]
      repeat (refine wpQH_step (fun K hK => ?_); go_simp; first | (refine hK _ ?_; clear hK K) | (apply Exists.intro; refine ⟨fun _ => ?_, hK _ ?_⟩; (first | (go_at_call 78; exact (HCS.out _ _)) | (go_at_call 40; exact (HCI.out _ _))); clear hK K))
      refine wpQH_nil ?_
      intro _ hw_
      obtain ⟨⟨dq, osq⟩, hw_⟩ := hw_
      subst hw_
      have hd := below_regrown W dq osq
      generalize Go.Sort.grow (redrawn W _) _ = W9 at *
      have hbel := HW.out.trans (hd.mono HW.out.size)
      have h9 := HH.out.below hbel
      have HB9 := Lib.hid hbel
      clear hd hbel
      go_wp2_with fail
      refine (bkWrite_okN W9 h9 _ (by have := HLS.out; have := HT.out; rw [HLINE.out]; omega) (Nat.le_trans hB HB9.out.size)).mono ?_
      rintro e W10 ⟨rfl, h10, hb10, hn10⟩
      rw [HLINE.out] at h10
      obtain ⟨m1, m2, m3, m4, m5, m6⟩ := h10.bkM
      have f10 := m5 10
      obtain ⟨h11, hb11⟩ := h10.bkSetN (n + 1)
      clear m1 m2 m3 m5 m6 h9
      go_wp2_with fail
      go_end0
      refine ⟨rfl, ?_, ?_, ?_⟩
      · first | exact h11 | (have e1 : wrap64 (n + 1) = n + 1 := by omega; rw [e1]; exact h11)
      · first | exact ((HB9.out.mono hB).trans hb10).trans hb11 | skip
      · exact ((NC.of_below HB9.out).trans hn10).trans (NC.setCell _ _ _)
theorem bkDown_ok {B g : Nat} {its1 its2 : List It} {ms : List Nat} {t : ByteArray} {n : Int} {A : Option Addr} {cap : Nat} {l : List Int} {word : ByteArray} (w : World) (htb : TabC w) (h : HP w B (its1 ++ .bk g ms t n :: its2)) (hB : B ≤ w.heap.size) (hr : ReadsI w w.heap.size A l)
    (hl : l.length ≤ 2) (hn : ∀ x ∈ l, 0 ≤ x ∧ x < 8) (hw : word.size ≤ 10) (ht : t.size < 1000000) (hm : 0 ≤ n ∧ n < 1000) :
    Calls Tryz.prog 59 #[.pointer (some ⟨g, 0, none⟩), .string word, .slice A l.length cap] w fun e w' =>
      e = .returned (.tuple #[]) ∧ HP w' B (its1 ++ .bk g ms (t ++ lineW (dnW word l)) (n + 1) :: its2) ∧ Below B w w' :=
  (bkDown_okN w htb h hB hr hl hn hw ht hm).mono fun _ _ h_ => ⟨h_.1, h_.2.1, h_.2.2.1⟩
end Go.Proofs.YtekfgkeimlidhaaGreatDoor
/- join and cut -/
set_option linter.all false
set_option maxRecDepth 100000
namespace Go.Proofs.YtekfgkeimlidhaaGreatDoor
open Go.RowKit Go.Shelf Pl
abbrev BkT := List Nat × ByteArray × Int
abbrev bkI (g : Nat) (b : BkT) : It := .bk g b.1 b.2.1 b.2.2
def okB (b : BkT) : Prop := (∀ m ∈ b.1, m < 256) ∧ b.2.1.size < 1000000 ∧ 0 ≤ b.2.2 ∧ b.2.2 ≤ 60
instance (b : BkT) : Decidable (okB b) := by unfold okB; exact inferInstance
def bkE (i j : Int) : Int := if (0 ≤ i ∧ i ≤ 7) ∧ (0 ≤ j ∧ j ≤ 7) then (if i = j then 3 else 0) else 1
theorem bkCheck_ok (w : World) (g : Nat) (i j : Int) :
    Calls Tryz.prog 56 #[.pointer (some ⟨g, 0, none⟩), .int .i64 i, .int .i64 j] w fun e w' => e = .returned (errV 91 (bkE i j)) ∧ Below w.heap.size w w' := by
  by_cases e1 : (0 ≤ i ∧ i ≤ 7) ∧ (0 ≤ j ∧ j ≤ 7)
  · have E1 : Hid (inAll [i, j] 0 7 = true) := by show _ = _; rw [inAll2, decide_eq_true e1.1, decide_eq_true e1.2]; rfl
    by_cases e3 : i = j
    · obtain rfl := e3
      have HE : Hid (bkE i i = 3) := by show _ = _; rw [bkE, if_pos e1, if_pos rfl]
      clear e1
      go_enter Tryz.func56, Tryz.ntmps56
      go_wp2_with fail
      refine (call2_any i i 7 _ true E1.out _ rfl).mono ?_; rintro e w' ⟨rfl, rfl⟩
      go_wp2_with fail
      go_ret
      exact ⟨ret_v (by rw [HE.out]; rfl), (Below.refl _ _).alloc (Nat.le_refl _) _⟩
    · have HE : Hid (bkE i j = 0) := by show _ = _; rw [bkE, if_pos e1, if_neg e3]
      have e3b : (i == j) = false := by simpa using e3
      clear e1
      go_enter Tryz.func56, Tryz.ntmps56
      go_wp2_with fail
      refine (call2_any i j 7 _ true E1.out _ rfl).mono ?_; rintro e w' ⟨rfl, rfl⟩
      go_wp2_with fail
      go_ret
      exact ⟨ret_v (by rw [HE.out]; rfl), (Below.refl _ _).alloc (Nat.le_refl _) _⟩
  · have E1 : Hid (inAll [i, j] 0 7 = false) := by
      show _ = _; rw [inAll2]
      by_cases q : 0 ≤ i ∧ i ≤ 7
      · rw [decide_eq_true q, decide_eq_false (fun h => e1 ⟨q, h⟩)]; rfl
      · rw [decide_eq_false q]; rfl
    have HE : Hid (bkE i j = 1) := by show _ = _; rw [bkE, if_neg e1]
    clear e1
    go_enter Tryz.func56, Tryz.ntmps56
    go_wp2_with fail
    refine (call2_any i j 7 _ false E1.out _ rfl).mono ?_; rintro e w' ⟨rfl, rfl⟩
    go_wp2_with fail
    go_ret
    exact ⟨ret_v (by rw [HE.out]; rfl), (Below.refl _ _).alloc (Nat.le_refl _) _⟩
def hasB (ms : List Nat) (i j : Int) : Bool := (ms.getD i.toNat 0).testBit j.toNat
def wthB (m : Nat) (i : Int) : Nat := m ||| 2 ^ i.toNat
def wtoB (m : Nat) (i : Int) : Nat := ndiff m (2 ^ i.toNat)
/-- with the line, its text put down -/
def joinB (b : BkT) (i j : Int) : BkT := ((b.1.set i.toNat (wthB (b.1.getD i.toNat 0) j)).set j.toNat (wthB (b.1.getD j.toNat 0) i), b.2.1 ++ lineW (dnW (⟨#[106]⟩ : ByteArray) [i, j]), b.2.2 + 1)
def cutB (b : BkT) (i j : Int) : BkT := ((b.1.set i.toNat (wtoB (b.1.getD i.toNat 0) j)).set j.toNat (wtoB (b.1.getD j.toNat 0) i), b.2.1 ++ lineW (dnW (⟨#[99]⟩ : ByteArray) [i, j]), b.2.2 + 1)
def mJoin (b : BkT) (i j : Int) : Option (Int × BkT) :=
  if okB b then some (if bkE i j = 0 then (if hasB b.1 i j = true then (6, b) else if b.2.2 = 60 then (4, b) else (0, joinB b i j)) else (bkE i j, b)) else none
def mCut (b : BkT) (i j : Int) : Option (Int × BkT) :=
  if okB b then some (if bkE i j = 0 then (if hasB b.1 i j = true then (if b.2.2 = 60 then (4, b) else (0, cutB b i j)) else (5, b)) else (bkE i j, b)) else none
set_option maxHeartbeats 4000000 in
theorem mJoin_okN {B g : Nat} {its1 its2 : List It} {b : BkT} {i j : Int} {r : Int × BkT} (w : World) (htb : TabB B w) (h : HP w B (its1 ++ bkI g b :: its2)) (hB : B ≤ w.heap.size) (hm : mJoin b i j = some r) :
    Calls Tryz.prog 37 #[.pointer (some ⟨g, 0, none⟩), .int .i64 i, .int .i64 j] w fun e w' =>
      e = .returned (errV 91 r.1) ∧ HP w' B (its1 ++ bkI g r.2 :: its2) ∧ Below B w w' ∧ NC w w' := by
  unfold mJoin at hm
  obtain ⟨hok, rfl⟩ := s_of hm
  clear hm
  have HH := Lib.hid h; clear h
  have HOK := Lib.hid hok; clear hok
  have HTB := Lib.hid htb; clear htb
  have HC := Lib.hid (bkCheck_ok w g i j)
  by_cases c1 : bkE i j = 0
  · rw [if_pos c1]
    rw [c1, errV_zero] at HC
    have hij : ((0 ≤ i ∧ i ≤ 7) ∧ (0 ≤ j ∧ j ≤ 7)) ∧ i ≠ j := by
      unfold bkE at c1
      split at c1
      · rename_i q; exact ⟨q, fun e => by rw [if_pos e] at c1; cases c1⟩
      · cases c1
    clear c1
    obtain ⟨⟨⟨i0, i7⟩, j0, j7⟩, hne⟩ := hij
    obtain ⟨i', rfl⟩ := Int.eq_ofNat_of_zero_le i0
    obtain ⟨j', rfl⟩ := Int.eq_ofNat_of_zero_le j0
    have HNE : Hid (i' ≠ j') := fun e => hne (by rw [e])
    clear i0 j0 hne
    obtain ⟨m1, m2, m3, m4, m5, m6⟩ := HH.out.bkM
    have hmi : b.1.getD i' 0 < 256 := by
      rw [List.getD_eq_getElem?_getD, List.getElem?_eq_getElem (by omega)]
      exact HOK.out.1 _ (List.getElem_mem _)
    have hmj : b.1.getD j' 0 < 256 := by
      rw [List.getD_eq_getElem?_getD, List.getElem?_eq_getElem (by omega)]
      exact HOK.out.1 _ (List.getElem_mem _)
    have ci := m3 i' (by omega)
    have cj := m3 j' (by omega)
    generalize hmi' : b.1.getD i' 0 = mi at *
    generalize hmj' : b.1.getD j' 0 = mj at *
    have HS : Hid (hasB b.1 i' j' = mi.testBit j') := by show _ = _; unfold hasB; rw [Int.toNat_natCast, hmi', Int.toNat_natCast]
    have CI := Lib.hid ci; have CJ := Lib.hid cj; have CN := Lib.hid m4
    have HMI := Lib.hid hmi'; have HMJ := Lib.hid hmj'
    have HL := Lib.hid m2; have HF := Lib.hid m5
    have HBG := Lib.hid m1
    clear ci cj m3 m4 m5 m6 hmi' hmj' m2 m1
    have hh : sHas mi (j' : Int) = some (mi.testBit j') := by unfold sHas; rw [if_pos (by omega), Int.toNat_natCast]
    have HHAS := Lib.hid hh; clear hh
    rw [HS.out]
    cases hb : mi.testBit j' with
    | true =>
      rw [if_pos rfl]
      rw [hb] at HHAS
      go_enter Tryz.func37, Tryz.ntmps37
      go_wp2_with fail
      refine HC.out.mono ?_; rintro e w1 ⟨rfl, hd⟩
      have ci := (hd.cell (p := ⟨g, i', none⟩) (World.block_lt_of_cell? _ _ CI.out)).trans CI.out
      have HD := Lib.hid hd; clear hd
      go_wp2_with fail
      refine (sHas_ok _ HHAS.out).mono ?_; rintro e w2 ⟨rfl, rfl⟩
      go_wp2_with fail
      go_ret
      exact ⟨ret_v rfl, HH.out.below HD.out, HD.out.mono hB, NC.of_below HD.out⟩
    | false =>
      rw [if_neg (by decide)]
      rw [hb] at HHAS
      by_cases c60 : b.2.2 = 60
      · rw [if_pos c60]
        have c60b : (b.2.2 == 60) = true := by simpa using c60
        go_enter Tryz.func37, Tryz.ntmps37
        go_wp2_with fail
        refine HC.out.mono ?_; rintro e w1 ⟨rfl, hd⟩
        have ci := (hd.cell (p := ⟨g, i', none⟩) (World.block_lt_of_cell? _ _ CI.out)).trans CI.out
        have cn := (hd.cell (p := ⟨g, 10, none⟩) (World.block_lt_of_cell? _ _ CN.out)).trans CN.out
        have HD := Lib.hid hd; clear hd
        go_wp2_with fail
        refine (sHas_ok _ HHAS.out).mono ?_; rintro e w2 ⟨rfl, rfl⟩
        go_wp2_with fail
        go_ret
        exact ⟨ret_v rfl, HH.out.below HD.out, HD.out.mono hB, NC.of_below HD.out⟩
      · rw [if_neg c60]
        have c60b : (b.2.2 == 60) = false := by simpa using c60
        go_enter Tryz.func37, Tryz.ntmps37
        go_wp2_with fail
        refine HC.out.mono ?_; rintro e w1 ⟨rfl, hd⟩
        have ci := (hd.cell (p := ⟨g, i', none⟩) (World.block_lt_of_cell? _ _ CI.out)).trans CI.out
        have cj := (hd.cell (p := ⟨g, j', none⟩) (World.block_lt_of_cell? _ _ CJ.out)).trans CJ.out
        have cn := (hd.cell (p := ⟨g, 10, none⟩) (World.block_lt_of_cell? _ _ CN.out)).trans CN.out
        have HD := Lib.hid hd; clear hd
        have HW1 := Lib.hid (show sWith mi (j' : Int) = some (wthB mi j') by unfold sWith; rw [if_pos (by omega)]; rfl)
        have HW2 := Lib.hid (show sWith mj (i' : Int) = some (wthB mj i') by unfold sWith; rw [if_pos (by omega)]; rfl)
        go_wp2_with fail
        refine (sHas_ok _ HHAS.out).mono ?_; rintro e w2 ⟨rfl, rfl⟩
        go_wp2_with fail
        have HCW1 := Lib.hid (fun d_ os_ => Calls.regrown_of (v := .int .u64 ((wthB mi j' : Nat) : Int)) ((sWith_ok (Go.Sort.grow (redrawn w1 d_) os_) HW1.out).mono fun _ _ h_ => ⟨h_.1, h_.2 ▸ Below.refl _ _⟩))
        have HCW2 := Lib.hid (fun d_ os_ => Calls.regrown_of (v := .int .u64 ((wthB mj i' : Nat) : Int)) ((sWith_ok (Go.Sort.grow (redrawn w1 d_) os_) HW2.out).mono fun _ _ h_ => ⟨h_.1, h_.2 ▸ Below.refl _ _⟩))
        have hi8 : ((i' : Nat) : Int) < 8 := by omega
        have hj8 : ((j' : Nat) : Int) < 8 := by omega
        have ci_r := cell_regrown ci
        have cj_r := cell_regrown cj
        refine wp_region_sched [0, 1, 2, 3, 4, 5, 6, 7, 8, 10, 12, 13, 14, 15, 16, 18, 20, 21, 24, 25] [9, 11, 17, 19] [22] [23, 26, 27] (by kernel_rfl) (by kernel_rfl) ?_
        repeat (refine wpPH_step rfl rfl (fun K hK => ?_); go_simp; refine hK _ ?_; clear hK K)
        refine wpPH_nil ?_
        repeat (refine wpQI_step rfl rfl (fun K hK => ?_); go_simp; first | (refine hK _ ?_; clear hK K) | (apply Exists.intro; refine ⟨fun _ => ?_, hK _ ?_⟩; (first | exact (HCW1.out _ _) | exact (HCW2.out _ _)); clear hK K))
        refine wpQI_nil ?_
        intro _ hw_
        obtain ⟨⟨dq, osq⟩, hw_⟩ := hw_
        subst hw_
        have hd := below_regrown w1 dq osq
        generalize Go.Sort.grow (redrawn w1 _) _ = W9 at *
        have hd9 := HD.out.trans (hd.mono HD.out.size)
        have h1 := HH.out.below hd9
        obtain ⟨m1, m2, m3, m4, m5, m6⟩ := h1.bkM
        have fi := m5 i'
        have ci9 := m3 i' (by omega)
        obtain ⟨h2, hb2⟩ := h1.bkSetM (k := i') (by omega) (wthB mi j')
        obtain ⟨k1, k2, k3, k4, k5, k6⟩ := h2.bkM
        have fj := k5 j'
        have cj2 := k3 j' (by omega)
        obtain ⟨h3, hb3⟩ := h2.bkSetM (k := j') (by omega) (wthB mj i')
        have H3 := Lib.hid h3
        have HB3 := Lib.hid ((hd9.mono hB).trans (hb2.trans hb3))
        have HN9 := Lib.hid (NC.of_below hd9)
        clear m1 m2 m3 m4 m5 m6 h1 h2 hb2 hb3 h3 k1 k2 k3 k4 k5 k6 hd hd9 ci cj cn ci_r cj_r
        repeat (refine wpPH_step rfl rfl (fun K hK => ?_); go_simp; refine hK _ ?_; clear hK K)
        refine wpPH_nil ?_
        refine wpSI_step rfl rfl (fun K hK => ?_); go_simp; refine hK _ _ ?_; clear hK K
        refine wpSI_stepV rfl rfl (fun K hK => ?_); go_simp; refine hK _ _ ?_; clear hK K
        refine wpSI_step rfl rfl (fun K hK => ?_); go_simp; refine hK _ _ ?_; clear hK K
        clear fi ci9 fj cj2 hi8 hj8
        have HN10 : Hid (NC w (World.setCell (World.setCell W9 ⟨g, i', none⟩ (.int .u64 ((wthB mi j' : Nat) : Int))) ⟨g, j', none⟩ (.int .u64 ((wthB mj i' : Nat) : Int)))) := Lib.hid ((HN9.out.trans (NC.setCell _ _ _)).trans (NC.setCell _ _ _))
        generalize hW : World.setCell (World.setCell W9 _ _) _ _ = W10 at *
        clear hW
        have h3 := H3.out
        have hsz := Nat.le_trans hB HB3.out.size
        have htb := (HTB.out.go HB3.out).1
        refine wpSI_nil ?_
        go_wp2_with fail
        have hr : ReadsI (W10.alloc (.cells #[.int .i64 (i' : Int), .int .i64 (j' : Int)] 3)) (W10.alloc (.cells #[.int .i64 (i' : Int), .int .i64 (j' : Int)] 3)).heap.size (some ⟨W10.heap.size, 0, none⟩) [(i' : Int), (j' : Int)] := lit_reads [(i' : Int), (j' : Int)] 3 W10
        have hal : Below W10.heap.size W10 (W10.alloc (.cells #[.int .i64 (i' : Int), .int .i64 (j' : Int)] 3)) := (Below.refl _ _).alloc (Nat.le_refl _) _
        have ho := HOK.out
        refine (bkDown_okN (l := [(i' : Int), (j' : Int)]) (cap := 2) (word := (⟨#[106]⟩ : ByteArray)) _ (htb.go hal) (h3.below hal) (Nat.le_trans hsz hal.size) hr (by simp) (by intro x hx; simp at hx; omega) (by decide) ho.2.1 ⟨ho.2.2.1, by have := ho.2.2.2; omega⟩).mono ?_
        rintro e W11 ⟨rfl, h4, hb4, hn4⟩
        have H4 := Lib.hid h4
        have HB4 := Lib.hid (HB3.out.trans ((hal.mono hsz).trans hb4))
        have HN4 := Lib.hid ((HN10.out.trans (NC.of_below hal)).trans hn4)
        clear h3 h4 hb4 hal hr htb hn4
        go_wp2_with fail
        go_ret
        refine ⟨ret_v rfl, ?_, HB4.out, HN4.out⟩
        show HP W11 B (its1 ++ bkI g (joinB b i' j') :: its2)
        unfold joinB bkI
        rw [Int.toNat_natCast, Int.toNat_natCast, HMI.out, HMJ.out]
        exact H4.out
  · rw [if_neg c1]
    rw [errV_pos _ c1] at HC
    go_enter Tryz.func37, Tryz.ntmps37
    go_wp2_with fail
    refine HC.out.mono ?_; rintro e w1 ⟨rfl, hd⟩
    have HD := Lib.hid hd; clear hd
    go_wp2_with fail
    go_ret
    exact ⟨ret_v (by rw [errV_pos _ c1]; rfl), HH.out.below HD.out, HD.out.mono hB, NC.of_below HD.out⟩
theorem mJoin_ok {B g : Nat} {its1 its2 : List It} {b : BkT} {i j : Int} {r : Int × BkT} (w : World) (htb : TabB B w) (h : HP w B (its1 ++ bkI g b :: its2)) (hB : B ≤ w.heap.size) (hm : mJoin b i j = some r) :
    Calls Tryz.prog 37 #[.pointer (some ⟨g, 0, none⟩), .int .i64 i, .int .i64 j] w fun e w' =>
      e = .returned (errV 91 r.1) ∧ HP w' B (its1 ++ bkI g r.2 :: its2) ∧ Below B w w' :=
  (mJoin_okN w htb h hB hm).mono fun _ _ h_ => ⟨h_.1, h_.2.1, h_.2.2.1⟩
end Go.Proofs.YtekfgkeimlidhaaGreatDoor
/- cut -/
set_option linter.all false
set_option maxRecDepth 100000
namespace Go.Proofs.YtekfgkeimlidhaaGreatDoor
open Go.RowKit Go.Shelf Pl
set_option maxHeartbeats 4000000 in
theorem mCut_okN {B g : Nat} {its1 its2 : List It} {b : BkT} {i j : Int} {r : Int × BkT} (w : World) (htb : TabB B w) (h : HP w B (its1 ++ bkI g b :: its2)) (hB : B ≤ w.heap.size) (hm : mCut b i j = some r) :
    Calls Tryz.prog 38 #[.pointer (some ⟨g, 0, none⟩), .int .i64 i, .int .i64 j] w fun e w' =>
      e = .returned (errV 91 r.1) ∧ HP w' B (its1 ++ bkI g r.2 :: its2) ∧ Below B w w' ∧ NC w w' := by
  unfold mCut at hm
  obtain ⟨hok, rfl⟩ := s_of hm
  clear hm
  have HH := Lib.hid h; clear h
  have HOK := Lib.hid hok; clear hok
  have HTB := Lib.hid htb; clear htb
  have HC := Lib.hid (bkCheck_ok w g i j)
  by_cases c1 : bkE i j = 0
  · rw [if_pos c1]
    rw [c1, errV_zero] at HC
    have hij : ((0 ≤ i ∧ i ≤ 7) ∧ (0 ≤ j ∧ j ≤ 7)) ∧ i ≠ j := by
      unfold bkE at c1
      split at c1
      · rename_i q; exact ⟨q, fun e => by rw [if_pos e] at c1; cases c1⟩
      · cases c1
    clear c1
    obtain ⟨⟨⟨i0, i7⟩, j0, j7⟩, hne⟩ := hij
    obtain ⟨i', rfl⟩ := Int.eq_ofNat_of_zero_le i0
    obtain ⟨j', rfl⟩ := Int.eq_ofNat_of_zero_le j0
    have HNE : Hid (i' ≠ j') := fun e => hne (by rw [e])
    clear i0 j0 hne
    obtain ⟨m1, m2, m3, m4, m5, m6⟩ := HH.out.bkM
    have hmi : b.1.getD i' 0 < 256 := by
      rw [List.getD_eq_getElem?_getD, List.getElem?_eq_getElem (by omega)]
      exact HOK.out.1 _ (List.getElem_mem _)
    have hmj : b.1.getD j' 0 < 256 := by
      rw [List.getD_eq_getElem?_getD, List.getElem?_eq_getElem (by omega)]
      exact HOK.out.1 _ (List.getElem_mem _)
    have ci := m3 i' (by omega)
    have cj := m3 j' (by omega)
    generalize hmi' : b.1.getD i' 0 = mi at *
    generalize hmj' : b.1.getD j' 0 = mj at *
    have HS : Hid (hasB b.1 i' j' = mi.testBit j') := by show _ = _; unfold hasB; rw [Int.toNat_natCast, hmi', Int.toNat_natCast]
    have CI := Lib.hid ci; have CJ := Lib.hid cj; have CN := Lib.hid m4
    have HMI := Lib.hid hmi'; have HMJ := Lib.hid hmj'
    have HL := Lib.hid m2; have HF := Lib.hid m5
    have HBG := Lib.hid m1
    clear ci cj m3 m4 m5 m6 hmi' hmj' m2 m1
    have hh : sHas mi (j' : Int) = some (mi.testBit j') := by unfold sHas; rw [if_pos (by omega), Int.toNat_natCast]
    have HHAS := Lib.hid hh; clear hh
    rw [HS.out]
    cases hb : mi.testBit j' with
    | false =>
      rw [if_neg (by decide)]
      rw [hb] at HHAS
      go_enter Tryz.func38, Tryz.ntmps38
      go_wp2_with fail
      refine HC.out.mono ?_; rintro e w1 ⟨rfl, hd⟩
      have ci := (hd.cell (p := ⟨g, i', none⟩) (World.block_lt_of_cell? _ _ CI.out)).trans CI.out
      have HD := Lib.hid hd; clear hd
      go_wp2_with fail
      refine (sHas_ok _ HHAS.out).mono ?_; rintro e w2 ⟨rfl, rfl⟩
      go_wp2_with fail
      go_ret
      exact ⟨ret_v rfl, HH.out.below HD.out, HD.out.mono hB, NC.of_below HD.out⟩
    | true =>
      rw [if_pos rfl]
      rw [hb] at HHAS
      by_cases c60 : b.2.2 = 60
      · rw [if_pos c60]
        have c60b : (b.2.2 == 60) = true := by simpa using c60
        go_enter Tryz.func38, Tryz.ntmps38
        go_wp2_with fail
        refine HC.out.mono ?_; rintro e w1 ⟨rfl, hd⟩
        have ci := (hd.cell (p := ⟨g, i', none⟩) (World.block_lt_of_cell? _ _ CI.out)).trans CI.out
        have cn := (hd.cell (p := ⟨g, 10, none⟩) (World.block_lt_of_cell? _ _ CN.out)).trans CN.out
        have HD := Lib.hid hd; clear hd
        go_wp2_with fail
        refine (sHas_ok _ HHAS.out).mono ?_; rintro e w2 ⟨rfl, rfl⟩
        go_wp2_with fail
        go_ret
        exact ⟨ret_v rfl, HH.out.below HD.out, HD.out.mono hB, NC.of_below HD.out⟩
      · rw [if_neg c60]
        have c60b : (b.2.2 == 60) = false := by simpa using c60
        go_enter Tryz.func38, Tryz.ntmps38
        go_wp2_with fail
        refine HC.out.mono ?_; rintro e w1 ⟨rfl, hd⟩
        have ci := (hd.cell (p := ⟨g, i', none⟩) (World.block_lt_of_cell? _ _ CI.out)).trans CI.out
        have cj := (hd.cell (p := ⟨g, j', none⟩) (World.block_lt_of_cell? _ _ CJ.out)).trans CJ.out
        have cn := (hd.cell (p := ⟨g, 10, none⟩) (World.block_lt_of_cell? _ _ CN.out)).trans CN.out
        have HD := Lib.hid hd; clear hd
        have HW1 := Lib.hid (show sWithout mi (j' : Int) = some (wtoB mi j') by unfold sWithout; rw [if_pos (by omega)]; rfl)
        have HW2 := Lib.hid (show sWithout mj (i' : Int) = some (wtoB mj i') by unfold sWithout; rw [if_pos (by omega)]; rfl)
        go_wp2_with fail
        refine (sHas_ok _ HHAS.out).mono ?_; rintro e w2 ⟨rfl, rfl⟩
        go_wp2_with fail
        have HCW1 := Lib.hid (fun d_ os_ => Calls.regrown_of (v := .int .u64 ((wtoB mi j' : Nat) : Int)) ((sWithout_ok (Go.Sort.grow (redrawn w1 d_) os_) HW1.out).mono fun _ _ h_ => ⟨h_.1, h_.2 ▸ Below.refl _ _⟩))
        have HCW2 := Lib.hid (fun d_ os_ => Calls.regrown_of (v := .int .u64 ((wtoB mj i' : Nat) : Int)) ((sWithout_ok (Go.Sort.grow (redrawn w1 d_) os_) HW2.out).mono fun _ _ h_ => ⟨h_.1, h_.2 ▸ Below.refl _ _⟩))
        have hi8 : ((i' : Nat) : Int) < 8 := by omega
        have hj8 : ((j' : Nat) : Int) < 8 := by omega
        have ci_r := cell_regrown ci
        have cj_r := cell_regrown cj
        refine wp_region_sched [0, 1, 2, 3, 4, 5, 6, 7, 8, 10, 12, 13, 14, 15, 16, 18, 20, 21, 24, 25] [9, 11, 17, 19] [22] [23, 26, 27] (by kernel_rfl) (by kernel_rfl) ?_
        repeat (refine wpPH_step rfl rfl (fun K hK => ?_); go_simp; refine hK _ ?_; clear hK K)
        refine wpPH_nil ?_
        repeat (refine wpQI_step rfl rfl (fun K hK => ?_); go_simp; first | (refine hK _ ?_; clear hK K) | (apply Exists.intro; refine ⟨fun _ => ?_, hK _ ?_⟩; (first | exact (HCW1.out _ _) | exact (HCW2.out _ _)); clear hK K))
        refine wpQI_nil ?_
        intro _ hw_
        obtain ⟨⟨dq, osq⟩, hw_⟩ := hw_
        subst hw_
        have hd := below_regrown w1 dq osq
        generalize Go.Sort.grow (redrawn w1 _) _ = W9 at *
        have hd9 := HD.out.trans (hd.mono HD.out.size)
        have h1 := HH.out.below hd9
        obtain ⟨m1, m2, m3, m4, m5, m6⟩ := h1.bkM
        have fi := m5 i'
        have ci9 := m3 i' (by omega)
        obtain ⟨h2, hb2⟩ := h1.bkSetM (k := i') (by omega) (wtoB mi j')
        obtain ⟨k1, k2, k3, k4, k5, k6⟩ := h2.bkM
        have fj := k5 j'
        have cj2 := k3 j' (by omega)
        obtain ⟨h3, hb3⟩ := h2.bkSetM (k := j') (by omega) (wtoB mj i')
        have H3 := Lib.hid h3
        have HB3 := Lib.hid ((hd9.mono hB).trans (hb2.trans hb3))
        have HN9 := Lib.hid (NC.of_below hd9)
        clear m1 m2 m3 m4 m5 m6 h1 h2 hb2 hb3 h3 k1 k2 k3 k4 k5 k6 hd hd9 ci cj cn ci_r cj_r
        repeat (refine wpPH_step rfl rfl (fun K hK => ?_); go_simp; refine hK _ ?_; clear hK K)
        refine wpPH_nil ?_
        refine wpSI_step rfl rfl (fun K hK => ?_); go_simp; refine hK _ _ ?_; clear hK K
        refine wpSI_stepV rfl rfl (fun K hK => ?_); go_simp; refine hK _ _ ?_; clear hK K
        refine wpSI_step rfl rfl (fun K hK => ?_); go_simp; refine hK _ _ ?_; clear hK K
        clear fi ci9 fj cj2 hi8 hj8
        have HN10 : Hid (NC w (World.setCell (World.setCell W9 ⟨g, i', none⟩ (.int .u64 ((wtoB mi j' : Nat) : Int))) ⟨g, j', none⟩ (.int .u64 ((wtoB mj i' : Nat) : Int)))) := Lib.hid ((HN9.out.trans (NC.setCell _ _ _)).trans (NC.setCell _ _ _))
        generalize hW : World.setCell (World.setCell W9 _ _) _ _ = W10 at *
        clear hW
        have h3 := H3.out
        have hsz := Nat.le_trans hB HB3.out.size
        have htb := (HTB.out.go HB3.out).1
        refine wpSI_nil ?_
        go_wp2_with fail
        have hr : ReadsI (W10.alloc (.cells #[.int .i64 (i' : Int), .int .i64 (j' : Int)] 3)) (W10.alloc (.cells #[.int .i64 (i' : Int), .int .i64 (j' : Int)] 3)).heap.size (some ⟨W10.heap.size, 0, none⟩) [(i' : Int), (j' : Int)] := lit_reads [(i' : Int), (j' : Int)] 3 W10
        have hal : Below W10.heap.size W10 (W10.alloc (.cells #[.int .i64 (i' : Int), .int .i64 (j' : Int)] 3)) := (Below.refl _ _).alloc (Nat.le_refl _) _
        have ho := HOK.out
        refine (bkDown_okN (l := [(i' : Int), (j' : Int)]) (cap := 2) (word := (⟨#[99]⟩ : ByteArray)) _ (htb.go hal) (h3.below hal) (Nat.le_trans hsz hal.size) hr (by simp) (by intro x hx; simp at hx; omega) (by decide) ho.2.1 ⟨ho.2.2.1, by have := ho.2.2.2; omega⟩).mono ?_
        rintro e W11 ⟨rfl, h4, hb4, hn4⟩
        have H4 := Lib.hid h4
        have HB4 := Lib.hid (HB3.out.trans ((hal.mono hsz).trans hb4))
        have HN4 := Lib.hid ((HN10.out.trans (NC.of_below hal)).trans hn4)
        clear h3 h4 hb4 hal hr htb hn4
        go_wp2_with fail
        go_ret
        refine ⟨ret_v rfl, ?_, HB4.out, HN4.out⟩
        show HP W11 B (its1 ++ bkI g (cutB b i' j') :: its2)
        unfold cutB bkI
        rw [Int.toNat_natCast, Int.toNat_natCast, HMI.out, HMJ.out]
        exact H4.out
  · rw [if_neg c1]
    rw [errV_pos _ c1] at HC
    go_enter Tryz.func38, Tryz.ntmps38
    go_wp2_with fail
    refine HC.out.mono ?_; rintro e w1 ⟨rfl, hd⟩
    have HD := Lib.hid hd; clear hd
    go_wp2_with fail
    go_ret
    exact ⟨ret_v (by rw [errV_pos _ c1]; rfl), HH.out.below HD.out, HD.out.mono hB, NC.of_below HD.out⟩
theorem mCut_ok {B g : Nat} {its1 its2 : List It} {b : BkT} {i j : Int} {r : Int × BkT} (w : World) (htb : TabB B w) (h : HP w B (its1 ++ bkI g b :: its2)) (hB : B ≤ w.heap.size) (hm : mCut b i j = some r) :
    Calls Tryz.prog 38 #[.pointer (some ⟨g, 0, none⟩), .int .i64 i, .int .i64 j] w fun e w' =>
      e = .returned (errV 91 r.1) ∧ HP w' B (its1 ++ bkI g r.2 :: its2) ∧ Below B w w' :=
  (mCut_okN w htb h hB hm).mono fun _ _ h_ => ⟨h_.1, h_.2.1, h_.2.2.1⟩
end Go.Proofs.YtekfgkeimlidhaaGreatDoor
/- new, text -/
set_option linter.all false
set_option maxRecDepth 100000
namespace Go.Proofs.YtekfgkeimlidhaaGreatDoor
open Go.RowKit Go.Shelf Pl
def newB : BkT := ([0, 0, 0, 0, 0, 0, 0, 0], (⟨#[]⟩ : ByteArray), 0)
theorem bkNew_ok (w : World) :
    Calls Tryz.prog 6 #[] w fun e w' => ∃ g, e = .returned (.pointer (some ⟨g, 0, none⟩)) ∧ HP w' w.heap.size [bkI g newB] ∧ Below w.heap.size w w' := by
  go_enter Tryz.func6, Tryz.ntmps6
  go_wp2
  go_ret
  refine ⟨_, rfl, ?_, (Below.refl _ _).alloc (Nat.le_refl _) _⟩
  refine ⟨[owBk w.heap.size (.pointer none) (.slice none 0 0) newB.1 0, owU (.slice none 0 0) newB.2.1], ⟨?_, ?_⟩, .bk _ ⟨.inl rfl, .inl rfl⟩ .nil⟩
  · intro o ho
    simp only [List.mem_cons, List.not_mem_nil, or_false] at ho
    rcases ho with rfl | rfl
    · have := own_lit (w := w) (base := w.heap.size) (n := 1) (e := 51) (bkCells (.pointer none) (.slice none 0 0) newB.1 0).toArray 11 (by rfl) (Nat.le_refl _) (by unfold maxLen; omega)
      exact this
    · exact World.ownsRowF_nil _ _ _ _
  · refine List.pairwise_cons.2 ⟨fun o ho => ?_, List.pairwise_singleton _ _⟩
    obtain rfl := List.mem_singleton.1 ho
    intro g _ h; cases h
theorem bkText_okN {B g : Nat} {its1 its2 : List It} {b : BkT} (w : World) (h : HP w B (its1 ++ bkI g b :: its2)) (hB : B ≤ w.heap.size) :
    Calls Tryz.prog 42 #[.pointer (some ⟨g, 0, none⟩)] w fun e w' => e = .returned (.string b.2.1) ∧ HP w' B (its1 ++ bkI g b :: its2) ∧ Below B w w' ∧ NC w w' := by
  go_enter Tryz.func42, Tryz.ntmps42
  go_wp2_with fail
  refine (bkString_okN w h hB).mono ?_; rintro e w' ⟨rfl, h2, hb, hn⟩
  go_wp2_with fail
  go_ret
  exact ⟨rfl, h2, hb, hn⟩
theorem bkText_ok {B g : Nat} {its1 its2 : List It} {b : BkT} (w : World) (h : HP w B (its1 ++ bkI g b :: its2)) (hB : B ≤ w.heap.size) :
    Calls Tryz.prog 42 #[.pointer (some ⟨g, 0, none⟩)] w fun e w' => e = .returned (.string b.2.1) ∧ HP w' B (its1 ++ bkI g b :: its2) ∧ Below B w w' :=
  (bkText_okN w h hB).mono fun _ _ h_ => ⟨h_.1, h_.2.1, h_.2.2.1⟩
/-- the masks, read -/
def ReadsBk (w : World) (g : Nat) (ms : List Nat) : Prop := g < w.heap.size ∧ ms.length = 8 ∧ ∀ k, k < 8 → w.cell? ⟨g, k, none⟩ = some (.int .u64 ((ms.getD k 0 : Nat) : Int))
theorem rdBk {w W : World} {g : Nat} {ms : List Nat} (hb : Below w.heap.size w W) (h : ReadsBk w g ms) : ReadsBk W g ms :=
  ⟨Nat.lt_of_lt_of_le h.1 hb.size, h.2.1, fun k hk => (hb.cell (p := ⟨g, k, none⟩) h.1).trans (h.2.2 k hk)⟩
theorem ReadsBk.ix {w : World} {g : Nat} {ms : List Nat} {i : Int} {y : Nat} (h : ReadsBk w g ms) (hy : ix ms i = some y) : 0 ≤ i ∧ i < 8 ∧ w.cell? ⟨g, i.toNat, none⟩ = some (.int .u64 ((y : Nat) : Int)) := by
  unfold Go.Proofs.YtekfgkeimlidhaaGreatDoor.ix at hy
  split at hy
  · rename_i h0
    obtain ⟨h1, h2⟩ := List.getElem?_eq_some_iff.1 hy
    have h8 := h.2.1
    refine ⟨h0, by omega, ?_⟩
    rw [h.2.2 i.toNat (by omega), List.getD_eq_getElem?_getD, hy]; rfl
  · cases hy
theorem HP.rdBk {W : World} {B g : Nat} {its1 its2 : List It} {b : BkT} (h : HP W B (its1 ++ bkI g b :: its2)) : ReadsBk W g b.1 := by
  obtain ⟨m1, m2, m3, m4, m5, m6⟩ := h.bkM
  exact ⟨World.block_lt_of_cell? _ _ m4, m2, m3⟩
theorem HP.callIt {W W' : World} {B : Nat} {its its' : List It} (h : HP W B its) (hb : Below W.heap.size W W') (hB : B ≤ W.heap.size) (ho : HP W' W.heap.size its') : HP W' B (its' ++ its) := by
  obtain ⟨L, h1, h2⟩ := h
  obtain ⟨L', h3, h4⟩ := ho
  have h1' := h1.below hb
  refine ⟨L' ++ L, ⟨fun x hx => ?_, List.pairwise_append.2 ⟨h3.2, h1.2, fun x hx y hy g hg hyg => ?_⟩⟩, Fl.join h4 h2⟩
  · rcases List.mem_append.1 hx with hx | hx
    · exact Ow.ok.weak (h3.1 x hx) hB
    · exact h1'.1 x hx
  · have a1 := (Ow.ok.lt (h3.1 x hx) g hg).1
    have a2 := (Ow.ok.lt (h1.1 y hy) g hyg).2
    omega
def bkNewM : Option BkT := some newB
theorem bkNewM_ok {y : BkT} (w : World) (h : bkNewM = some y) : Calls Tryz.prog 6 #[] w fun e w' => ∃ g, e = .returned (.pointer (some ⟨g, 0, none⟩)) ∧ HP w' w.heap.size [bkI g y] ∧ Below w.heap.size w w' := by
  obtain rfl := Option.some.inj h
  exact bkNew_ok w
def mText (b : BkT) : Option ByteArray := some b.2.1
theorem mText_ok {B g : Nat} {its1 its2 : List It} {b : BkT} {y : ByteArray} (w : World) (h : HP w B (its1 ++ bkI g b :: its2)) (hB : B ≤ w.heap.size) (hm : mText b = some y) :
    Calls Tryz.prog 42 #[.pointer (some ⟨g, 0, none⟩)] w fun e w' => e = .returned (.string y) ∧ HP w' B (its1 ++ bkI g b :: its2) ∧ Below B w w' := by
  obtain rfl := Option.some.inj hm
  exact bkText_ok w h hB
theorem mJoin_ok2 {B g : Nat} {its1 its2 : List It} {b b' : BkT} {i j e1 : Int} (w : World) (htb : TabB B w) (h : HP w B (its1 ++ bkI g b :: its2)) (hB : B ≤ w.heap.size) (hm : mJoin b i j = some (e1, b')) :
    Calls Tryz.prog 37 #[.pointer (some ⟨g, 0, none⟩), .int .i64 i, .int .i64 j] w fun e w' => e = .returned (errV 91 e1) ∧ HP w' B (its1 ++ bkI g b' :: its2) ∧ Below B w w' := mJoin_ok w htb h hB hm
theorem mCut_ok2 {B g : Nat} {its1 its2 : List It} {b b' : BkT} {i j e1 : Int} (w : World) (htb : TabB B w) (h : HP w B (its1 ++ bkI g b :: its2)) (hB : B ≤ w.heap.size) (hm : mCut b i j = some (e1, b')) :
    Calls Tryz.prog 38 #[.pointer (some ⟨g, 0, none⟩), .int .i64 i, .int .i64 j] w fun e w' => e = .returned (errV 91 e1) ∧ HP w' B (its1 ++ bkI g b' :: its2) ∧ Below B w w' := mCut_ok w htb h hB hm
end Go.Proofs.YtekfgkeimlidhaaGreatDoor
