import Derived.Test.YtecllcpjjllogaaGreatDoorOp
import Derived.Test.YtecllcpjjllogaaGreatDoorErr
import Derived.Test.YtecllcpjjllogaaGreatDoorDn
import Derived.Lib.FrozenHead2
/- desk: what an error is called; the words of a line -/
set_option linter.all false
set_option maxRecDepth 100000
namespace Go.Proofs.YtecllcpjjllogaaGreatDoor
open Go.RowKit Go.Shelf
def tld (c : Int) : ByteArray :=
  if c = 0 then ⟨#[111, 107]⟩ else if c = 1 then ⟨#[69, 114, 114, 82, 97, 110, 103, 101]⟩ else if c = 2 then ⟨#[69, 114, 114, 83, 121, 110, 116, 97, 120]⟩ else if c = 3 then ⟨#[69, 114, 114, 83, 104, 97, 112, 101]⟩
  else if c = 4 then ⟨#[69, 114, 114, 70, 117, 108, 108]⟩ else if c = 5 then ⟨#[69, 114, 114, 78, 111, 110, 101]⟩ else ⟨#[69, 114, 114, 67, 108, 97, 115, 104]⟩
theorem errno_ok (c : Int) (h : 1 ≤ c ∧ c ≤ 6) (w : World) : Calls Tryz.prog 41 #[.int .i64 c] w fun e w' => e = .returned (.string (tld c)) ∧ w = w' := by
  have hc : c = 1 ∨ c = 2 ∨ c = 3 ∨ c = 4 ∨ c = 5 ∨ c = 6 := by omega
  rcases hc with rfl | rfl | rfl | rfl | rfl | rfl
  all_goals
    go_enter Tryz.func41, Tryz.ntmps41
    go_wp2_with fail
    go_ret
    exact ⟨rfl, rfl⟩
set_option maxHeartbeats 4000000 in
theorem told_ok (c : Int) (h : 0 ≤ c ∧ c ≤ 6) (w : World) (hg : TyCell w) :
    Calls Tryz.prog 28 #[errV 75 c] w fun e w' => e = .returned (.string (tld c)) ∧ Below w.heap.size w w' := by
  by_cases h0 : c = 0
  · subst h0
    rw [errV_zero]
    have HA := Lib.hid (as_nil (.iface 77 (.pointer (some ⟨w.heap.size, 0, none⟩))) (w.alloc (.cells #[.int .i64 0] 75)))
    go_enter Tryz.func28, Tryz.ntmps28
    go_wp2_with fail
    refine HA.out.mono ?_; rintro e w' ⟨rfl, rfl⟩
    go_wp2_with fail
    go_ret
    exact ⟨rfl, (Below.refl _ _).alloc (Nat.le_refl _) _⟩
  · rw [errV_pos _ h0]
    have hgA : (w.alloc (.cells #[.int .i64 0] 75)).cell? ⟨1, 0, none⟩ = some (.iface 118 (.agg #[.pointer (some ⟨9, 38, none⟩)])) := by
      rw [World.cell?_alloc_lt _ _ ⟨1, 0, none⟩ hg.lt]; exact hg
    have HA := Lib.hid (as_hit c ⟨w.heap.size, 0, none⟩ (.int .i64 0) _ hgA (by simp) (by simp))
    have HE := Lib.hid (fun W => errno_ok c (by omega) W)
    clear hgA
    go_enter Tryz.func28, Tryz.ntmps28
    go_wp2_with fail
    refine HA.out.mono ?_; rintro e w' ⟨rfl, rfl⟩
    go_wp2_with fail
    refine (HE.out _).mono ?_; rintro e w' ⟨rfl, rfl⟩
    go_wp2_with fail
    go_ret
    exact ⟨rfl, ((((((Below.refl _ _).alloc (Nat.le_refl _) _).alloc (by simp) _).alloc (by simp; omega) _).alloc (by simp; omega) _).alloc (by simp; omega) _)⟩
/-! ### words -/
def okW (x : ByteArray) : Bool := (numM x).2 && decide (x.size ≤ 7)
def wdN : List ByteArray → List Int → Option (List Int)
  | [], l => some l
  | x :: xs, l => if okW x = true then wdN xs (l ++ [(numM x).1]) else none
theorem atoi_max (x : ByteArray) : (atoiM x).1 ≤ 9223372036854775807 := by
  unfold atoiM
  cases hq : Lib.atoiAll x.data.toList with
  | ok u => have := Lib.atoiAll_bounds hq; dsimp only; omega
  | range => have := Lib.atoiSat_bounds x.data.toList; dsimp only; omega
  | _ => dsimp only; omega
set_option maxHeartbeats 8000000 in
theorem words_ok {B : Nat} {A : Option Addr} {cap : Nat} {l : List ByteArray} (w : World) (hop : OpB B w) (hB : B ≤ w.heap.size) (hr : ReadsS w w.heap.size A l) (hl : l.length < 1000000) (hs : ∀ x ∈ l, x.size ≤ 1000000) :
    Calls Tryz.prog 24 #[.slice A l.length cap] w fun e w' => Below w.heap.size w w' ∧
      ((wdN l [] = none ∧ e = .returned (.tuple #[.slice none 0 0, .bool false])) ∨ ∃ V ns, wdN l [] = some ns ∧ e = .returned (.tuple #[V, .bool true]) ∧ Ow.ok w' w.heap.size (owI V ns)) := by
  have HOP := Lib.hid hop; have HR := Lib.hid hr; have HS := Lib.hid hs; have HB := Lib.hid hB
  clear hop hr hs hB
  go_enter Tryz.func24, Tryz.ntmps24
  go_wp2_with fail
  go_loopg [4, 11] (l.length + 1) (fun gg u4 u11 wr => ∃ (V : Value) (j : Nat) (ns : List Int), V = u4 ∧ u11 = .int .i64 (j : Int) ∧ Hid (j ≤ l.length ∧ gg = l.length + 1 - j ∧ ns.length = j) ∧ Hid (Below w.heap.size w wr) ∧ Hid (HP wr w.heap.size [.fl (owI V ns)]) ∧ Hid (OpB B wr) ∧ Hid (wdN l [] = wdN (l.drop j) ns))
  case atStart => exact ⟨_, 0, [], rfl, rfl, Lib.hid ⟨by omega, by omega, rfl⟩, Lib.hid (Below.refl _ _), Lib.hid (HP.nil.pushNil 3 1), HOP, Lib.hid rfl⟩
  case round =>
    clear HOP
    obtain ⟨V, j, ns, rfl, rfl, hj, HD, HOA, HOP, HM⟩ := hrel
    rename World => W1
    obtain ⟨hjl, hjg, hjn⟩ := hj.out
    by_cases hlt : (j : Int) < (l.length : Int)
    · have hjt : j < l.length := by omega
      have hd := List.drop_eq_getElem_cons hjt
      have hx : ix l (j : Int) = some l[j] := ix_nat hjt
      obtain ⟨b, o, rfl, _, _, _, hcell⟩ := ReadsS.ix HR.out hx
      rw [Int.toNat_natCast] at hcell
      have hcell2 : W1.cell? ⟨b, o + j, none⟩ = some (.string l[j]) := (HD.out.cell (p := ⟨b, o + j, none⟩) (World.block_lt_of_cell? _ _ hcell)).trans hcell
      have hxs := HS.out _ (List.getElem_mem hjt)
      have hm := HM.out
      rw [hd] at hm
      generalize l[j] = x at *
      have hm : wdN l [] = if okW x = true then wdN (l.drop (j + 1)) (ns ++ [(numM x).1]) else none := hm
      have HMM := Lib.hid hm
      have HC := Lib.hid (atoi_ok x W1 HOP.out (by omega))
      have hmx := atoi_max x
      have hN1 : (numM x).1 = (atoiM x).1 := rfl
      have hN2 : (numM x).2 = ((atoiM x).2 && (decide (0 ≤ (atoiM x).1) && (dec (atoiM x).1).toList == x.toList)) := rfl
      have HN2 := Lib.hid hN2
      rw [hN1] at HMM
      clear hm hd hx hcell HM hN1 hN2
      go_wp2_with fail
      refine HC.out.mono ?_; rintro e W2 ⟨hb, (⟨h2, rfl⟩ | ⟨h2, tp, N, rfl⟩)⟩
      · generalize hv : (atoiM x).1 = v at *
        replace HOA := Lib.hid (HOA.out.below hb)
        replace HOP := Lib.hid (HOP.out.go (hb.mono (Nat.le_trans HB.out HD.out.size)))
        replace HD := Lib.hid (HD.out.trans (hb.mono HD.out.size)); clear hb hcell2 HC
        have bad : okW x = false → wdN l [] = none := fun q => by rw [HMM.out, q]; rfl
        by_cases h0 : 0 ≤ v
        · have hd0 := decide_eq_false (show ¬ v < 0 by omega)
          by_cases h7 : x.size ≤ 7
          · have hd7 := decide_eq_false (show ¬ (7 : Int) < (x.size : Int) by omega)
            have HI := Lib.hid (mItoa_ok (n := v) W2 HOP.out.tab.1 (by unfold mItoa; rw [if_pos ⟨h0, hmx⟩]))
            cases heq : ((dec v).toList == x.toList)
            · have hfin := bad (by unfold okW; rw [HN2.out, heq]; simp)
              have HF := Lib.hid hfin; clear hfin bad
              have hneq : ((dec v).toList != x.toList) = true := by simp only [bne, heq]; rfl
              go_wp2_with fail
              refine HI.out.mono ?_; rintro e W3 ⟨rfl, hb2⟩
              go_wp2_with fail
              go_ret2
              exact ⟨HD.out.trans (hb2.mono HD.out.size), .inl ⟨HF.out, rfl⟩⟩
            · have hneq : ((dec v).toList != x.toList) = false := by simp only [bne, heq]; rfl
              have hgood : okW x = true := by unfold okW; rw [HN2.out, heq, h2, decide_eq_true h0, decide_eq_true h7]; rfl
              have hm := HMM.out
              rw [if_pos hgood] at hm
              have HM := Lib.hid hm; clear hm hgood bad HMM
              go_wp2_with fail
              refine HI.out.mono ?_; rintro e W3 ⟨rfl, hb2⟩
              replace HOA := Lib.hid (HOA.out.below hb2)
              replace HOP := Lib.hid (HOP.out.go (hb2.mono (Nat.le_trans HB.out HD.out.size)))
              replace HD := Lib.hid (HD.out.trans (hb2.mono HD.out.size)); clear hb2
              obtain ⟨V2, W4, hrun, hoa, hd, hn⟩ := run_appI (e' := 3) (y := v) (L1 := []) (L2 := []) W3 60 60 Tryz.underlying60 HOA.out (show ns.length < 1000000000 by omega) HD.out.size
              have HRUN := Lib.hid hrun; have HOA2 := Lib.hid hoa; have HD2 := Lib.hid hd
              clear hrun hoa hd hn
              go_wp2_with (at_builtin; refine wp_appRun HRUN.out rfl rfl rfl rfl ?_)
              go_roundg (l.length + 1 - (j + 1))
              case measure => omega
              case rel => exact ⟨V2, j + 1, ns ++ [v], rfl, by go_num, Lib.hid ⟨by omega, by omega, by rw [List.length_append, List.length_singleton]; omega⟩, Lib.hid (HD.out.trans HD2.out), HOA2, Lib.hid (HOP.out.go (HD2.out.mono HB.out)), HM⟩
          · have hd7 := decide_eq_true (show (7 : Int) < (x.size : Int) by omega)
            have hfin := bad (by unfold okW; rw [decide_eq_false h7]; simp)
            have HF := Lib.hid hfin; clear hfin bad
            go_wp2_with fail
            go_ret2
            exact ⟨HD.out, .inl ⟨HF.out, rfl⟩⟩
        · have hd0 := decide_eq_true (show v < 0 by omega)
          have hfin := bad (by unfold okW; rw [HN2.out, decide_eq_false h0]; simp)
          have HF := Lib.hid hfin; clear hfin bad
          go_wp2_with fail
          go_ret2
          exact ⟨HD.out, .inl ⟨HF.out, rfl⟩⟩
      · have hfin : wdN l [] = none := by rw [HMM.out, if_neg (by unfold okW; rw [HN2.out, h2]; simp)]
        have HF := Lib.hid hfin; clear hfin
        replace HD := Lib.hid (HD.out.trans (hb.mono HD.out.size)); clear hb hcell2 HC
        go_wp2_with fail
        go_ret2
        exact ⟨HD.out, .inl ⟨HF.out, rfl⟩⟩
    · have hje : j = l.length := by omega
      have hm := HM.out
      rw [hje, List.drop_length] at hm
      replace hm : wdN l [] = some ns := hm
      have HF := Lib.hid hm; clear hm
      have hcd := decide_eq_false hlt
      go_wp2_with fail
      go_ret2
      exact ⟨HD.out, .inr ⟨_, ns, HF.out, rfl, HOA.out.get (List.Mem.head _)⟩⟩
end Go.Proofs.YtecllcpjjllogaaGreatDoor
/- desk: a builder that stands alone -/
set_option linter.all false
set_option maxRecDepth 100000
namespace Go.Proofs.YtecllcpjjllogaaGreatDoor
open Go.RowKit Go.Shelf
section
variable {W W' : World} {B g : Nat} {its1 its2 : List It} {p V : Value} {t : ByteArray}
def owSb (g : Nat) (p V : Value) : Ow := ⟨33, 2, .slice (some ⟨g, 0, none⟩) 1 1, 1, [p, V]⟩
def sbP (g : Nat) (p V : Value) (t : ByteArray) : Prop := (p = .pointer none ∨ p = .pointer (some ⟨g, 0, none⟩)) ∧ (V = .slice none 0 0 ∨ 0 < t.size)
abbrev sbI (g : Nat) (p V : Value) (t : ByteArray) (its : List It) : List It := .fl (owSb g p V) :: .fl (owU V t) :: its
theorem sb_block (h : (owSb g p V).ok W B) : B ≤ g ∧ W.heap[g]? = some (.cells #[p, V] 33 (0, 0)) := by
  have h : W.ownsRow B 33 2 (.slice (some ⟨g, 0, none⟩) 1 1) 1 [p, V] := h
  rcases h.2 with ⟨q, _⟩ | ⟨g', cap, cur, q1, q2, q3, q4, q5, q6, q7⟩
  · cases q
  · injection q1 with qa qb qc
    injection qa with qa
    injection qa with qa
    subst qa; subst qc
    have : cur.toList = [p, V] := by rw [List.take_of_length_le (by simp [q6])] at q7; exact q7
    exact ⟨q2, by rw [q3, show cur = #[p, V] from by rw [← Array.toList_inj, this]]⟩
theorem HP.updFl {o o' : Ow} (h : HP W B (its1 ++ .fl o :: its2)) (hg : W.grownBy W' o.v.ownBlock) (hok : o'.ok W' B) (hb : o'.v.ownBlock = o.v.ownBlock ∨ ∃ k, o'.v.ownBlock = some k ∧ W.heap.size ≤ k) : HP W' B (its1 ++ .fl o' :: its2) := by
  obtain ⟨L1, L2, h1, h2⟩ := h.getAt
  exact h2 _ _ (h1.upd hg hok hb)
theorem sb_set (h : HP W B (its1 ++ .fl (owSb g p V) :: its2)) {p' V' : Value} {k : Nat} {u : Value} (e : [p, V].set k u = [p', V']) : HP (W.setCell ⟨g, k, none⟩ u) B (its1 ++ .fl (owSb g p' V') :: its2) ∧ Below B W (W.setCell ⟨g, k, none⟩ u) := by
  have hok : (owSb g p V).ok W B := h.get (by simp)
  obtain ⟨hB, hh⟩ := sb_block hok
  have hgb : W.grownBy (W.setCell ⟨g, k, none⟩ u) (owSb g p V).v.ownBlock := by
    refine ⟨rfl, rfl, rfl, by simp [World.setCell], fun j hj hne => Below.heap_setCell W ⟨g, k, none⟩ u j ?_⟩
    intro e; subst e; exact hne rfl
  refine ⟨HP.updFl h hgb ?_ (.inl rfl), (Below.refl _ _).setCell (p := ⟨g, k, none⟩) hB _⟩
  show (W.setCell ⟨g, k, none⟩ u).ownsRow B 33 2 (.slice (some ⟨g, 0, none⟩) 1 1) 1 [p', V']
  refine ⟨rfl, .inr ⟨g, 1, #[p', V'], rfl, hB, ?_, Nat.le_refl _, by unfold maxLen; omega, rfl, rfl⟩⟩
  simp only [World.setCell, Array.getElem?_modify, if_true]
  have e2 : (#[p, V] : Array Value).setIfInBounds k u = #[p', V'] := by rw [← Array.toList_inj]; simpa using e
  rw [hh]; simp only [Option.map_some]; rw [e2]; rfl
theorem liesSb : liesAt Tryz.prog Tryz.prog.depth 33 (2 / Tryz.prog.cellsOf 33) 0 33 1 = true := by kernel_rfl
set_option maxHeartbeats 1000000 in
theorem sbCC_used (w : World) (h0 : w.cell? ⟨g, 0, none⟩ = some (.pointer (some ⟨g, 0, none⟩))) :
    Calls Tryz.prog 17 #[.pointer (some ⟨g, 0, none⟩)] w fun e w' => e = .returned (.tuple #[]) ∧ w' = w := by
  obtain ⟨j, hj, _⟩ := Option.map_eq_some_iff.1 sizeBuilder
  go_enter Tryz.func17, Tryz.ntmps17
  go_wp2
  rw [Lib.run_neq_ptr_same w _ Tryz.underlying30 hj]
  go_wp2
  go_end0
  exact ⟨rfl, rfl⟩
set_option maxHeartbeats 1000000 in
theorem sbCC_fresh (w : World) (h0 : w.cell? ⟨g, 0, none⟩ = some (.pointer none)) (hsh : w.shape? g = some (33, 2)) (hfz : w.frozen? ⟨g, 0, none⟩ = false) :
    Calls Tryz.prog 17 #[.pointer (some ⟨g, 0, none⟩)] w fun e w' => e = .returned (.tuple #[]) ∧ w' = w.setCell ⟨g, 0, none⟩ (.pointer (some ⟨g, 0, none⟩)) := by
  obtain ⟨j, hj, hjs⟩ := Option.map_eq_some_iff.1 sizeBuilder
  go_enter Tryz.func17, Tryz.ntmps17
  go_wp2
  rw [Lib.run_to_unsafe w ⟨g, 0, none⟩ Tryz.underlying30 Tryz.underlying64 hj (by rw [hjs]; decide) hsh (show (0 : Nat) < 2 by decide)]
  simp only [Result.andThen]
  rw [Oper.upon_value]
  go_wp2
  rw [run_callFunc_extern Tryz.func27 (by kernel_rfl) (by kernel_rfl) (by kernel_rfl) (e := Extern.AbiNoEscape.same) (by kernel_rfl)]
  rw [Lib.run_noEscape]
  simp only [Result.andThen]
  rw [Oper.upon_value]
  go_wp2
  rw [Lib.run_from_unsafe w ⟨g, 0, none⟩ Tryz.underlying64 Tryz.underlying30 hj hsh liesSb]
  simp only [Result.andThen]
  rw [Oper.upon_value]
  go_wp2
  go_end0
  exact ⟨rfl, rfl⟩
theorem sbCC_okN (w : World) (hp : sbP g p V t) (h : HP w B (its1 ++ sbI g p V t its2)) :
    Calls Tryz.prog 17 #[.pointer (some ⟨g, 0, none⟩)] w fun e w' => e = .returned (.tuple #[]) ∧ HP w' B (its1 ++ sbI g (.pointer (some ⟨g, 0, none⟩)) V t its2) ∧ Below B w w' ∧ NC w w' := by
  have hok : (owSb g p V).ok w B := h.get (by simp)
  obtain ⟨hB, hh⟩ := sb_block hok
  rcases hp.1 with rfl | rfl
  · refine (sbCC_fresh w (by rw [Lib.cell_of_heap hh]; rfl) (by simp [World.shape?, hh]) (Lib.frozen_of_heap hh 0)).mono ?_
    rintro e w' ⟨rfl, rfl⟩
    obtain ⟨h1, h2⟩ := sb_set (p' := .pointer (some ⟨g, 0, none⟩)) (V' := V) (k := 0) (u := .pointer (some ⟨g, 0, none⟩)) h rfl
    exact ⟨rfl, h1, h2, NC.setCell _ _ _⟩
  · refine (sbCC_used w (by rw [Lib.cell_of_heap hh]; rfl)).mono ?_
    rintro e w' ⟨rfl, rfl⟩
    exact ⟨rfl, h, Below.refl _ _, NC.refl _⟩
/-- the buffer, grown, is put back -/
theorem sb_put {w1 w2 : World} {s : ByteArray} {V' : Value} (hB : B ≤ w1.heap.size) (hp : sbP g p V t) (h : HP w1 B (its1 ++ sbI g p V t its2)) (r2 : w2.ownsRowF B 5 1 V' (t.size + s.size) (Lib.strCells t ++ Lib.strCells s)) (r3 : w1.grownBy w2 V.ownBlock)
    (r4 : V' = .slice none 0 0 ↔ V = .slice none 0 0 ∧ s.size = 0) (r5 : V'.ownBlock = V.ownBlock ∨ ∃ k, V'.ownBlock = some k ∧ w1.heap.size ≤ k) :
    (w2.cell? ⟨g, 1, none⟩ = some V ∧ w2.frozen? ⟨g, 1, none⟩ = false) ∧ sbP g p V' (t ++ s) ∧ HP (w2.setCell ⟨g, 1, none⟩ V') B (its1 ++ sbI g p V' (t ++ s) its2) ∧ Below B w1 (w2.setCell ⟨g, 1, none⟩ V') ∧ NC w1 (w2.setCell ⟨g, 1, none⟩ V') := by
  have hokU : w1.ownsRowF B 5 1 V t.size (Lib.strCells t) := h.get (o := owU V t) (by simp)
  have h2 : HP w2 B ((its1 ++ [.fl (owSb g p V)]) ++ .fl (owU V' (t ++ s)) :: its2) := HP.updFl (o := owU V t) (by simpa using h) r3 (by
    show w2.ownsRowF B 5 1 V' (t ++ s).size (Lib.strCells (t ++ s))
    rw [ByteArray.size_append, strCells_app]; exact r2) r5
  have h2' : HP w2 B (its1 ++ .fl (owSb g p V) :: (.fl (owU V' (t ++ s)) :: its2)) := by simpa using h2
  have hok2 : (owSb g p V).ok w2 B := h2'.get (by simp)
  obtain ⟨_, hh⟩ := sb_block hok2
  obtain ⟨h3, h4⟩ := sb_set (p' := p) (V' := V') (k := 1) (u := V') h2' rfl
  refine ⟨⟨by rw [Lib.cell_of_heap hh]; rfl, Lib.frozen_of_heap hh 1⟩, ⟨hp.1, ?_⟩, h3, ((Below.refl _ _).grown r3 hB (fun k hk => (hokU.lt k hk).1)).trans h4, (NC.grown r3 (fun k hk => ?_)).trans (NC.setCell _ _ _)⟩
  · rcases Nat.eq_zero_or_pos (t ++ s).size with h0 | h0
    · rw [ByteArray.size_append] at h0
      rcases hp.2 with e | e
      · exact .inl (r4.2 ⟨e, by omega⟩)
      · omega
    · exact .inr h0
  · rcases hokU.2 with ⟨hv, _⟩ | ⟨g', cap, cur, fz, hv, _, hg, _⟩
    · rw [hv] at hk; cases hk
    · rw [hv] at hk; cases hk; exact ⟨_, _, _, hg⟩
set_option maxHeartbeats 2000000 in
theorem sbWrite_okN (w : World) (hp : sbP g p V t) (h : HP w B (its1 ++ sbI g p V t its2)) (s : ByteArray) (hlen : t.size + s.size < 1000000000) (hB : B ≤ w.heap.size) :
    Calls Tryz.prog 10 #[.pointer (some ⟨g, 0, none⟩), .string s] w fun e w' => e = .returned (.tuple #[.int .i64 s.size, .nilIface]) ∧ ∃ p' V', sbP g p' V' (t ++ s) ∧ HP w' B (its1 ++ sbI g p' V' (t ++ s) its2) ∧ Below B w w' ∧ NC w w' := by
  go_enter Tryz.func10, Tryz.ntmps10
  go_wp2_with fail
  refine (sbCC_okN _ hp h).mono ?_; rintro e w1 ⟨rfl, h1, hb1, hn1⟩
  have hp1 : sbP g (.pointer (some ⟨g, 0, none⟩)) V t := ⟨.inr rfl, hp.2⟩
  have hB1 := Nat.le_trans hB hb1.size
  have hokU : w1.ownsRowF B 5 1 V t.size (Lib.strCells t) := h1.get (o := owU V t) (by simp)
  have hok1 : (owSb g (.pointer (some ⟨g, 0, none⟩)) V).ok w1 B := h1.get (by simp)
  obtain ⟨_, hh1⟩ := sb_block hok1
  have c9 : w1.cell? ⟨g, 1, none⟩ = some V := by rw [Lib.cell_of_heap hh1]; rfl
  obtain ⟨V', w2, r1, r2, r3, r4, r5⟩ := run_appU w1 hokU s 31 hlen hB1
  obtain ⟨⟨d9, f9⟩, hp2, hfin, hbel, hnc⟩ := sb_put hB1 hp1 h1 r2 r3 r4 r5
  obtain ⟨ao, n', cap, rfl⟩ : ∃ ao n' cap, V' = .slice ao n' cap := by
    rcases r2.2 with ⟨hv, _⟩ | ⟨g, cap, cur, fz, hv, _⟩
    · exact ⟨_, _, _, hv⟩
    · exact ⟨_, _, _, hv⟩
  have HFIN := Lib.hid hfin; have HBEL := Lib.hid (hb1.trans hbel); have HNC := Lib.hid (hn1.trans hnc); have HP2 := Lib.hid hp2
  clear hfin hbel hnc hp2 hh1 hok1 hokU r2 r3 r4 r5 hp1
  go_wp2_with (at_builtin; refine wp_appRunU r1 rfl rfl rfl rfl ?_)
  go_ret2
  exact ⟨rfl, _, _, HP2.out, HFIN.out, HBEL.out, HNC.out⟩
theorem run_appU1 (W : World) {B : Nat} {V : Value} {t : ByteArray} (hown : W.ownsRowF B 5 1 V t.size (Lib.strCells t)) (c : UInt8) (ot : TypeId) (hlen : t.size + 1 < 1000000000) (hB : B ≤ W.heap.size) :
    ∃ v' w', (Builtin.append_ #[31, 31] ot #[V, .slice (some ⟨W.heap.size, 0, none⟩) 1 1]).run Tryz.prog (W.alloc (.cells #[.int .u8 (c.toNat : Int)] 5)) = .ok v' w' ∧ w'.ownsRowF B 5 1 v' (t.size + (⟨#[c]⟩ : ByteArray).size) (Lib.strCells t ++ Lib.strCells ⟨#[c]⟩) ∧ W.grownBy w' V.ownBlock ∧
      (v' = .slice none 0 0 ↔ V = .slice none 0 0 ∧ (⟨#[c]⟩ : ByteArray).size = 0) ∧ (v'.ownBlock = V.ownBlock ∨ ∃ k, v'.ownBlock = some k ∧ W.heap.size ≤ k) := by
  obtain ⟨i0, hi, hz0, hz1, hz2⟩ := info_parts (show (Tryz.prog.info? 5).map (fun i => (i.zero, i.size, i.bytes)) = some (some (.int .u8 0), 1, 1) by kernel_rfl)
  have hsz : (W.alloc (.cells #[.int .u8 (c.toNat : Int)] 5)).heap.size = W.heap.size + 1 := by simp
  have hnews : ∀ j u, [Value.int .u8 (c.toNat : Int)][j]? = some u → (W.alloc (.cells #[.int .u8 (c.toNat : Int)] 5)).cell? ((⟨W.heap.size, 0, none⟩ : Addr).add j) = some u := by
    intro j u hu
    have e1 : ((⟨W.heap.size, 0, none⟩ : Addr).add j) = ⟨W.heap.size, j, none⟩ := by unfold Addr.add; split <;> simp_all
    rw [e1, cell_of_row _ _ _ _ _ _ (heap_alloc_new W _)]
    simpa using hu
  have hone : ∀ u ∈ [Value.int .u8 (c.toNat : Int)], u.oneCell' = true := by intro u hu; rw [List.mem_singleton.1 hu]; rfl
  have hal : W.grownBy (W.alloc (.cells #[.int .u8 (c.toNat : Int)] 5)) none := ⟨rfl, rfl, rfl, by simp, fun k hk _ => Below.heap_alloc W _ k hk⟩
  have hown1 : (W.alloc (.cells #[.int .u8 (c.toNat : Int)] 5)).ownsRowF B 5 1 V t.size (Lib.strCells t) := by
    refine World.ownsRowF.kept hown hal ?_
    cases V.ownBlock <;> simp
  obtain ⟨v', w', h1, h2, h3, h4⟩ := run_append_ownF (P := Tryz.prog) (W.alloc (.cells #[.int .u8 (c.toNat : Int)] 5)) B 31 ot 5 i0 (.int .u8 0) 1 1 Tryz.underlying31 hi hz0 hz1 hz2 rfl (by omega) V t.size (Lib.strCells t) hown1 ⟨W.heap.size, 0, none⟩ 1 1 [.int .u8 (c.toNat : Int)] rfl hnews hone (by unfold maxLen; omega) (by omega) (by omega)
  refine ⟨v', w', h1, h2, ⟨h3.os, h3.tape, h3.output, Nat.le_trans (by simp) h3.size, fun k hk hne => (h3.block k (by simp; omega) hne).trans (Below.heap_alloc W _ k hk)⟩, h4, ?_⟩
  rcases hown1.2 with ⟨rfl, _⟩ | ⟨k, cap, cur, fz, rfl, hbg, hg, hfz, hnc, hcm, hcs, htake⟩
  · obtain ⟨v2, w2, q1, q2, q3, q4⟩ := run_append_ownF (P := Tryz.prog) (W.alloc (.cells #[.int .u8 (c.toNat : Int)] 5)) (W.heap.size + 1) 31 ot 5 i0 (.int .u8 0) 1 1 Tryz.underlying31 hi hz0 hz1 hz2 rfl (by omega) (.slice none 0 0) 0 [] (World.ownsRowF_nil _ _ _ _) ⟨W.heap.size, 0, none⟩ 1 1 [.int .u8 (c.toNat : Int)] rfl hnews hone (by unfold maxLen; omega) (by omega) (by omega)
    rw [q1] at h1
    injection h1 with h1 _
    subst h1
    cases hb : v2.ownBlock with
    | none => exact .inl rfl
    | some k => exact .inr ⟨k, rfl, by have := (q2.lt k hb).1; omega⟩
  · by_cases hroom : t.size + 1 ≤ cap
    · have hcs' : cur.size = cap := by simpa using hcs
      have hr := run_append_roomF (P := Tryz.prog) (W.alloc (.cells #[.int .u8 (c.toNat : Int)] 5)) 31 ot 5 i0 Tryz.underlying31 hi k t.size cap cur fz hg (by rw [hz1]; simpa using hfz) ⟨W.heap.size, 0, none⟩ 1 1 [.int .u8 (c.toNat : Int)] (by rw [hz1]; rfl) hnews hone hroom (by rw [hz1]; simp; omega)
      rw [hr] at h1
      injection h1 with h1 _
      subst h1; exact .inl rfl
    · have holds : ∀ j u, (Lib.strCells t)[j]? = some u → (W.alloc (.cells #[.int .u8 (c.toNat : Int)] 5)).cell? ((⟨k, 0, none⟩ : Addr).add j) = some u := hown1.cells (g := k) rfl
      have hr := run_append_grow (P := Tryz.prog) (W.alloc (.cells #[.int .u8 (c.toNat : Int)] 5)) 31 ot 5 i0 (.int .u8 0) Tryz.underlying31 hi hz0 ⟨k, 0, none⟩ t.size cap (Lib.strCells t) (by rw [hz1]; simpa using hown1.1) holds ⟨W.heap.size, 0, none⟩ 1 1 [.int .u8 (c.toNat : Int)] (by rw [hz1]; rfl) hnews (by omega) (by omega) (by rw [hz2]; exact growslice_fits (by omega) (by omega))
      rw [hr] at h1
      injection h1 with h1 _
      subst h1; exact .inr ⟨_, rfl, by simp⟩
set_option maxHeartbeats 2000000 in
theorem sbByte_okN (w : World) (hp : sbP g p V t) (h : HP w B (its1 ++ sbI g p V t its2)) (c : UInt8) (hlen : t.size + 1 < 1000000000) (hB : B ≤ w.heap.size) :
    Calls Tryz.prog 13 #[.pointer (some ⟨g, 0, none⟩), .int .u8 (c.toNat : Int)] w fun e w' => e = .returned .nilIface ∧ ∃ p' V', sbP g p' V' (t ++ ⟨#[c]⟩) ∧ HP w' B (its1 ++ sbI g p' V' (t ++ ⟨#[c]⟩) its2) ∧ Below B w w' ∧ NC w w' := by
  go_enter Tryz.func13, Tryz.ntmps13
  go_wp2_with fail
  refine (sbCC_okN _ hp h).mono ?_; rintro e w1 ⟨rfl, h1, hb1, hn1⟩
  have hp1 : sbP g (.pointer (some ⟨g, 0, none⟩)) V t := ⟨.inr rfl, hp.2⟩
  have hB1 := Nat.le_trans hB hb1.size
  have hokU : w1.ownsRowF B 5 1 V t.size (Lib.strCells t) := h1.get (o := owU V t) (by simp)
  have hok1 : (owSb g (.pointer (some ⟨g, 0, none⟩)) V).ok w1 B := h1.get (by simp)
  obtain ⟨_, hh1⟩ := sb_block hok1
  have c9 : w1.cell? ⟨g, 1, none⟩ = some V := by rw [Lib.cell_of_heap hh1]; rfl
  obtain ⟨V', w2, r1, r2, r3, r4, r5⟩ := run_appU1 w1 hokU c 31 hlen hB1
  obtain ⟨⟨d9, f9⟩, hp2, hfin, hbel, hnc⟩ := sb_put hB1 hp1 h1 r2 r3 r4 r5
  obtain ⟨ao, n', cap, rfl⟩ : ∃ ao n' cap, V' = .slice ao n' cap := by
    rcases r2.2 with ⟨hv, _⟩ | ⟨g, cap, cur, fz, hv, _⟩
    · exact ⟨_, _, _, hv⟩
    · exact ⟨_, _, _, hv⟩
  have HFIN := Lib.hid hfin; have HBEL := Lib.hid (hb1.trans hbel); have HNC := Lib.hid (hn1.trans hnc); have HP2 := Lib.hid hp2; have R1 := Lib.hid r1
  clear hfin hbel hnc hp2 hh1 hok1 hokU r1 r2 r3 r4 r5 hp1
  go_wp2_with (at_builtin; refine wp_appRun R1.out rfl rfl rfl rfl ?_)
  go_ret
  exact ⟨rfl, _, _, HP2.out, HFIN.out, HBEL.out, HNC.out⟩
theorem sbFroze {w : World} {g' cap : Nat} (h : HP w B (its1 ++ .fl (owU (.slice (some ⟨g', 0, none⟩) t.size cap) t) :: its2)) : HP (w.freeze ⟨g', 0, none⟩ t.size) B (its1 ++ .fl (owU (.slice (some ⟨g', 0, none⟩) t.size cap) t) :: its2) ∧ Below B w (w.freeze ⟨g', 0, none⟩ t.size) := by
  obtain ⟨L1, L2, h1, h2⟩ := h.getAt
  obtain ⟨q1, q2⟩ := bkFroze w h1
  exact ⟨h2 _ _ q1, q2⟩
set_option maxHeartbeats 2000000 in
theorem sbString_ok (w : World) (hp : sbP g p V t) (h : HP w B (its1 ++ sbI g p V t its2)) (hB : B ≤ w.heap.size) :
    Calls Tryz.prog 14 #[.pointer (some ⟨g, 0, none⟩)] w fun e w' => e = .returned (.string t) ∧ Below B w w' ∧ NC w w' := by
  have hok : (owSb g p V).ok w B := h.get (by simp)
  have hokU : w.ownsRowF B 5 1 V t.size (Lib.strCells t) := h.get (o := owU V t) (by simp)
  obtain ⟨_, hh⟩ := sb_block hok
  have c9 : w.cell? ⟨g, 1, none⟩ = some V := by rw [Lib.cell_of_heap hh]; rfl
  rcases hokU.2 with ⟨rfl, h0⟩ | ⟨g', cap, cur, fz, rfl, hbg, hg, hfz, hnc, hcm, hcs, htake⟩
  · have ht : t = .empty := by cases t; rename_i d; simp [ByteArray.size] at h0; subst h0; rfl
    have c1 : w.drew.cell? ⟨g, 1, none⟩ = some (.slice none 0 0) := c9
    have hUS : (Builtin.unsafeString_ #[63, 3] 9 #[.pointer none, .int .i64 0]).run Tryz.prog w.drew = .ok (.string .empty) w.drew := Lib.run_unsafeString_none _ _ _ _ _
    have hSD : (Builtin.unsafeSliceData_ #[31] 63 #[.slice none 0 0]).run Tryz.prog w.drew = .ok (.pointer none) w.drew := rfl
    go_enter Tryz.func14, Tryz.ntmps14
    go_wp2
    go_region
    all_goals (go_wp2; go_ret; exact ⟨by rw [ht]; rfl, Below.drew (Below.refl B w), NC.drew w⟩)
  · have h0 : 0 < t.size := hp.2.resolve_left (fun e => by cases e)
    have hl : t.data.toList ≠ [] := by
      intro e
      have : t.data.toList.length = t.size := by rw [Array.length_toList]; rfl
      rw [e] at this; simp at this; omega
    have hll : t.data.toList.length = t.size := by rw [Array.length_toList]; rfl
    have c1 : w.drew.cell? ⟨g, 1, none⟩ = some (.slice (some ⟨g', 0, none⟩) t.size cap) := c9
    have hSD : (Builtin.unsafeSliceData_ #[31] 63 #[.slice (some ⟨g', 0, none⟩) t.size cap]).run Tryz.prog w.drew = .ok (.pointer (some ⟨g', 0, none⟩)) w.drew :=
      Lib.run_unsafeSliceData_row _ _ _ _ _ _ (by omega)
    have hUS : (Builtin.unsafeString_ #[63, 3] 9 #[.pointer (some ⟨g', 0, none⟩), .int .i64 (t.size : Int)]).run Tryz.prog w.drew = .ok (.string t) (w.drew.freeze ⟨g', 0, none⟩ t.size) := by
      have := Lib.run_unsafeString_row (P := Tryz.prog) w.drew 63 3 9 5 Tryz.underlying63 (by kernel_rfl) g' cur.size (by have hg' : w.drew.heap[g']? = some (.cells cur 5 fz) := hg; simp [World.shape?, hg']) t.data.toList hl (by omega) (by unfold maxLen at hcm; omega) (fun j x hx => by
        have := hokU.cells (g := g') rfl j (.int .u8 x.toNat) (by rw [byteCells_str]; simp [Lib.byteCells, hx])
        exact this)
      rw [hll] at this
      exact this
    have hd1 : HP w.drew B ((its1 ++ [.fl (owSb g p (.slice (some ⟨g', 0, none⟩) t.size cap))]) ++ .fl (owU (.slice (some ⟨g', 0, none⟩) t.size cap) t) :: its2) := by simpa using h.dr (Dr.one w)
    have hbel : Below B w (w.drew.freeze ⟨g', 0, none⟩ t.size) := (Below.drew (Below.refl B w)).trans (sbFroze hd1).2
    clear hd1
    go_enter Tryz.func14, Tryz.ntmps14
    go_wp2
    go_region
    all_goals (go_wp2; go_ret; exact ⟨rfl, hbel, (NC.drew w).trans (NC.freeze _ _ _)⟩)
end
end Go.Proofs.YtecllcpjjllogaaGreatDoor
