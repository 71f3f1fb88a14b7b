import Derived.Test.YtekfgkeimlidhaaGreatDoorOp
import Derived.Test.YtekfgkeimlidhaaGreatDoorErr
import Derived.Test.YtekfgkeimlidhaaGreatDoorDn
import Derived.Lib.FrozenHead2
import Derived.Test.YtekfgkeimlidhaaGreatDoorBF
import Derived.Test.YtekfgkeimlidhaaGreatDoorPhI
import Derived.MapKept
import Derived.Laws.EntriesVeiled
/- desk: what an error is called; the words of a line -/
set_option linter.all false
set_option maxRecDepth 100000
namespace Go.Proofs.YtekfgkeimlidhaaGreatDoor
open Go.RowKit Go.Shelf
def tld (c : Int) : ByteArray :=
  if c = 0 then ⟨#[111, 107]⟩ else if c = 1 then ⟨#[69, 114, 114, 82, 97, 110, 103, 101]⟩ else if c = 2 then ⟨#[69, 114, 114, 83, 121, 110, 116, 97, 120]⟩ else if c = 3 then ⟨#[69, 114, 114, 83, 104, 97, 112, 101]⟩
  else if c = 4 then ⟨#[69, 114, 114, 70, 117, 108, 108]⟩ else if c = 5 then ⟨#[69, 114, 114, 78, 111, 110, 101]⟩ else ⟨#[69, 114, 114, 67, 108, 97, 115, 104]⟩
theorem errno_ok (c : Int) (h : 1 ≤ c ∧ c ≤ 6) (w : World) : Calls Tryz.prog 50 #[.int .i64 c] w fun e w' => e = .returned (.string (tld c)) ∧ w = w' := by
  have hc : c = 1 ∨ c = 2 ∨ c = 3 ∨ c = 4 ∨ c = 5 ∨ c = 6 := by omega
  rcases hc with rfl | rfl | rfl | rfl | rfl | rfl
  all_goals
    go_enter Tryz.func50, Tryz.ntmps50
    go_wp2_with fail
    go_ret
    exact ⟨rfl, rfl⟩
set_option maxHeartbeats 4000000 in
theorem told_ok (c : Int) (h : 0 ≤ c ∧ c ≤ 6) (w : World) (hg : TyCell w) :
    Calls Tryz.prog 36 #[errV 91 c] w fun e w' => e = .returned (.string (tld c)) ∧ Below w.heap.size w w' := by
  by_cases h0 : c = 0
  · subst h0
    rw [errV_zero]
    have HA := Lib.hid (as_nil (.iface 97 (.pointer (some ⟨w.heap.size, 0, none⟩))) (w.alloc (.cells #[.int .i64 0] 91)))
    go_enter Tryz.func36, Tryz.ntmps36
    go_wp2_with fail
    refine HA.out.mono ?_; rintro e w' ⟨rfl, rfl⟩
    go_wp2_with fail
    go_ret
    exact ⟨rfl, (Below.refl _ _).alloc (Nat.le_refl _) _⟩
  · rw [errV_pos _ h0]
    have hgA : (w.alloc (.cells #[.int .i64 0] 91)).cell? ⟨1, 0, none⟩ = some (.iface 134 (.agg #[.pointer (some ⟨9, 36, none⟩)])) := by
      rw [World.cell?_alloc_lt _ _ ⟨1, 0, none⟩ hg.lt]; exact hg
    have HA := Lib.hid (as_hit c ⟨w.heap.size, 0, none⟩ (.int .i64 0) _ hgA (by simp) (by simp))
    have HE := Lib.hid (fun W => errno_ok c (by omega) W)
    clear hgA
    go_enter Tryz.func36, Tryz.ntmps36
    go_wp2_with fail
    refine HA.out.mono ?_; rintro e w' ⟨rfl, rfl⟩
    go_wp2_with fail
    refine (HE.out _).mono ?_; rintro e w' ⟨rfl, rfl⟩
    go_wp2_with fail
    go_ret
    exact ⟨rfl, ((((((Below.refl _ _).alloc (Nat.le_refl _) _).alloc (by simp) _).alloc (by simp; omega) _).alloc (by simp; omega) _).alloc (by simp; omega) _)⟩
/-! ### words -/
def okW (x : ByteArray) : Bool := (numM x).2 && decide (x.size ≤ 7)
def wdN : List ByteArray → List Int → Option (List Int)
  | [], l => some l
  | x :: xs, l => if okW x = true then wdN xs (l ++ [(numM x).1]) else none
theorem atoi_max (x : ByteArray) : (atoiM x).1 ≤ 9223372036854775807 := by
  unfold atoiM
  cases hq : Lib.atoiAll x.data.toList with
  | ok u => have := Lib.atoiAll_bounds hq; dsimp only; omega
  | range => have := Lib.atoiSat_bounds x.data.toList; dsimp only; omega
  | _ => dsimp only; omega
set_option maxHeartbeats 8000000 in
theorem words_ok {B : Nat} {A : Option Addr} {cap : Nat} {l : List ByteArray} (w : World) (hop : OpB B w) (hB : B ≤ w.heap.size) (hr : ReadsS w w.heap.size A l) (hl : l.length < 1000000) (hs : ∀ x ∈ l, x.size ≤ 1000000) :
    Calls Tryz.prog 23 #[.slice A l.length cap] w fun e w' => Below w.heap.size w w' ∧
      ((wdN l [] = none ∧ e = .returned (.tuple #[.slice none 0 0, .bool false])) ∨ ∃ V ns, wdN l [] = some ns ∧ e = .returned (.tuple #[V, .bool true]) ∧ Ow.ok w' w.heap.size (owI V ns)) := by
  have HOP := Lib.hid hop; have HR := Lib.hid hr; have HS := Lib.hid hs; have HB := Lib.hid hB
  clear hop hr hs hB
  go_enter Tryz.func23, Tryz.ntmps23
  go_wp2_with fail
  go_loopg [4, 11] (l.length + 1) (fun gg u4 u11 wr => ∃ (V : Value) (j : Nat) (ns : List Int), V = u4 ∧ u11 = .int .i64 (j : Int) ∧ Hid (j ≤ l.length ∧ gg = l.length + 1 - j ∧ ns.length = j) ∧ Hid (Below w.heap.size w wr) ∧ Hid (HP wr w.heap.size [.fl (owI V ns)]) ∧ Hid (OpB B wr) ∧ Hid (wdN l [] = wdN (l.drop j) ns))
  case atStart => exact ⟨_, 0, [], rfl, rfl, Lib.hid ⟨by omega, by omega, rfl⟩, Lib.hid (Below.refl _ _), Lib.hid (HP.nil.pushNil 3 1), HOP, Lib.hid rfl⟩
  case round =>
    clear HOP
    obtain ⟨V, j, ns, rfl, rfl, hj, HD, HOA, HOP, HM⟩ := hrel
    rename World => W1
    obtain ⟨hjl, hjg, hjn⟩ := hj.out
    by_cases hlt : (j : Int) < (l.length : Int)
    · have hjt : j < l.length := by omega
      have hd := List.drop_eq_getElem_cons hjt
      have hx : ix l (j : Int) = some l[j] := ix_nat hjt
      obtain ⟨b, o, rfl, _, _, _, hcell⟩ := ReadsS.ix HR.out hx
      rw [Int.toNat_natCast] at hcell
      have hcell2 : W1.cell? ⟨b, o + j, none⟩ = some (.string l[j]) := (HD.out.cell (p := ⟨b, o + j, none⟩) (World.block_lt_of_cell? _ _ hcell)).trans hcell
      have hxs := HS.out _ (List.getElem_mem hjt)
      have hm := HM.out
      rw [hd] at hm
      generalize l[j] = x at *
      have hm : wdN l [] = if okW x = true then wdN (l.drop (j + 1)) (ns ++ [(numM x).1]) else none := hm
      have HMM := Lib.hid hm
      have HC := Lib.hid (atoi_ok x W1 HOP.out (by omega))
      have hmx := atoi_max x
      have hN1 : (numM x).1 = (atoiM x).1 := rfl
      have hN2 : (numM x).2 = ((atoiM x).2 && (decide (0 ≤ (atoiM x).1) && (dec (atoiM x).1).toList == x.toList)) := rfl
      have HN2 := Lib.hid hN2
      rw [hN1] at HMM
      clear hm hd hx hcell HM hN1 hN2
      go_wp2_with fail
      refine HC.out.mono ?_; rintro e W2 ⟨hb, (⟨h2, rfl⟩ | ⟨h2, tp, N, rfl⟩)⟩
      · generalize hv : (atoiM x).1 = v at *
        replace HOA := Lib.hid (HOA.out.below hb)
        replace HOP := Lib.hid (HOP.out.go (hb.mono (Nat.le_trans HB.out HD.out.size)))
        replace HD := Lib.hid (HD.out.trans (hb.mono HD.out.size)); clear hb hcell2 HC
        have bad : okW x = false → wdN l [] = none := fun q => by rw [HMM.out, q]; rfl
        by_cases h0 : 0 ≤ v
        · have hd0 := decide_eq_false (show ¬ v < 0 by omega)
          by_cases h7 : x.size ≤ 7
          · have hd7 := decide_eq_false (show ¬ (7 : Int) < (x.size : Int) by omega)
            have HI := Lib.hid (mItoa_ok (n := v) W2 HOP.out.tab.1 (by unfold mItoa; rw [if_pos ⟨h0, hmx⟩]))
            cases heq : ((dec v).toList == x.toList)
            · have hfin := bad (by unfold okW; rw [HN2.out, heq]; simp)
              have HF := Lib.hid hfin; clear hfin bad
              have hneq : ((dec v).toList != x.toList) = true := by simp only [bne, heq]; rfl
              go_wp2_with fail
              refine HI.out.mono ?_; rintro e W3 ⟨rfl, hb2⟩
              go_wp2_with fail
              go_ret2
              exact ⟨HD.out.trans (hb2.mono HD.out.size), .inl ⟨HF.out, rfl⟩⟩
            · have hneq : ((dec v).toList != x.toList) = false := by simp only [bne, heq]; rfl
              have hgood : okW x = true := by unfold okW; rw [HN2.out, heq, h2, decide_eq_true h0, decide_eq_true h7]; rfl
              have hm := HMM.out
              rw [if_pos hgood] at hm
              have HM := Lib.hid hm; clear hm hgood bad HMM
              go_wp2_with fail
              refine HI.out.mono ?_; rintro e W3 ⟨rfl, hb2⟩
              replace HOA := Lib.hid (HOA.out.below hb2)
              replace HOP := Lib.hid (HOP.out.go (hb2.mono (Nat.le_trans HB.out HD.out.size)))
              replace HD := Lib.hid (HD.out.trans (hb2.mono HD.out.size)); clear hb2
              obtain ⟨V2, W4, hrun, hoa, hd, hn⟩ := run_appI (e' := 3) (y := v) (L1 := []) (L2 := []) W3 62 62 Tryz.underlying62 HOA.out (show ns.length < 1000000000 by omega) HD.out.size
              have HRUN := Lib.hid hrun; have HOA2 := Lib.hid hoa; have HD2 := Lib.hid hd
              clear hrun hoa hd hn
              go_wp2_with (at_builtin; refine wp_appRun HRUN.out rfl rfl rfl rfl ?_)
              go_roundg (l.length + 1 - (j + 1))
              case measure => omega
              case rel => exact ⟨V2, j + 1, ns ++ [v], rfl, by go_num, Lib.hid ⟨by omega, by omega, by rw [List.length_append, List.length_singleton]; omega⟩, Lib.hid (HD.out.trans HD2.out), HOA2, Lib.hid (HOP.out.go (HD2.out.mono HB.out)), HM⟩
          · have hd7 := decide_eq_true (show (7 : Int) < (x.size : Int) by omega)
            have hfin := bad (by unfold okW; rw [decide_eq_false h7]; simp)
            have HF := Lib.hid hfin; clear hfin bad
            go_wp2_with fail
            go_ret2
            exact ⟨HD.out, .inl ⟨HF.out, rfl⟩⟩
        · have hd0 := decide_eq_true (show v < 0 by omega)
          have hfin := bad (by unfold okW; rw [HN2.out, decide_eq_false h0]; simp)
          have HF := Lib.hid hfin; clear hfin bad
          go_wp2_with fail
          go_ret2
          exact ⟨HD.out, .inl ⟨HF.out, rfl⟩⟩
      · have hfin : wdN l [] = none := by rw [HMM.out, if_neg (by unfold okW; rw [HN2.out, h2]; simp)]
        have HF := Lib.hid hfin; clear hfin
        replace HD := Lib.hid (HD.out.trans (hb.mono HD.out.size)); clear hb hcell2 HC
        go_wp2_with fail
        go_ret2
        exact ⟨HD.out, .inl ⟨HF.out, rfl⟩⟩
    · have hje : j = l.length := by omega
      have hm := HM.out
      rw [hje, List.drop_length] at hm
      replace hm : wdN l [] = some ns := hm
      have HF := Lib.hid hm; clear hm
      have hcd := decide_eq_false hlt
      go_wp2_with fail
      go_ret2
      exact ⟨HD.out, .inr ⟨_, ns, HF.out, rfl, HOA.out.get (List.Mem.head _)⟩⟩
end Go.Proofs.YtekfgkeimlidhaaGreatDoor
/- desk: a builder that stands alone -/
set_option linter.all false
set_option maxRecDepth 100000
namespace Go.Proofs.YtekfgkeimlidhaaGreatDoor
open Go.RowKit Go.Shelf
section
variable {W W' : World} {B g : Nat} {its1 its2 : List It} {p V : Value} {t : ByteArray}
def owSb (g : Nat) (p V : Value) : Ow := ⟨31, 2, .slice (some ⟨g, 0, none⟩) 1 1, 1, [p, V]⟩
def sbP (g : Nat) (p V : Value) (t : ByteArray) : Prop := (p = .pointer none ∨ p = .pointer (some ⟨g, 0, none⟩)) ∧ (V = .slice none 0 0 ∨ 0 < t.size)
abbrev sbI (g : Nat) (p V : Value) (t : ByteArray) (its : List It) : List It := .fl (owSb g p V) :: .fl (owU V t) :: its
theorem sb_block (h : (owSb g p V).ok W B) : B ≤ g ∧ W.heap[g]? = some (.cells #[p, V] 31 (0, 0)) := by
  have h : W.ownsRow B 31 2 (.slice (some ⟨g, 0, none⟩) 1 1) 1 [p, V] := h
  rcases h.2 with ⟨q, _⟩ | ⟨g', cap, cur, q1, q2, q3, q4, q5, q6, q7⟩
  · cases q
  · injection q1 with qa qb qc
    injection qa with qa
    injection qa with qa
    subst qa; subst qc
    have : cur.toList = [p, V] := by rw [List.take_of_length_le (by simp [q6])] at q7; exact q7
    exact ⟨q2, by rw [q3, show cur = #[p, V] from by rw [← Array.toList_inj, this]]⟩
theorem HP.updFl {o o' : Ow} (h : HP W B (its1 ++ .fl o :: its2)) (hg : W.grownBy W' o.v.ownBlock) (hok : o'.ok W' B) (hb : o'.v.ownBlock = o.v.ownBlock ∨ ∃ k, o'.v.ownBlock = some k ∧ W.heap.size ≤ k) : HP W' B (its1 ++ .fl o' :: its2) := by
  obtain ⟨L1, L2, h1, h2⟩ := h.getAt
  exact h2 _ _ (h1.upd hg hok hb)
theorem sb_set (h : HP W B (its1 ++ .fl (owSb g p V) :: its2)) {p' V' : Value} {k : Nat} {u : Value} (e : [p, V].set k u = [p', V']) : HP (W.setCell ⟨g, k, none⟩ u) B (its1 ++ .fl (owSb g p' V') :: its2) ∧ Below B W (W.setCell ⟨g, k, none⟩ u) := by
  have hok : (owSb g p V).ok W B := h.get (by simp)
  obtain ⟨hB, hh⟩ := sb_block hok
  have hgb : W.grownBy (W.setCell ⟨g, k, none⟩ u) (owSb g p V).v.ownBlock := by
    refine ⟨rfl, rfl, rfl, by simp [World.setCell], fun j hj hne => Below.heap_setCell W ⟨g, k, none⟩ u j ?_⟩
    intro e; subst e; exact hne rfl
  refine ⟨HP.updFl h hgb ?_ (.inl rfl), (Below.refl _ _).setCell (p := ⟨g, k, none⟩) hB _⟩
  show (W.setCell ⟨g, k, none⟩ u).ownsRow B 31 2 (.slice (some ⟨g, 0, none⟩) 1 1) 1 [p', V']
  refine ⟨rfl, .inr ⟨g, 1, #[p', V'], rfl, hB, ?_, Nat.le_refl _, by unfold maxLen; omega, rfl, rfl⟩⟩
  simp only [World.setCell, Array.getElem?_modify, if_true]
  have e2 : (#[p, V] : Array Value).setIfInBounds k u = #[p', V'] := by rw [← Array.toList_inj]; simpa using e
  rw [hh]; simp only [Option.map_some]; rw [e2]; rfl
theorem liesSb : liesAt Tryz.prog Tryz.prog.depth 31 (2 / Tryz.prog.cellsOf 31) 0 31 1 = true := by kernel_rfl
set_option maxHeartbeats 1000000 in
theorem sbCC_used (w : World) (h0 : w.cell? ⟨g, 0, none⟩ = some (.pointer (some ⟨g, 0, none⟩))) :
    Calls Tryz.prog 16 #[.pointer (some ⟨g, 0, none⟩)] w fun e w' => e = .returned (.tuple #[]) ∧ w' = w := by
  obtain ⟨j, hj, _⟩ := Option.map_eq_some_iff.1 sizeBuilder
  go_enter Tryz.func16, Tryz.ntmps16
  go_wp2
  rw [Lib.run_neq_ptr_same w _ Tryz.underlying28 hj]
  go_wp2
  go_end0
  exact ⟨rfl, rfl⟩
set_option maxHeartbeats 1000000 in
theorem sbCC_fresh (w : World) (h0 : w.cell? ⟨g, 0, none⟩ = some (.pointer none)) (hsh : w.shape? g = some (31, 2)) (hfz : w.frozen? ⟨g, 0, none⟩ = false) :
    Calls Tryz.prog 16 #[.pointer (some ⟨g, 0, none⟩)] w fun e w' => e = .returned (.tuple #[]) ∧ w' = w.setCell ⟨g, 0, none⟩ (.pointer (some ⟨g, 0, none⟩)) := by
  obtain ⟨j, hj, hjs⟩ := Option.map_eq_some_iff.1 sizeBuilder
  go_enter Tryz.func16, Tryz.ntmps16
  go_wp2
  rw [Lib.run_to_unsafe w ⟨g, 0, none⟩ Tryz.underlying28 Tryz.underlying77 hj (by rw [hjs]; decide) hsh (show (0 : Nat) < 2 by decide)]
  simp only [Result.andThen]
  rw [Oper.upon_value]
  go_wp2
  rw [run_callFunc_extern Tryz.func35 (by kernel_rfl) (by kernel_rfl) (by kernel_rfl) (e := Extern.AbiNoEscape.same) (by kernel_rfl)]
  rw [Lib.run_noEscape]
  simp only [Result.andThen]
  rw [Oper.upon_value]
  go_wp2
  rw [Lib.run_from_unsafe w ⟨g, 0, none⟩ Tryz.underlying77 Tryz.underlying28 hj hsh liesSb]
  simp only [Result.andThen]
  rw [Oper.upon_value]
  go_wp2
  go_end0
  exact ⟨rfl, rfl⟩
theorem sbCC_okN (w : World) (hp : sbP g p V t) (h : HP w B (its1 ++ sbI g p V t its2)) :
    Calls Tryz.prog 16 #[.pointer (some ⟨g, 0, none⟩)] w fun e w' => e = .returned (.tuple #[]) ∧ HP w' B (its1 ++ sbI g (.pointer (some ⟨g, 0, none⟩)) V t its2) ∧ Below B w w' ∧ NC w w' := by
  have hok : (owSb g p V).ok w B := h.get (by simp)
  obtain ⟨hB, hh⟩ := sb_block hok
  rcases hp.1 with rfl | rfl
  · refine (sbCC_fresh w (by rw [Lib.cell_of_heap hh]; rfl) (by simp [World.shape?, hh]) (Lib.frozen_of_heap hh 0)).mono ?_
    rintro e w' ⟨rfl, rfl⟩
    obtain ⟨h1, h2⟩ := sb_set (p' := .pointer (some ⟨g, 0, none⟩)) (V' := V) (k := 0) (u := .pointer (some ⟨g, 0, none⟩)) h rfl
    exact ⟨rfl, h1, h2, NC.setCell _ _ _⟩
  · refine (sbCC_used w (by rw [Lib.cell_of_heap hh]; rfl)).mono ?_
    rintro e w' ⟨rfl, rfl⟩
    exact ⟨rfl, h, Below.refl _ _, NC.refl _⟩
/-- the buffer, grown, is put back -/
theorem sb_put {w1 w2 : World} {s : ByteArray} {V' : Value} (hB : B ≤ w1.heap.size) (hp : sbP g p V t) (h : HP w1 B (its1 ++ sbI g p V t its2)) (r2 : w2.ownsRowF B 5 1 V' (t.size + s.size) (Lib.strCells t ++ Lib.strCells s)) (r3 : w1.grownBy w2 V.ownBlock)
    (r4 : V' = .slice none 0 0 ↔ V = .slice none 0 0 ∧ s.size = 0) (r5 : V'.ownBlock = V.ownBlock ∨ ∃ k, V'.ownBlock = some k ∧ w1.heap.size ≤ k) :
    (w2.cell? ⟨g, 1, none⟩ = some V ∧ w2.frozen? ⟨g, 1, none⟩ = false) ∧ sbP g p V' (t ++ s) ∧ HP (w2.setCell ⟨g, 1, none⟩ V') B (its1 ++ sbI g p V' (t ++ s) its2) ∧ Below B w1 (w2.setCell ⟨g, 1, none⟩ V') ∧ NC w1 (w2.setCell ⟨g, 1, none⟩ V') := by
  have hokU : w1.ownsRowF B 5 1 V t.size (Lib.strCells t) := h.get (o := owU V t) (by simp)
  have h2 : HP w2 B ((its1 ++ [.fl (owSb g p V)]) ++ .fl (owU V' (t ++ s)) :: its2) := HP.updFl (o := owU V t) (by simpa using h) r3 (by
    show w2.ownsRowF B 5 1 V' (t ++ s).size (Lib.strCells (t ++ s))
    rw [ByteArray.size_append, strCells_app]; exact r2) r5
  have h2' : HP w2 B (its1 ++ .fl (owSb g p V) :: (.fl (owU V' (t ++ s)) :: its2)) := by simpa using h2
  have hok2 : (owSb g p V).ok w2 B := h2'.get (by simp)
  obtain ⟨_, hh⟩ := sb_block hok2
  obtain ⟨h3, h4⟩ := sb_set (p' := p) (V' := V') (k := 1) (u := V') h2' rfl
  refine ⟨⟨by rw [Lib.cell_of_heap hh]; rfl, Lib.frozen_of_heap hh 1⟩, ⟨hp.1, ?_⟩, h3, ((Below.refl _ _).grown r3 hB (fun k hk => (hokU.lt k hk).1)).trans h4, (NC.grown r3 (fun k hk => ?_)).trans (NC.setCell _ _ _)⟩
  · rcases Nat.eq_zero_or_pos (t ++ s).size with h0 | h0
    · rw [ByteArray.size_append] at h0
      rcases hp.2 with e | e
      · exact .inl (r4.2 ⟨e, by omega⟩)
      · omega
    · exact .inr h0
  · rcases hokU.2 with ⟨hv, _⟩ | ⟨g', cap, cur, fz, hv, _, hg, _⟩
    · rw [hv] at hk; cases hk
    · rw [hv] at hk; cases hk; exact ⟨_, _, _, hg⟩
set_option maxHeartbeats 2000000 in
theorem sbWrite_okN (w : World) (hp : sbP g p V t) (h : HP w B (its1 ++ sbI g p V t its2)) (s : ByteArray) (hlen : t.size + s.size < 1000000000) (hB : B ≤ w.heap.size) :
    Calls Tryz.prog 8 #[.pointer (some ⟨g, 0, none⟩), .string s] w fun e w' => e = .returned (.tuple #[.int .i64 s.size, .nilIface]) ∧ ∃ p' V', sbP g p' V' (t ++ s) ∧ HP w' B (its1 ++ sbI g p' V' (t ++ s) its2) ∧ Below B w w' ∧ NC w w' := by
  go_enter Tryz.func8, Tryz.ntmps8
  go_wp2_with fail
  refine (sbCC_okN _ hp h).mono ?_; rintro e w1 ⟨rfl, h1, hb1, hn1⟩
  have hp1 : sbP g (.pointer (some ⟨g, 0, none⟩)) V t := ⟨.inr rfl, hp.2⟩
  have hB1 := Nat.le_trans hB hb1.size
  have hokU : w1.ownsRowF B 5 1 V t.size (Lib.strCells t) := h1.get (o := owU V t) (by simp)
  have hok1 : (owSb g (.pointer (some ⟨g, 0, none⟩)) V).ok w1 B := h1.get (by simp)
  obtain ⟨_, hh1⟩ := sb_block hok1
  have c9 : w1.cell? ⟨g, 1, none⟩ = some V := by rw [Lib.cell_of_heap hh1]; rfl
  obtain ⟨V', w2, r1, r2, r3, r4, r5⟩ := run_appU w1 hokU s 29 hlen hB1
  obtain ⟨⟨d9, f9⟩, hp2, hfin, hbel, hnc⟩ := sb_put hB1 hp1 h1 r2 r3 r4 r5
  obtain ⟨ao, n', cap, rfl⟩ : ∃ ao n' cap, V' = .slice ao n' cap := by
    rcases r2.2 with ⟨hv, _⟩ | ⟨g, cap, cur, fz, hv, _⟩
    · exact ⟨_, _, _, hv⟩
    · exact ⟨_, _, _, hv⟩
  have HFIN := Lib.hid hfin; have HBEL := Lib.hid (hb1.trans hbel); have HNC := Lib.hid (hn1.trans hnc); have HP2 := Lib.hid hp2
  clear hfin hbel hnc hp2 hh1 hok1 hokU r2 r3 r4 r5 hp1
  go_wp2_with (at_builtin; refine wp_appRunU r1 rfl rfl rfl rfl ?_)
  go_ret2
  exact ⟨rfl, _, _, HP2.out, HFIN.out, HBEL.out, HNC.out⟩
theorem run_appU1 (W : World) {B : Nat} {V : Value} {t : ByteArray} (hown : W.ownsRowF B 5 1 V t.size (Lib.strCells t)) (c : UInt8) (ot : TypeId) (hlen : t.size + 1 < 1000000000) (hB : B ≤ W.heap.size) :
    ∃ v' w', (Builtin.append_ #[29, 29] ot #[V, .slice (some ⟨W.heap.size, 0, none⟩) 1 1]).run Tryz.prog (W.alloc (.cells #[.int .u8 (c.toNat : Int)] 5)) = .ok v' w' ∧ w'.ownsRowF B 5 1 v' (t.size + (⟨#[c]⟩ : ByteArray).size) (Lib.strCells t ++ Lib.strCells ⟨#[c]⟩) ∧ W.grownBy w' V.ownBlock ∧
      (v' = .slice none 0 0 ↔ V = .slice none 0 0 ∧ (⟨#[c]⟩ : ByteArray).size = 0) ∧ (v'.ownBlock = V.ownBlock ∨ ∃ k, v'.ownBlock = some k ∧ W.heap.size ≤ k) := by
  obtain ⟨i0, hi, hz0, hz1, hz2⟩ := info_parts (show (Tryz.prog.info? 5).map (fun i => (i.zero, i.size, i.bytes)) = some (some (.int .u8 0), 1, 1) by kernel_rfl)
  have hsz : (W.alloc (.cells #[.int .u8 (c.toNat : Int)] 5)).heap.size = W.heap.size + 1 := by simp
  have hnews : ∀ j u, [Value.int .u8 (c.toNat : Int)][j]? = some u → (W.alloc (.cells #[.int .u8 (c.toNat : Int)] 5)).cell? ((⟨W.heap.size, 0, none⟩ : Addr).add j) = some u := by
    intro j u hu
    have e1 : ((⟨W.heap.size, 0, none⟩ : Addr).add j) = ⟨W.heap.size, j, none⟩ := by unfold Addr.add; split <;> simp_all
    rw [e1, cell_of_row _ _ _ _ _ _ (heap_alloc_new W _)]
    simpa using hu
  have hone : ∀ u ∈ [Value.int .u8 (c.toNat : Int)], u.oneCell' = true := by intro u hu; rw [List.mem_singleton.1 hu]; rfl
  have hal : W.grownBy (W.alloc (.cells #[.int .u8 (c.toNat : Int)] 5)) none := ⟨rfl, rfl, rfl, by simp, fun k hk _ => Below.heap_alloc W _ k hk⟩
  have hown1 : (W.alloc (.cells #[.int .u8 (c.toNat : Int)] 5)).ownsRowF B 5 1 V t.size (Lib.strCells t) := by
    refine World.ownsRowF.kept hown hal ?_
    cases V.ownBlock <;> simp
  obtain ⟨v', w', h1, h2, h3, h4⟩ := run_append_ownF (P := Tryz.prog) (W.alloc (.cells #[.int .u8 (c.toNat : Int)] 5)) B 29 ot 5 i0 (.int .u8 0) 1 1 Tryz.underlying29 hi hz0 hz1 hz2 rfl (by omega) V t.size (Lib.strCells t) hown1 ⟨W.heap.size, 0, none⟩ 1 1 [.int .u8 (c.toNat : Int)] rfl hnews hone (by unfold maxLen; omega) (by omega) (by omega)
  refine ⟨v', w', h1, h2, ⟨h3.os, h3.tape, h3.output, Nat.le_trans (by simp) h3.size, fun k hk hne => (h3.block k (by simp; omega) hne).trans (Below.heap_alloc W _ k hk)⟩, h4, ?_⟩
  rcases hown1.2 with ⟨rfl, _⟩ | ⟨k, cap, cur, fz, rfl, hbg, hg, hfz, hnc, hcm, hcs, htake⟩
  · obtain ⟨v2, w2, q1, q2, q3, q4⟩ := run_append_ownF (P := Tryz.prog) (W.alloc (.cells #[.int .u8 (c.toNat : Int)] 5)) (W.heap.size + 1) 29 ot 5 i0 (.int .u8 0) 1 1 Tryz.underlying29 hi hz0 hz1 hz2 rfl (by omega) (.slice none 0 0) 0 [] (World.ownsRowF_nil _ _ _ _) ⟨W.heap.size, 0, none⟩ 1 1 [.int .u8 (c.toNat : Int)] rfl hnews hone (by unfold maxLen; omega) (by omega) (by omega)
    rw [q1] at h1
    injection h1 with h1 _
    subst h1
    cases hb : v2.ownBlock with
    | none => exact .inl rfl
    | some k => exact .inr ⟨k, rfl, by have := (q2.lt k hb).1; omega⟩
  · by_cases hroom : t.size + 1 ≤ cap
    · have hcs' : cur.size = cap := by simpa using hcs
      have hr := run_append_roomF (P := Tryz.prog) (W.alloc (.cells #[.int .u8 (c.toNat : Int)] 5)) 29 ot 5 i0 Tryz.underlying29 hi k t.size cap cur fz hg (by rw [hz1]; simpa using hfz) ⟨W.heap.size, 0, none⟩ 1 1 [.int .u8 (c.toNat : Int)] (by rw [hz1]; rfl) hnews hone hroom (by rw [hz1]; simp; omega)
      rw [hr] at h1
      injection h1 with h1 _
      subst h1; exact .inl rfl
    · have holds : ∀ j u, (Lib.strCells t)[j]? = some u → (W.alloc (.cells #[.int .u8 (c.toNat : Int)] 5)).cell? ((⟨k, 0, none⟩ : Addr).add j) = some u := hown1.cells (g := k) rfl
      have hr := run_append_grow (P := Tryz.prog) (W.alloc (.cells #[.int .u8 (c.toNat : Int)] 5)) 29 ot 5 i0 (.int .u8 0) Tryz.underlying29 hi hz0 ⟨k, 0, none⟩ t.size cap (Lib.strCells t) (by rw [hz1]; simpa using hown1.1) holds ⟨W.heap.size, 0, none⟩ 1 1 [.int .u8 (c.toNat : Int)] (by rw [hz1]; rfl) hnews (by omega) (by omega) (by rw [hz2]; exact growslice_fits (by omega) (by omega))
      rw [hr] at h1
      injection h1 with h1 _
      subst h1; exact .inr ⟨_, rfl, by simp⟩
set_option maxHeartbeats 2000000 in
theorem sbByte_okN (w : World) (hp : sbP g p V t) (h : HP w B (its1 ++ sbI g p V t its2)) (c : UInt8) (hlen : t.size + 1 < 1000000000) (hB : B ≤ w.heap.size) :
    Calls Tryz.prog 11 #[.pointer (some ⟨g, 0, none⟩), .int .u8 (c.toNat : Int)] w fun e w' => e = .returned .nilIface ∧ ∃ p' V', sbP g p' V' (t ++ ⟨#[c]⟩) ∧ HP w' B (its1 ++ sbI g p' V' (t ++ ⟨#[c]⟩) its2) ∧ Below B w w' ∧ NC w w' := by
  go_enter Tryz.func11, Tryz.ntmps11
  go_wp2_with fail
  refine (sbCC_okN _ hp h).mono ?_; rintro e w1 ⟨rfl, h1, hb1, hn1⟩
  have hp1 : sbP g (.pointer (some ⟨g, 0, none⟩)) V t := ⟨.inr rfl, hp.2⟩
  have hB1 := Nat.le_trans hB hb1.size
  have hokU : w1.ownsRowF B 5 1 V t.size (Lib.strCells t) := h1.get (o := owU V t) (by simp)
  have hok1 : (owSb g (.pointer (some ⟨g, 0, none⟩)) V).ok w1 B := h1.get (by simp)
  obtain ⟨_, hh1⟩ := sb_block hok1
  have c9 : w1.cell? ⟨g, 1, none⟩ = some V := by rw [Lib.cell_of_heap hh1]; rfl
  obtain ⟨V', w2, r1, r2, r3, r4, r5⟩ := run_appU1 w1 hokU c 29 hlen hB1
  obtain ⟨⟨d9, f9⟩, hp2, hfin, hbel, hnc⟩ := sb_put hB1 hp1 h1 r2 r3 r4 r5
  obtain ⟨ao, n', cap, rfl⟩ : ∃ ao n' cap, V' = .slice ao n' cap := by
    rcases r2.2 with ⟨hv, _⟩ | ⟨g, cap, cur, fz, hv, _⟩
    · exact ⟨_, _, _, hv⟩
    · exact ⟨_, _, _, hv⟩
  have HFIN := Lib.hid hfin; have HBEL := Lib.hid (hb1.trans hbel); have HNC := Lib.hid (hn1.trans hnc); have HP2 := Lib.hid hp2; have R1 := Lib.hid r1
  clear hfin hbel hnc hp2 hh1 hok1 hokU r1 r2 r3 r4 r5 hp1
  go_wp2_with (at_builtin; refine wp_appRun R1.out rfl rfl rfl rfl ?_)
  go_ret
  exact ⟨rfl, _, _, HP2.out, HFIN.out, HBEL.out, HNC.out⟩
theorem sbFroze {w : World} {g' cap : Nat} (h : HP w B (its1 ++ .fl (owU (.slice (some ⟨g', 0, none⟩) t.size cap) t) :: its2)) : HP (w.freeze ⟨g', 0, none⟩ t.size) B (its1 ++ .fl (owU (.slice (some ⟨g', 0, none⟩) t.size cap) t) :: its2) ∧ Below B w (w.freeze ⟨g', 0, none⟩ t.size) := by
  obtain ⟨L1, L2, h1, h2⟩ := h.getAt
  obtain ⟨q1, q2⟩ := bkFroze w h1
  exact ⟨h2 _ _ q1, q2⟩
set_option maxHeartbeats 2000000 in
theorem sbString_ok (w : World) (hp : sbP g p V t) (h : HP w B (its1 ++ sbI g p V t its2)) (hB : B ≤ w.heap.size) :
    Calls Tryz.prog 12 #[.pointer (some ⟨g, 0, none⟩)] w fun e w' => e = .returned (.string t) ∧ Below B w w' ∧ NC w w' := by
  have hok : (owSb g p V).ok w B := h.get (by simp)
  have hokU : w.ownsRowF B 5 1 V t.size (Lib.strCells t) := h.get (o := owU V t) (by simp)
  obtain ⟨_, hh⟩ := sb_block hok
  have c9 : w.cell? ⟨g, 1, none⟩ = some V := by rw [Lib.cell_of_heap hh]; rfl
  rcases hokU.2 with ⟨rfl, h0⟩ | ⟨g', cap, cur, fz, rfl, hbg, hg, hfz, hnc, hcm, hcs, htake⟩
  · have ht : t = .empty := by cases t; rename_i d; simp [ByteArray.size] at h0; subst h0; rfl
    have c1 : w.drew.cell? ⟨g, 1, none⟩ = some (.slice none 0 0) := c9
    have hUS : (Builtin.unsafeString_ #[65, 3] 9 #[.pointer none, .int .i64 0]).run Tryz.prog w.drew = .ok (.string .empty) w.drew := Lib.run_unsafeString_none _ _ _ _ _
    have hSD : (Builtin.unsafeSliceData_ #[29] 65 #[.slice none 0 0]).run Tryz.prog w.drew = .ok (.pointer none) w.drew := rfl
    go_enter Tryz.func12, Tryz.ntmps12
    go_wp2
    go_region
    all_goals (go_wp2; go_ret; exact ⟨by rw [ht]; rfl, Below.drew (Below.refl B w), NC.drew w⟩)
  · have h0 : 0 < t.size := hp.2.resolve_left (fun e => by cases e)
    have hl : t.data.toList ≠ [] := by
      intro e
      have : t.data.toList.length = t.size := by rw [Array.length_toList]; rfl
      rw [e] at this; simp at this; omega
    have hll : t.data.toList.length = t.size := by rw [Array.length_toList]; rfl
    have c1 : w.drew.cell? ⟨g, 1, none⟩ = some (.slice (some ⟨g', 0, none⟩) t.size cap) := c9
    have hSD : (Builtin.unsafeSliceData_ #[29] 65 #[.slice (some ⟨g', 0, none⟩) t.size cap]).run Tryz.prog w.drew = .ok (.pointer (some ⟨g', 0, none⟩)) w.drew :=
      Lib.run_unsafeSliceData_row _ _ _ _ _ _ (by omega)
    have hUS : (Builtin.unsafeString_ #[65, 3] 9 #[.pointer (some ⟨g', 0, none⟩), .int .i64 (t.size : Int)]).run Tryz.prog w.drew = .ok (.string t) (w.drew.freeze ⟨g', 0, none⟩ t.size) := by
      have := Lib.run_unsafeString_row (P := Tryz.prog) w.drew 65 3 9 5 Tryz.underlying65 (by kernel_rfl) g' cur.size (by have hg' : w.drew.heap[g']? = some (.cells cur 5 fz) := hg; simp [World.shape?, hg']) t.data.toList hl (by omega) (by unfold maxLen at hcm; omega) (fun j x hx => by
        have := hokU.cells (g := g') rfl j (.int .u8 x.toNat) (by rw [byteCells_str]; simp [Lib.byteCells, hx])
        exact this)
      rw [hll] at this
      exact this
    have hd1 : HP w.drew B ((its1 ++ [.fl (owSb g p (.slice (some ⟨g', 0, none⟩) t.size cap))]) ++ .fl (owU (.slice (some ⟨g', 0, none⟩) t.size cap) t) :: its2) := by simpa using h.dr (Dr.one w)
    have hbel : Below B w (w.drew.freeze ⟨g', 0, none⟩ t.size) := (Below.drew (Below.refl B w)).trans (sbFroze hd1).2
    clear hd1
    go_enter Tryz.func12, Tryz.ntmps12
    go_wp2
    go_region
    all_goals (go_wp2; go_ret; exact ⟨rfl, hbel, (NC.drew w).trans (NC.freeze _ _ _)⟩)
end
end Go.Proofs.YtekfgkeimlidhaaGreatDoor
/- desk: what a session's verbs do -/
set_option linter.all false
set_option maxRecDepth 100000
namespace Go.Proofs.YtekfgkeimlidhaaGreatDoor
open Go.RowKit Go.Shelf Pl
theorem mput_alloc {T K E : TypeId} (hT : Tryz.prog.underlying T = some (.map K E)) (hK : Tryz.prog.underlying K = some .string) {w : World} {es : Array MapEntry} {c : Nat} {k : ByteArray} {v : Value} (hf : Instr.findNow .string (.string k) es.toList 0 = some none) :
    (Instr.mapUpdate T (.map (some w.heap.size)) (.string k) v).run Tryz.prog (w.alloc (.map es c)) = .ok () (w.alloc (.map (es.push ⟨.string k, v, c⟩) (c + 1))) := by
  have hb : (w.alloc (.map es c)).heap[w.heap.size]? = some (.map es c) := heap_alloc_new w _
  have hc : (Instr.checkKey false 10000 K (.string k)).run Tryz.prog (w.alloc (.map es c)) = .ok () (w.alloc (.map es c)) := MapKept.run_checkKey hK (by trivial) false 9999
  have hk := MapKept.run_findKey (P := Tryz.prog) (w := w.alloc (.map es c)) hK hf
  have hs : ({ w.alloc (.map es c) with heap := (w.alloc (.map es c)).heap.setIfInBounds w.heap.size (.map (es.push ⟨.string k, v, c⟩) (c + 1)) } : World) = w.alloc (.map (es.push ⟨.string k, v, c⟩) (c + 1)) := by
    have : (w.heap.push (.map es c)).setIfInBounds w.heap.size (.map (es.push ⟨.string k, v, c⟩) (c + 1)) = w.heap.push (.map (es.push ⟨.string k, v, c⟩) (c + 1)) := by
      apply Array.ext_getElem?
      intro i
      rw [Array.getElem?_setIfInBounds, Array.getElem?_push, Array.getElem?_push]
      by_cases e : w.heap.size = i
      · subst e; simp
      · rw [if_neg e, if_neg (Ne.symm e), if_neg (Ne.symm e)]
    show ({ w.alloc (.map es c) with heap := (w.heap.push (.map es c)).setIfInBounds w.heap.size (.map (es.push ⟨.string k, v, c⟩) (c + 1)) } : World) = _
    rw [this]; rfl
  unfold Instr.mapUpdate
  simp only [run_underlying hT, Sem.run_bind, Result.andThen, MapKept.run_getObj_map hb, hc, hk, MapKept.run_setObj_map _ hb, hs]
theorem mget {T K E : TypeId} (hT : Tryz.prog.underlying T = some (.map K E)) (hK : Tryz.prog.underlying K = some .string) {z : Value} (hz : ∀ W : World, (zeroValue E).run Tryz.prog W = .ok z W) {W : World} {b : Nat} {es : Array MapEntry} {c : Nat} {k : ByteArray} {r : Option (Nat × Value)} (hb : W.heap[b]? = some (.map es c))
    (hf : Instr.findNow .string (.string k) es.toList 0 = some r) : (Instr.lookup T (.map (some b)) (.string k) true).run Tryz.prog W = .ok (.tuple #[(match r with | some (_, v) => v | none => z), .bool r.isSome]) W := by
  have hc : (Instr.checkKey es.isEmpty 10000 K (.string k)).run Tryz.prog W = .ok () W := MapKept.run_checkKey hK (by trivial) _ 9999
  have hk := MapKept.run_findKey (P := Tryz.prog) (w := W) hK hf
  unfold Instr.lookup
  cases r with
  | none => simp [run_underlying hT, Sem.run_bind, Result.andThen, MapKept.run_getObj_map hb, hc, hk, hz W]
  | some q => simp [run_underlying hT, Sem.run_bind, Result.andThen, MapKept.run_getObj_map hb, hc, hk]
abbrev dkI (g gb : Nat) (b : BkT) (its : List It) : List It := .fl (owX 27 (some ⟨g, 0, none⟩) (.pointer (some ⟨gb, 0, none⟩))) :: bkI gb b :: its
section
variable {B g gb : Nat} {its1 its2 : List It} {b : BkT} {A : Option Addr} {cap : Nat}
set_option maxHeartbeats 4000000 in
theorem dJoin_okN {i j : Int} {r : Int × BkT} (w : World) (htb : TabB B w) (htc : TyCell w) (h : HP w B (its1 ++ dkI g gb b its2)) (hB : B ≤ w.heap.size) (hgB : 1 < B) (hr : ReadsI w w.heap.size A [i, j]) (hm : mJoin b i j = some r) (he : 0 ≤ r.1 ∧ r.1 ≤ 6) :
    Calls Tryz.prog 17 #[.pointer (some ⟨g, 0, none⟩), .slice A 2 cap] w fun e w' => e = .returned (.string (tld r.1)) ∧ HP w' B (its1 ++ dkI g gb r.2 its2) ∧ Below B w w' ∧ NC w w' := by
  have c0 := h.bx (g := g) (u := .pointer (some ⟨gb, 0, none⟩)) (t := 27) (by simp)
  obtain ⟨g9, o9, eA, hb9, hc9⟩ := hr.2 (show 0 < 2 by decide)
  subst eA
  have f0 : w.cell? ⟨g9, o9, none⟩ = some (.int .i64 i) := hc9 0 _ rfl
  have f1 : w.cell? ⟨g9, o9 + 1, none⟩ = some (.int .i64 j) := hc9 1 _ rfl
  have HOA := Lib.hid h; have HTB := Lib.hid htb; have HTC := Lib.hid htc; have HB := Lib.hid hB; have HM := Lib.hid hm; have HE := Lib.hid he; have HG := Lib.hid hgB
  clear h htb htc hB hm hr hc9 he hgB
  go_enter Tryz.func17, Tryz.ntmps17
  go_upto_region 1 with (fail)
  have c0r := cell_regrown (w := w.drew) c0
  have f0r := cell_regrown (w := w.drew) f0
  have f1r := cell_regrown (w := w.drew) f1
  refine wp_region_ph [.P 0, .P 1, .P 2, .P 4, .P 5, .P 7, .P 8, .H [3, 6, 9], .S [10], .S [11], .P 12] (by kernel_rfl) (by kernel_rfl) ?_
  iterate 7 (refine wpPs_P rfl rfl (fun K hK => ?_); go_simp; refine hK _ ?_; clear hK K)
  refine wpPs_H ?_
  repeat (refine wpQI_step rfl rfl (fun K hK => ?_); go_simp; first | (refine hK _ ?_; clear hK K))
  refine wpQI_nil ?_
  intro _ hw_
  obtain ⟨⟨dq, osq⟩, hw_⟩ := hw_
  subst hw_
  have hd := below_regrown_drew w dq osq
  generalize Go.Sort.grow (redrawn w.drew _) _ = W6 at *
  clear c0r f0r f1r c0 f0 f1
  replace HOA := Lib.hid (HOA.out.below hd)
  replace HTB := Lib.hid (HTB.out.go (hd.mono HB.out))
  replace HTC := Lib.hid (HTC.out.go hd)
  have HN := Lib.hid (NC.of_below hd)
  have HD := Lib.hid (hd.mono HB.out)
  replace HB := Lib.hid (Nat.le_trans HB.out hd.size); clear hd
  have HC := Lib.hid (mJoin_okN (its1 := its1 ++ [.fl (owX 27 (some ⟨g, 0, none⟩) (.pointer (some ⟨gb, 0, none⟩)))]) (its2 := its2) W6 HTB.out (by simpa using HOA.out) HB.out HM.out)
  refine wpPs_S rfl (fun Q' hQ' hL' => ?_)
  go_wp2_with fail
  refine HC.out.mono ?_; rintro e1 W7 ⟨rfl, hp, hd, hn⟩
  replace HOA := Lib.hid (show HP W7 B (its1 ++ dkI g gb r.2 its2) by simpa using hp)
  replace HTC := Lib.hid (HTC.out.below' hd HG.out)
  replace HD := Lib.hid (HD.out.trans hd)
  replace HN := Lib.hid (HN.out.trans hn)
  replace HB := Lib.hid (Nat.le_trans HB.out hd.size); clear hd hn hp HC
  have HT := Lib.hid (told_ok r.1 HE.out W7 HTC.out)
  try go_wp2_with fail
  refine hQ' _ _ ?_; clear hQ' hL' Q'
  refine wpPs_S rfl (fun Q' hQ' hL' => ?_)
  go_wp2_with fail
  refine HT.out.mono ?_; rintro e1 W8 ⟨rfl, hd⟩
  replace HOA := Lib.hid (HOA.out.below hd)
  replace HD := Lib.hid (HD.out.trans (hd.mono HB.out))
  replace HN := Lib.hid (HN.out.trans (NC.of_below hd)); clear hd HT
  try go_wp2_with fail
  refine hQ' _ _ ?_; clear hQ' hL' Q'
  repeat (refine wpPs_P rfl rfl (fun K hK => ?_); go_simp; refine hK _ ?_; clear hK K)
  refine wpPs_nil ?_
  try go_wp2_with fail
  go_ret
  exact ⟨rfl, HOA.out, HD.out, HN.out⟩
set_option maxHeartbeats 4000000 in
theorem dCut_okN {i j : Int} {r : Int × BkT} (w : World) (htb : TabB B w) (htc : TyCell w) (h : HP w B (its1 ++ dkI g gb b its2)) (hB : B ≤ w.heap.size) (hgB : 1 < B) (hr : ReadsI w w.heap.size A [i, j]) (hm : mCut b i j = some r) (he : 0 ≤ r.1 ∧ r.1 ≤ 6) :
    Calls Tryz.prog 18 #[.pointer (some ⟨g, 0, none⟩), .slice A 2 cap] w fun e w' => e = .returned (.string (tld r.1)) ∧ HP w' B (its1 ++ dkI g gb r.2 its2) ∧ Below B w w' ∧ NC w w' := by
  have c0 := h.bx (g := g) (u := .pointer (some ⟨gb, 0, none⟩)) (t := 27) (by simp)
  obtain ⟨g9, o9, eA, hb9, hc9⟩ := hr.2 (show 0 < 2 by decide)
  subst eA
  have f0 : w.cell? ⟨g9, o9, none⟩ = some (.int .i64 i) := hc9 0 _ rfl
  have f1 : w.cell? ⟨g9, o9 + 1, none⟩ = some (.int .i64 j) := hc9 1 _ rfl
  have HOA := Lib.hid h; have HTB := Lib.hid htb; have HTC := Lib.hid htc; have HB := Lib.hid hB; have HM := Lib.hid hm; have HE := Lib.hid he; have HG := Lib.hid hgB
  clear h htb htc hB hm hr hc9 he hgB
  go_enter Tryz.func18, Tryz.ntmps18
  go_upto_region 1 with (fail)
  have c0r := cell_regrown (w := w.drew) c0
  have f0r := cell_regrown (w := w.drew) f0
  have f1r := cell_regrown (w := w.drew) f1
  refine wp_region_ph [.P 0, .P 1, .P 2, .P 4, .P 5, .P 7, .P 8, .H [3, 6, 9], .S [10], .S [11], .P 12] (by kernel_rfl) (by kernel_rfl) ?_
  iterate 7 (refine wpPs_P rfl rfl (fun K hK => ?_); go_simp; refine hK _ ?_; clear hK K)
  refine wpPs_H ?_
  repeat (refine wpQI_step rfl rfl (fun K hK => ?_); go_simp; first | (refine hK _ ?_; clear hK K))
  refine wpQI_nil ?_
  intro _ hw_
  obtain ⟨⟨dq, osq⟩, hw_⟩ := hw_
  subst hw_
  have hd := below_regrown_drew w dq osq
  generalize Go.Sort.grow (redrawn w.drew _) _ = W6 at *
  clear c0r f0r f1r c0 f0 f1
  replace HOA := Lib.hid (HOA.out.below hd)
  replace HTB := Lib.hid (HTB.out.go (hd.mono HB.out))
  replace HTC := Lib.hid (HTC.out.go hd)
  have HN := Lib.hid (NC.of_below hd)
  have HD := Lib.hid (hd.mono HB.out)
  replace HB := Lib.hid (Nat.le_trans HB.out hd.size); clear hd
  have HC := Lib.hid (mCut_okN (its1 := its1 ++ [.fl (owX 27 (some ⟨g, 0, none⟩) (.pointer (some ⟨gb, 0, none⟩)))]) (its2 := its2) W6 HTB.out (by simpa using HOA.out) HB.out HM.out)
  refine wpPs_S rfl (fun Q' hQ' hL' => ?_)
  go_wp2_with fail
  refine HC.out.mono ?_; rintro e1 W7 ⟨rfl, hp, hd, hn⟩
  replace HOA := Lib.hid (show HP W7 B (its1 ++ dkI g gb r.2 its2) by simpa using hp)
  replace HTC := Lib.hid (HTC.out.below' hd HG.out)
  replace HD := Lib.hid (HD.out.trans hd)
  replace HN := Lib.hid (HN.out.trans hn)
  replace HB := Lib.hid (Nat.le_trans HB.out hd.size); clear hd hn hp HC
  have HT := Lib.hid (told_ok r.1 HE.out W7 HTC.out)
  try go_wp2_with fail
  refine hQ' _ _ ?_; clear hQ' hL' Q'
  refine wpPs_S rfl (fun Q' hQ' hL' => ?_)
  go_wp2_with fail
  refine HT.out.mono ?_; rintro e1 W8 ⟨rfl, hd⟩
  replace HOA := Lib.hid (HOA.out.below hd)
  replace HD := Lib.hid (HD.out.trans (hd.mono HB.out))
  replace HN := Lib.hid (HN.out.trans (NC.of_below hd)); clear hd HT
  try go_wp2_with fail
  refine hQ' _ _ ?_; clear hQ' hL' Q'
  repeat (refine wpPs_P rfl rfl (fun K hK => ?_); go_simp; refine hK _ ?_; clear hK K)
  refine wpPs_nil ?_
  try go_wp2_with fail
  go_ret
  exact ⟨rfl, HOA.out, HD.out, HN.out⟩
def farS (r : Int × Int) : ByteArray := if r.2 = 0 then (if r.1 < 0 then ⟨#[110, 111, 110, 101]⟩ else dec r.1) else tld r.2
set_option maxHeartbeats 4000000 in
theorem dFar_okN {i j : Int} {r : Int × Int} (w : World) (htb : TabB B w) (htc : TyCell w) (h : HP w B (its1 ++ dkI g gb b its2)) (hB : B ≤ w.heap.size) (hr : ReadsI w w.heap.size A [i, j]) (hm : brambleweir_book_Book_Far 300 b.1 i j = some r) (he : (0 ≤ r.2 ∧ r.2 ≤ 6) ∧ r.1 ≤ 1000) :
    Calls Tryz.prog 19 #[.pointer (some ⟨g, 0, none⟩), .slice A 2 cap] w fun e w' => e = .returned (.string (farS r)) ∧ Below w.heap.size w w' := by
  have c0 := h.bx (g := g) (u := .pointer (some ⟨gb, 0, none⟩)) (t := 27) (by simp)
  obtain ⟨g9, o9, eA, hb9, hc9⟩ := hr.2 (show 0 < 2 by decide)
  subst eA
  have f0 : w.cell? ⟨g9, o9, none⟩ = some (.int .i64 i) := hc9 0 _ rfl
  have f1 : w.cell? ⟨g9, o9 + 1, none⟩ = some (.int .i64 j) := hc9 1 _ rfl
  have hrd : ReadsBk w gb b.1 := HP.rdBk (its1 := its1 ++ [.fl (owX 27 (some ⟨g, 0, none⟩) (.pointer (some ⟨gb, 0, none⟩)))]) (its2 := its2) (by simpa using h)
  have HRD := Lib.hid hrd; have HTB := Lib.hid htb; have HTC := Lib.hid htc; have HB := Lib.hid hB; have HM := Lib.hid hm; have HE := Lib.hid he
  clear h htb htc hB hm hr hc9 he hrd
  go_enter Tryz.func19, Tryz.ntmps19
  go_upto_region 1 with (fail)
  have c0r := cell_regrown (w := w.drew) c0
  have f0r := cell_regrown (w := w.drew) f0
  have f1r := cell_regrown (w := w.drew) f1
  refine wp_region_ph [.P 0, .P 1, .P 2, .P 4, .P 5, .P 7, .P 8, .H [3, 6, 9], .S [10], .P 11, .P 12, .P 13, .P 14, .P 15] (by kernel_rfl) (by kernel_rfl) ?_
  iterate 7 (refine wpPs_P rfl rfl (fun K hK => ?_); go_simp; refine hK _ ?_; clear hK K)
  refine wpPs_H ?_
  repeat (refine wpQI_step rfl rfl (fun K hK => ?_); go_simp; first | (refine hK _ ?_; clear hK K))
  refine wpQI_nil ?_
  intro _ hw_
  obtain ⟨⟨dq, osq⟩, hw_⟩ := hw_
  subst hw_
  have hd := below_regrown_drew w dq osq
  generalize Go.Sort.grow (redrawn w.drew _) _ = W6 at *
  clear c0r f0r f1r c0 f0 f1
  have HRD6 := Lib.hid (rdBk hd HRD.out)
  replace HTB := Lib.hid (HTB.out.go (hd.mono HB.out))
  replace HTC := Lib.hid (HTC.out.go hd)
  have HD := Lib.hid hd; clear hd
  have HC := Lib.hid (brambleweir_book_Book_Far_ok W6 HRD6.out HM.out)
  refine wpPs_S rfl (fun Q' hQ' hL' => ?_)
  go_wp2_with fail
  refine HC.out.mono ?_; rintro e1 W7 ⟨rfl, hd⟩
  replace HTB := Lib.hid (HTB.out.go (hd.mono (Nat.le_trans HB.out HD.out.size)))
  replace HTC := Lib.hid (HTC.out.go hd)
  replace HD := Lib.hid (HD.out.trans (hd.mono HD.out.size)); clear hd HC
  try go_wp2_with fail
  refine hQ' _ _ ?_; clear hQ' hL' Q'
  repeat (refine wpPs_P rfl rfl (fun K hK => ?_); go_simp; refine hK _ ?_; clear hK K)
  refine wpPs_nil ?_
  by_cases h0 : r.2 = 0
  · rw [h0, errV_zero]
    by_cases hn : r.1 < 0
    · have hnd := decide_eq_true hn
      go_wp2_with fail
      go_ret
      exact ⟨by unfold farS; rw [if_pos h0, if_pos hn]; rfl, HD.out⟩
    · have hnd := decide_eq_false hn
      have HI := Lib.hid (mItoa_ok (n := r.1) W7 HTB.out.1 (by unfold mItoa; rw [if_pos ⟨by omega, by have := HE.out.2; omega⟩]))
      go_wp2_with fail
      refine HI.out.mono ?_; rintro e1 W8 ⟨rfl, hd⟩
      go_wp2_with fail
      go_ret
      exact ⟨by unfold farS; rw [if_pos h0, if_neg (by omega)]; rfl, HD.out.trans (hd.mono HD.out.size)⟩
  · have HT := Lib.hid (told_ok r.2 HE.out.1 W7 HTC.out)
    rw [errV_pos _ h0] at HT ⊢
    go_wp2_with fail
    refine HT.out.mono ?_; rintro e1 W8 ⟨rfl, hd⟩
    go_wp2_with fail
    go_ret
    exact ⟨by unfold farS; rw [if_neg h0]; rfl, HD.out.trans (hd.mono HD.out.size)⟩
set_option maxHeartbeats 4000000 in
theorem dMany_okN {lo : List (Int × Int)} {n : Nat} (w : World) (htb : TabB B w) (h : HP w B (its1 ++ dkI g gb b its2)) (hB : B ≤ w.heap.size) (hm : brambleweir_book_Book_Lines 300 b.1 = some lo) (hlo : lo.length ≤ 1000) (V : Value) :
    Calls Tryz.prog 20 #[.pointer (some ⟨g, 0, none⟩), V] w fun e w' => e = .returned (.string (dec (lo.length : Int))) ∧ Below w.heap.size w w' := by
  have c0 := h.bx (g := g) (u := .pointer (some ⟨gb, 0, none⟩)) (t := 27) (by simp)
  have hrd : ReadsBk w gb b.1 := HP.rdBk (its1 := its1 ++ [.fl (owX 27 (some ⟨g, 0, none⟩) (.pointer (some ⟨gb, 0, none⟩)))]) (its2 := its2) (by simpa using h)
  have HC := Lib.hid (brambleweir_book_Book_Lines_ok w hrd hm)
  unfold PostG at HC
  have HTB := Lib.hid htb; have HB := Lib.hid hB
  clear h htb hB hm hrd
  go_enter Tryz.func20, Tryz.ntmps20
  go_wp2_with fail
  refine HC.out.mono ?_; rintro e1 W7 ⟨V7, rfl, ho, hd⟩
  obtain ⟨A7, c7, hV, _⟩ := HP.open_L (HP.call (HP.nil (W := w) (B := w.heap.size)) hd (Nat.le_refl _) ho) (List.Mem.head _)
  subst hV
  have HI := Lib.hid (mItoa_ok (n := (lo.length : Int)) W7 (HTB.out.go (hd.mono HB.out)).1 (by unfold mItoa; rw [if_pos ⟨by omega, by omega⟩]))
  have HD := Lib.hid hd; clear hd ho HC
  go_wp2_with fail
  refine HI.out.mono ?_; rintro e1 W8 ⟨rfl, hd⟩
  go_wp2_with fail
  go_ret
  exact ⟨rfl, HD.out.trans (hd.mono HD.out.size)⟩
def fndS (n : Int) : ByteArray := (⟨#[102, 111, 117, 110, 100, 32]⟩ : ByteArray) ++ dec n
theorem Fl.splitA {its1 its2 : List It} {L : List Ow} (h : Fl (its1 ++ its2) L) : ∃ L1 L2, L = L1 ++ L2 ∧ Fl its1 L1 ∧ Fl its2 L2 := by
  cases its2 with
  | nil => rw [List.append_nil] at h; exact ⟨L, [], by simp, h, .nil⟩
  | cons x l => exact Fl.split h
theorem HP.midBk {W : World} {B g : Nat} {its1 its2 : List It} {ms : List Nat} {t : ByteArray} {n : Int} (h : HP W B (.bk g ms t n :: (its1 ++ its2))) : HP W B (its1 ++ .bk g ms t n :: its2) := by
  obtain ⟨L, h1, h2⟩ := h
  cases h2 with
  | @bk _ p V _ _ _ _ L3 hp f2 =>
    obtain ⟨L1, L2, rfl, f1, f3⟩ := Fl.splitA f2
    refine ⟨L1 ++ (owBk g p V ms n :: owU V t :: L2), h1.perm ?_, Fl.join f1 (.bk g hp f3)⟩
    have := (List.perm_append_comm (l₁ := [owBk g p V ms n, owU V t]) (l₂ := L1)).append_right L2
    simpa using this
def CrP (B g : Nat) (its1 its2 : List It) (b : BkT) (r : Int × Int × BkT) (w : World) (e : Ending) (w' : World) : Prop :=
  ∃ gb', e = .returned (.string (if r.1 = 0 then fndS r.2.1 else tld r.1)) ∧ HP w' B (its1 ++ dkI g gb' (if r.1 = 0 then r.2.2 else b) its2) ∧ Below B w w' ∧ NC w w'
set_option maxHeartbeats 4000000 in
theorem dCrash_okN {n : Int} {r : Int × Int × BkT} (w : World) (hop : OpB B w) (htc : TyCell w) (h : HP w B (its1 ++ dkI g gb b its2)) (hB : B ≤ w.heap.size) (hgB : 1 < B) (hl : It.fl (owI (.slice A 1 cap) [n]) ∈ its1) (hn0 : 0 ≤ n) (hbs : b.2.1.size ≤ 1000000)
    (hm : mOpen (b.2.1.extract 0 (min n (b.2.1.size : Int)).toNat) = some r) (he : (0 ≤ r.1 ∧ r.1 ≤ 6) ∧ 0 ≤ r.2.1 ∧ r.2.1 ≤ 1000000) :
    Calls Tryz.prog 21 #[.pointer (some ⟨g, 0, none⟩), .slice A 1 cap] w (CrP B g its1 its2 b r w) := by
  have c0 := h.bx (g := g) (u := .pointer (some ⟨gb, 0, none⟩)) (t := 27) (by simp)
  have HC := Lib.hid (bkText_okN (its1 := its1 ++ [.fl (owX 27 (some ⟨g, 0, none⟩) (.pointer (some ⟨gb, 0, none⟩)))]) (its2 := its2) (b := b) w (by simpa using h) hB)
  have HOP := Lib.hid hop; have HTC := Lib.hid htc; have HB := Lib.hid hB; have HM := Lib.hid hm; have HE := Lib.hid he; have HG := Lib.hid hgB; have HL := Lib.hid hl
  clear h hop htc hB hm he hgB hl
  go_enter Tryz.func21, Tryz.ntmps21
  go_wp2_with fail
  refine HC.out.mono ?_; rintro e1 W7 ⟨rfl, hp, hd, hn⟩
  have HOA := Lib.hid (show HP W7 B (its1 ++ dkI g gb b its2) by simpa using hp)
  replace HOP := Lib.hid (HOP.out.go hd)
  replace HTC := Lib.hid (HTC.out.below' hd HG.out)
  have HN := Lib.hid hn
  have HD := Lib.hid hd
  replace HB := Lib.hid (Nat.le_trans HB.out hd.size); clear hd hn hp HC c0
  have hrd : ReadsI W7 W7.heap.size A [n] := HP.rd_I HOA.out (List.mem_append_left _ HL.out)
  obtain ⟨g9, o9, eA, hb9, hc9⟩ := hrd.2 (show 0 < 1 by decide)
  subst eA
  have f0 : W7.cell? ⟨g9, o9, none⟩ = some (.int .i64 n) := hc9 0 _ rfl
  clear hrd hc9
  obtain ⟨ms, tx, nn⟩ := b
  dsimp only at HM hbs ⊢
  have hmn0 : 0 ≤ min n (tx.size : Int) := by omega
  have hmn1 : min n (tx.size : Int) ≤ (tx.size : Int) := by omega
  have HO := Lib.hid (mOpen_ok W7 (HOP.out.mono HB.out) HM.out)
  go_wp2_with fail
  refine HO.out.mono ?_; rintro e2 W8 ⟨hd, (⟨h0, g2, rfl, hp⟩ | ⟨h0, rfl⟩)⟩
  · have hoa : HP W8 B (bkI g2 r.2.2 :: (its1 ++ dkI g gb (ms, tx, nn) its2)) := HP.callIt HOA.out hd HB.out hp
    replace HOP := Lib.hid (HOP.out.go (hd.mono HB.out))
    replace HN := Lib.hid (HN.out.trans (NC.of_below hd))
    replace HD := Lib.hid (HD.out.trans (hd.mono HB.out))
    replace HB := Lib.hid (Nat.le_trans HB.out hd.size); clear hd hp
    obtain ⟨q0, q1, hp2, hb2⟩ := HP.setBx (its1 := bkI g2 r.2.2 :: its1) (its2 := bkI gb (ms, tx, nn) :: its2) (t := 27) (g := g) (u := .pointer (some ⟨gb, 0, none⟩)) (by exact hoa) (.pointer (some ⟨g2, 0, none⟩))
    have hp3 := hp2.sub (List.Sublist.append (List.Sublist.refl (bkI g2 r.2.2 :: its1)) (.cons₂ _ (.cons _ (List.Sublist.refl its2))))
    have hp4 : HP (W8.setCell ⟨g, 0, none⟩ (.pointer (some ⟨g2, 0, none⟩))) B (its1 ++ dkI g g2 r.2.2 its2) := by
      have := HP.midBk (g := g2) (its1 := its1 ++ [.fl (owX 27 (some ⟨g, 0, none⟩) (.pointer (some ⟨g2, 0, none⟩)))]) (its2 := its2) (by simpa using hp3)
      simpa using this
    have HP4 := Lib.hid hp4
    have HN4 := Lib.hid (HN.out.trans (NC.setCell W8 ⟨g, 0, none⟩ (.pointer (some ⟨g2, 0, none⟩))))
    have HOP4 := Lib.hid (HOP.out.go hb2)
    have HD4 := Lib.hid (HD.out.trans hb2)
    have HB4 := Lib.hid (Nat.le_trans HB.out hb2.size)
    clear hoa hp2 hp3 hp4 hb2
    have hds := dec_le (n := r.2.1) (by have := HE.out.2; omega) (k := 7) (by omega) (by have := HE.out.2; omega)
    have hitm : mItoa r.2.1 = some (dec r.2.1) := by unfold mItoa; rw [if_pos ⟨by have := HE.out.2; omega, by have := HE.out.2; omega⟩]
    have HI := Lib.hid (mItoa_ok (n := r.2.1) (W8.setCell ⟨g, 0, none⟩ (.pointer (some ⟨g2, 0, none⟩))) HOP4.out.tab.1 hitm)
    have HFS := Lib.hid (show fndS r.2.1 = (⟨#[102, 111, 117, 110, 100, 32]⟩ : ByteArray) ++ dec r.2.1 from rfl)
    have HH0 := Lib.hid h0
    generalize dec r.2.1 = y at *
    have hc1 : ¬ (9223372036854775807 < (⟨#[102, 111, 117, 110, 100, 32]⟩ : ByteArray).size + y.size) := by
      have : (⟨#[102, 111, 117, 110, 100, 32]⟩ : ByteArray).size = 6 := rfl
      omega
    have hc2 : ¬ (9223372036854775807 < 6 + y.size) := by omega
    clear hitm hds h0
    go_wp2_with fail
    refine HI.out.mono ?_; rintro e1 W9 ⟨rfl, hd⟩
    go_wp2_with fail
    go_ret
    unfold CrP
    exact ⟨g2, by rw [if_pos HH0.out, HFS.out]; rfl, by rw [if_pos HH0.out]; exact HP4.out.below hd, HD4.out.trans (hd.mono HB4.out), HN4.out.trans (NC.of_below hd)⟩
  · have HH0 := Lib.hid h0
    have hne : r.1 ≠ 0 := h0
    rw [errV_pos _ hne]
    replace HTC := Lib.hid (HTC.out.go hd)
    replace HOA := Lib.hid (HOA.out.below hd)
    replace HN := Lib.hid (HN.out.trans (NC.of_below hd))
    replace HD := Lib.hid (HD.out.trans (hd.mono HB.out))
    replace HB := Lib.hid (Nat.le_trans HB.out hd.size); clear hd
    have HT := Lib.hid (told_ok r.1 HE.out.1 W8 HTC.out)
    rw [errV_pos _ hne] at HT
    clear h0 hne
    go_wp2_with fail
    refine HT.out.mono ?_; rintro e1 W9 ⟨rfl, hd⟩
    go_wp2_with fail
    go_ret
    unfold CrP
    exact ⟨gb, by rw [if_neg HH0.out]; rfl, by rw [if_neg HH0.out]; exact HOA.out.below hd, HD.out.trans (hd.mono HB.out), HN.out.trans (NC.of_below hd)⟩
end
end Go.Proofs.YtekfgkeimlidhaaGreatDoor
/- desk: a line of a session -/
set_option linter.all false
set_option maxRecDepth 100000
namespace Go.Proofs.YtekfgkeimlidhaaGreatDoor
open Go.RowKit Go.Shelf Pl
def kJ : ByteArray := ⟨#[106, 111, 105, 110]⟩
def kC : ByteArray := ⟨#[99, 117, 116]⟩
def kF : ByteArray := ⟨#[102, 97, 114]⟩
def kM : ByteArray := ⟨#[109, 97, 110, 121]⟩
def kX : ByteArray := ⟨#[99, 114, 97, 115, 104]⟩
def badS : ByteArray := ⟨#[98, 97, 100]⟩
/-- a verb: how many numbers it has, which it is -/
def vbO (x : ByteArray) : Option (Nat × Nat) := if x = kJ then some (2, 0) else if x = kC then some (2, 1) else if x = kF then some (2, 2) else if x = kM then some (0, 3) else if x = kX then some (1, 4) else none
def chkO {α : Type} (c : Prop) [Decidable c] (x : α) : Option α := if c then some x else none
theorem chkO_some {α : Type} {c : Prop} [Decidable c] {x y : α} (h : chkO c x = some y) : c ∧ x = y := by
  unfold chkO at h; split at h
  · exact ⟨by assumption, Option.some.inj h⟩
  · cases h
def vAct (b : BkT) (k : Nat) (ns : List Int) : Option (ByteArray × BkT) :=
  if k = 0 then (mJoin b (ns.getD 0 0) (ns.getD 1 0)).bind fun r => chkO (0 ≤ r.1 ∧ r.1 ≤ 6) (tld r.1, r.2)
  else if k = 1 then (mCut b (ns.getD 0 0) (ns.getD 1 0)).bind fun r => chkO (0 ≤ r.1 ∧ r.1 ≤ 6) (tld r.1, r.2)
  else if k = 2 then (brambleweir_book_Book_Far 300 b.1 (ns.getD 0 0) (ns.getD 1 0)).bind fun r => chkO ((0 ≤ r.2 ∧ r.2 ≤ 6) ∧ r.1 ≤ 1000) (farS r, b)
  else if k = 3 then (brambleweir_book_Book_Lines 300 b.1).bind fun lo => chkO (lo.length ≤ 1000) (dec (lo.length : Int), b)
  else if 0 ≤ ns.getD 0 0 ∧ b.2.1.size ≤ 1000000 then (mOpen (b.2.1.extract 0 (min (ns.getD 0 0) (b.2.1.size : Int)).toNat)).bind fun r => chkO ((0 ≤ r.1 ∧ r.1 ≤ 6) ∧ 0 ≤ r.2.1 ∧ r.2.1 ≤ 1000000) (if r.1 = 0 then fndS r.2.1 else tld r.1, if r.1 = 0 then r.2.2 else b)
  else none
def mVerb (b : BkT) (w0 : ByteArray) (ns : List Int) : Option (ByteArray × BkT) := match vbO w0 with
  | none => some (badS, b)
  | some (m, k) => if ns.length = m then vAct b k ns else some (badS, b)
def mAns (b : BkT) (s : ByteArray) : Option (ByteArray × BkT) := if s.size ≤ 100000 then (match wdN (wdsB s).tail [] with
  | none => some (badS, b)
  | some ns => mVerb b ((wdsB s).getD 0 ByteArray.empty) ns) else none
/-! ### the map of the verbs -/
def fnV (k : Nat) : Value := .func (.func (if k = 0 then 17 else if k = 1 then 18 else if k = 2 then 19 else if k = 3 then 20 else 21)) #[] #[]
def vE (k : ByteArray) (m : Nat) (f born : Nat) : MapEntry := ⟨.string k, .agg #[.int .i64 (m : Int), .func (.func f) #[] #[]], born⟩
def vEs : Array MapEntry := #[vE kJ 2 17 0, vE kC 2 18 1, vE kF 2 19 2, vE kM 0 20 3, vE kX 1 21 4]
theorem find_miss {x k : ByteArray} {v : Value} {n i : Nat} {l : List MapEntry} (h : x ≠ k) : Instr.findNow .string (.string x) (⟨.string k, v, n⟩ :: l) i = Instr.findNow .string (.string x) l (i + 1) := by
  have e : (x == k) = false := by
    cases q : (x == k) with
    | false => rfl
    | true => exact absurd ((MapKept.bytes_beq x k).1 q) h
  show (match Instr.sameNow .string (.string x) (.string k) with | some true => _ | some false => _ | none => _) = _
  have : Instr.sameNow .string (.string x) (.string k) = some (x == k) := rfl
  rw [this, e]
theorem find_hit {x : ByteArray} {v : Value} {n i : Nat} {l : List MapEntry} : Instr.findNow .string (.string x) (⟨.string x, v, n⟩ :: l) i = some (some (i, v)) := by
  have e : (x == x) = true := (MapKept.bytes_beq x x).2 rfl
  show (match Instr.sameNow .string (.string x) (.string x) with | some true => _ | some false => _ | none => _) = _
  have : Instr.sameNow .string (.string x) (.string x) = some (x == x) := rfl
  rw [this, e]
theorem vEs_list : vEs.toList = [vE kJ 2 17 0, vE kC 2 18 1, vE kF 2 19 2, vE kM 0 20 3, vE kX 1 21 4] := rfl
theorem find_some {x : ByteArray} {m k : Nat} (h : vbO x = some (m, k)) : ∃ i, Instr.findNow .string (.string x) vEs.toList 0 = some (some (i, .agg #[.int .i64 (m : Int), fnV k])) := by
  rw [vEs_list]
  unfold vbO at h
  unfold vE
  by_cases h0 : x = kJ
  · rw [if_pos h0] at h; cases h; exact ⟨0, by rw [← h0, find_hit]; rfl⟩
  rw [if_neg h0] at h
  by_cases h1 : x = kC
  · rw [if_pos h1] at h; cases h; exact ⟨1, by rw [find_miss h0, ← h1, find_hit]; rfl⟩
  rw [if_neg h1] at h
  by_cases h2 : x = kF
  · rw [if_pos h2] at h; cases h; exact ⟨2, by rw [find_miss h0, find_miss h1, ← h2, find_hit]; rfl⟩
  rw [if_neg h2] at h
  by_cases h3 : x = kM
  · rw [if_pos h3] at h; cases h; exact ⟨3, by rw [find_miss h0, find_miss h1, find_miss h2, ← h3, find_hit]; rfl⟩
  rw [if_neg h3] at h
  by_cases h4 : x = kX
  · rw [if_pos h4] at h; cases h; exact ⟨4, by rw [find_miss h0, find_miss h1, find_miss h2, find_miss h3, ← h4, find_hit]; rfl⟩
  rw [if_neg h4] at h; cases h
theorem find_none {x : ByteArray} (h : vbO x = none) : Instr.findNow .string (.string x) vEs.toList 0 = some none := by
  rw [vEs_list]
  unfold vbO at h
  unfold vE
  by_cases h0 : x = kJ
  · rw [if_pos h0] at h; cases h
  rw [if_neg h0] at h
  by_cases h1 : x = kC
  · rw [if_pos h1] at h; cases h
  rw [if_neg h1] at h
  by_cases h2 : x = kF
  · rw [if_pos h2] at h; cases h
  rw [if_neg h2] at h
  by_cases h3 : x = kM
  · rw [if_pos h3] at h; cases h
  rw [if_neg h3] at h
  by_cases h4 : x = kX
  · rw [if_pos h4] at h; cases h
  rw [find_miss h0, find_miss h1, find_miss h2, find_miss h3, find_miss h4]; rfl
theorem verb_zero : ∀ W : World, (zeroValue 57).run Tryz.prog W = .ok (.agg #[.int .i64 0, .nilFunc]) W := fun W => by kernel_rfl
theorem mget_some {W : World} {b c m k : Nat} {x : ByteArray} (hb : W.heap[b]? = some (.map vEs c)) (h : vbO x = some (m, k)) : (Instr.lookup 58 (.map (some b)) (.string x) true).run Tryz.prog W = .ok (.tuple #[.agg #[.int .i64 (m : Int), fnV k], .bool true]) W := by
  obtain ⟨i, hi⟩ := find_some h
  exact mget (z := .agg #[.int .i64 0, .nilFunc]) Tryz.underlying58 Tryz.underlying9 verb_zero hb hi
theorem mget_none {W : World} {b c : Nat} {x : ByteArray} (hb : W.heap[b]? = some (.map vEs c)) (h : vbO x = none) : (Instr.lookup 58 (.map (some b)) (.string x) true).run Tryz.prog W = .ok (.tuple #[.agg #[.int .i64 0, .nilFunc], .bool false]) W :=
  mget (z := .agg #[.int .i64 0, .nilFunc]) Tryz.underlying58 Tryz.underlying9 verb_zero hb (find_none h)
theorem vbO_cases {x : ByteArray} {m k : Nat} (h : vbO x = some (m, k)) : (m = 2 ∧ k = 0) ∨ (m = 2 ∧ k = 1) ∨ (m = 2 ∧ k = 2) ∨ (m = 0 ∧ k = 3) ∨ (m = 1 ∧ k = 4) := by
  unfold vbO at h
  split at h
  · cases h; simp
  split at h
  · cases h; simp
  split at h
  · cases h; simp
  split at h
  · cases h; simp
  split at h
  · cases h; simp
  cases h
def LnP (B g : Nat) (its1 its2 : List It) (r : ByteArray × BkT) (w : World) (e : Ending) (w' : World) : Prop :=
  ∃ gb', e = .returned (.string r.1) ∧ HP w' B (its1 ++ dkI g gb' r.2 its2) ∧ Below B w w' ∧ NC w w'
set_option maxHeartbeats 8000000 in
theorem dLine_okN {B g gb : Nat} {its1 its2 : List It} {b : BkT} {s : ByteArray} {r : ByteArray × BkT} (w : World) (hop : OpB B w) (htc : TyCell w) (h : HP w B (its1 ++ dkI g gb b its2)) (hB : B ≤ w.heap.size) (hgB : 1 < B) (hm : mAns b s = some r) :
    Calls Tryz.prog 9 #[.pointer (some ⟨g, 0, none⟩), .string s] w (LnP B g its1 its2 r w) := by
  unfold mAns at hm
  split at hm
  case isFalse => cases hm
  rename_i hss
  have hmm := @run_makeMap Tryz.prog
  have p1 : (Instr.mapUpdate 58 (.map (some w.heap.size)) (.string ⟨#[106, 111, 105, 110]⟩) (.agg #[.int .i64 2, .func (.func 17) #[] #[]])).run Tryz.prog (w.alloc (.map #[] 0)) = .ok () (w.alloc (.map #[vE kJ 2 17 0] 1)) :=
    mput_alloc Tryz.underlying58 Tryz.underlying9 (es := #[]) rfl
  have p2 : (Instr.mapUpdate 58 (.map (some w.heap.size)) (.string ⟨#[99, 117, 116]⟩) (.agg #[.int .i64 2, .func (.func 18) #[] #[]])).run Tryz.prog (w.alloc (.map #[vE kJ 2 17 0] 1)) = .ok () (w.alloc (.map #[vE kJ 2 17 0, vE kC 2 18 1] 2)) :=
    mput_alloc Tryz.underlying58 Tryz.underlying9 (es := #[vE kJ 2 17 0]) (by kernel_rfl)
  have p3 : (Instr.mapUpdate 58 (.map (some w.heap.size)) (.string ⟨#[102, 97, 114]⟩) (.agg #[.int .i64 2, .func (.func 19) #[] #[]])).run Tryz.prog (w.alloc (.map #[vE kJ 2 17 0, vE kC 2 18 1] 2)) = .ok () (w.alloc (.map #[vE kJ 2 17 0, vE kC 2 18 1, vE kF 2 19 2] 3)) :=
    mput_alloc Tryz.underlying58 Tryz.underlying9 (es := #[vE kJ 2 17 0, vE kC 2 18 1]) (by kernel_rfl)
  have p4 : (Instr.mapUpdate 58 (.map (some w.heap.size)) (.string ⟨#[109, 97, 110, 121]⟩) (.agg #[.int .i64 0, .func (.func 20) #[] #[]])).run Tryz.prog (w.alloc (.map #[vE kJ 2 17 0, vE kC 2 18 1, vE kF 2 19 2] 3)) = .ok () (w.alloc (.map #[vE kJ 2 17 0, vE kC 2 18 1, vE kF 2 19 2, vE kM 0 20 3] 4)) :=
    mput_alloc Tryz.underlying58 Tryz.underlying9 (es := #[vE kJ 2 17 0, vE kC 2 18 1, vE kF 2 19 2]) (by kernel_rfl)
  have p5 : (Instr.mapUpdate 58 (.map (some w.heap.size)) (.string ⟨#[99, 114, 97, 115, 104]⟩) (.agg #[.int .i64 1, .func (.func 21) #[] #[]])).run Tryz.prog (w.alloc (.map #[vE kJ 2 17 0, vE kC 2 18 1, vE kF 2 19 2, vE kM 0 20 3] 4)) = .ok () (w.alloc (.map vEs 5)) :=
    mput_alloc Tryz.underlying58 Tryz.underlying9 (es := #[vE kJ 2 17 0, vE kC 2 18 1, vE kF 2 19 2, vE kM 0 20 3]) (by kernel_rfl)
  have HOP := Lib.hid hop; have HTC := Lib.hid htc; have HOA := Lib.hid h; have HB := Lib.hid hB; have HG := Lib.hid hgB; have HM := Lib.hid hm
  clear hop htc h hB hgB hm
  go_enter Tryz.func9, Tryz.ntmps9
  go_upto_region 2 with (fail)
  have hb1 : (w.alloc (.map vEs 5)).heap[w.heap.size]? = some (.map vEs 5) := heap_alloc_new w _
  have hd : Below w.heap.size w (w.alloc (.map vEs 5)) := (Below.refl _ _).alloc (Nat.le_refl _) _
  replace HOA := Lib.hid (HOA.out.below hd)
  replace HOP := Lib.hid (HOP.out.go (hd.mono HB.out))
  replace HTC := Lib.hid (HTC.out.go hd)
  have HN := Lib.hid (NC.of_below hd)
  have HD := Lib.hid (hd.mono HB.out)
  replace HB := Lib.hid (Nat.le_trans HB.out hd.size); clear hd p1 p2 p3 p4 p5 hmm
  have HMB := Lib.hid hb1; clear hb1
  generalize hW1 : World.alloc w _ = W1 at *
  clear hW1
  generalize w.heap.size = mb at *
  go_wp2_with fail
  refine (splt_ok s ⟨#[32]⟩ W1 HOP.out (by omega) (by decide)).mono ?_; rintro e W3 ⟨rfl, hW3⟩
  have hlen : (wdsB s).length = Lib.countB s ⟨#[32]⟩ + 1 := Lib.splitB_all _ (by decide) 0 _ _ rfl
  have hcnt := Lib.countB_le ⟨#[32]⟩ (by decide) _ s (Nat.le_refl _)
  change W3 = W1.alloc (.cells ((wdsB s).map Value.string).toArray 9) at hW3
  have hsz : ∀ x ∈ wdsB s, x.size ≤ s.size := fun x hx => splitB_sz _ _ _ hx
  generalize hws : wdsB s = ws at *
  have ho : (owS (.slice (some ⟨W1.heap.size, 0, none⟩) ws.length ws.length) ws).ok W3 W1.heap.size := by
    rw [hW3]
    have := own_lit (w := W1) (base := W1.heap.size) (n := ws.length) (e := 9) (ws.map Value.string).toArray 1 (by simp) (Nat.le_refl _) (by unfold maxLen; omega)
    simp only [List.toList_toArray] at this
    exact this
  have hd : Below W1.heap.size W1 W3 := by rw [hW3]; exact (Below.refl _ _).alloc (Nat.le_refl _) _
  replace HMB := Lib.hid ((hd.block _ (Array.getElem?_eq_some_iff.1 HMB.out).1).trans HMB.out)
  replace HOA := Lib.hid (HOA.out.call hd HB.out ho); clear ho
  replace HOP := Lib.hid (HOP.out.go (hd.mono HB.out))
  replace HTC := Lib.hid (HTC.out.go hd)
  replace HN := Lib.hid (HN.out.trans (NC.of_below hd))
  replace HD := Lib.hid (HD.out.trans (hd.mono HB.out))
  replace HB := Lib.hid (Nat.le_trans HB.out hd.size); clear hd hW3
  generalize W1.heap.size = h at *
  rw [← hlen]
  obtain ⟨w0, tl, rfl⟩ : ∃ w0 tl, ws = w0 :: tl := by
    cases ws with
    | nil => simp at hlen
    | cons a t => exact ⟨a, t, rfl⟩
  rw [List.length_cons] at hlen ⊢
  have htl : tl.length < 1000000 := by omega
  have hxs : ∀ x ∈ tl, x.size ≤ 1000000 := fun x hx => by have := hsz x (List.mem_cons_of_mem _ hx); omega
  clear hlen hcnt hws hsz
  have hc0 := HP.strCell (i := 0) HOA.out (List.Mem.head _) rfl
  have hmv := HM.out
  change (match wdN tl [] with | none => some (badS, b) | some ns => mVerb b w0 ns) = some r at hmv
  replace HM := Lib.hid hmv; clear hmv
  have hone : (0 : Int) < ((tl.length + 1 : Nat) : Int) := by omega
  have hone2 : (1 : Int) ≤ ((tl.length + 1 : Nat) : Int) := by omega
  have hrdT : ∀ o : Nat, o = 1 → ∀ W, HP W B (.fl (owS (.slice (some ⟨h, 0, none⟩) (tl.length + 1) (tl.length + 1)) (w0 :: tl)) :: (its1 ++ dkI g gb b its2)) → tl ≠ [] → ReadsS W W.heap.size (some ⟨h, o, none⟩) tl := fun o ho W hp hne => by
    subst ho
    have hr := HP.rd_S hp (List.Mem.head _)
    obtain ⟨g', o', e, hb, hc⟩ := hr.2 (by rw [List.length_cons]; omega)
    cases e
    refine ⟨by simp [strV], fun _ => ⟨h, 1, rfl, hb, fun i x hx => ?_⟩⟩
    have := hc (i + 1) x (by simpa [strV] using hx)
    rw [show 0 + (i + 1) = 1 + i by omega] at this
    exact this
  have HRT := Lib.hid hrdT; clear hrdT
  generalize hwn : wdN tl [] = wn at *
  have HWN := Lib.hid hwn; clear hwn
  rcases hv : vbO w0 with _ | ⟨m, k⟩
  · have hlk := mget_none HMB.out hv
    have hd4 : Below W3.heap.size W3 (W3.alloc (.cells #[.int .i64 0, .nilFunc] 57)) := (Below.refl _ _).alloc (Nat.le_refl _) _
    have hv0 : (W3.alloc (.cells #[.int .i64 0, .nilFunc] 57)).cell? ⟨W3.heap.size, 0, none⟩ = some (.int .i64 0) := (Lib.cell_of_heap (heap_alloc_new W3 _) 0).trans rfl
    have hv1 : (W3.alloc (.cells #[.int .i64 0, .nilFunc] 57)).cell? ⟨W3.heap.size, 1, none⟩ = some (.nilFunc) := (Lib.cell_of_heap (heap_alloc_new W3 _) 1).trans rfl
    have hvl : W3.heap.size < (W3.alloc (.cells #[.int .i64 0, .nilFunc] 57)).heap.size := by simp
    replace HOA := Lib.hid (HOA.out.below hd4)
    replace HOP := Lib.hid (HOP.out.go (hd4.mono HB.out))
    replace HTC := Lib.hid (HTC.out.go hd4)
    replace HN := Lib.hid (HN.out.trans (NC.of_below hd4))
    replace HD := Lib.hid (HD.out.trans (hd4.mono HB.out))
    replace HB := Lib.hid (Nat.le_trans HB.out hd4.size); clear hd4
    by_cases hne : tl = []
    · subst hne
      have HWD := Lib.hid (words_ok (A := some ⟨h, 0, none⟩) (cap := 0) (l := []) _ HOP.out HB.out readsS_nil htl hxs)
      have HV := Lib.hid (And.intro hv0 (And.intro hv1 hvl)); clear hv0 hv1 hvl HRT hxs
      go_wp2_with fail
      generalize hgv : W3.heap.size = gv at *
      generalize hW4 : World.alloc W3 _ = W4 at *
      clear hW4 hgv
      refine HWD.out.mono ?_; rintro e W5 ⟨hd, hres⟩
      have hm0 := HM.out
      have v0 := (hd.cell (p := ⟨gv, 0, none⟩) HV.out.2.2).trans HV.out.1
      have v1 := (hd.cell (p := ⟨gv, 1, none⟩) HV.out.2.2).trans HV.out.2.1
      replace HOP := Lib.hid (HOP.out.go (hd.mono HB.out))
      replace HTC := Lib.hid (HTC.out.go hd)
      replace HN := Lib.hid (HN.out.trans (NC.of_below hd))
      replace HD := Lib.hid (HD.out.trans (hd.mono HB.out))
      rcases hres with ⟨hn, rfl⟩ | ⟨V, ns, hn, rfl, ho⟩
      · replace hn := HWN.out.symm.trans hn
        rw [hn] at hm0
        obtain rfl := Option.some.inj hm0
        replace HOA := Lib.hid (HOA.out.below hd)
        clear hm0 hn hd HWD HM
        go_wp2_with fail
        go_ret
        unfold LnP
        exact ⟨gb, rfl, HOA.out.sub (.cons _ (List.Sublist.refl _)), HD.out, HN.out⟩
      · replace hn := HWN.out.symm.trans hn
        rw [hn] at hm0
        replace hm0 : mVerb b w0 ns = some r := hm0
        unfold mVerb at hm0
        rw [hv] at hm0
        replace HOA := Lib.hid (HOA.out.call hd HB.out ho)
        replace HB := Lib.hid (Nat.le_trans HB.out hd.size)
        obtain ⟨A5, cap5, hV, _⟩ := HP.open_I HOA.out (List.Mem.head _)
        subst hV
        clear hn hd ho HWD HM
        obtain rfl := Option.some.inj hm0
        clear hm0
        go_wp2_with fail
        go_ret
        unfold LnP
        exact ⟨gb, rfl, HOA.out.sub (.cons _ (.cons _ (List.Sublist.refl _))), HD.out, HN.out⟩
    · have HWD := Lib.hid (words_ok (A := some ⟨h, 1, none⟩) (cap := tl.length) (l := tl) _ HOP.out HB.out (HRT.out 1 rfl _ HOA.out hne) htl hxs)
      have HV := Lib.hid (And.intro hv0 (And.intro hv1 hvl)); clear hv0 hv1 hvl HRT hxs
      go_wp2_with fail
      generalize hgv : W3.heap.size = gv at *
      generalize hW4 : World.alloc W3 _ = W4 at *
      clear hW4 hgv
      refine HWD.out.mono ?_; rintro e W5 ⟨hd, hres⟩
      have hm0 := HM.out
      have v0 := (hd.cell (p := ⟨gv, 0, none⟩) HV.out.2.2).trans HV.out.1
      have v1 := (hd.cell (p := ⟨gv, 1, none⟩) HV.out.2.2).trans HV.out.2.1
      replace HOP := Lib.hid (HOP.out.go (hd.mono HB.out))
      replace HTC := Lib.hid (HTC.out.go hd)
      replace HN := Lib.hid (HN.out.trans (NC.of_below hd))
      replace HD := Lib.hid (HD.out.trans (hd.mono HB.out))
      rcases hres with ⟨hn, rfl⟩ | ⟨V, ns, hn, rfl, ho⟩
      · replace hn := HWN.out.symm.trans hn
        rw [hn] at hm0
        obtain rfl := Option.some.inj hm0
        replace HOA := Lib.hid (HOA.out.below hd)
        clear hm0 hn hd HWD HM
        go_wp2_with fail
        go_ret
        unfold LnP
        exact ⟨gb, rfl, HOA.out.sub (.cons _ (List.Sublist.refl _)), HD.out, HN.out⟩
      · replace hn := HWN.out.symm.trans hn
        rw [hn] at hm0
        replace hm0 : mVerb b w0 ns = some r := hm0
        unfold mVerb at hm0
        rw [hv] at hm0
        replace HOA := Lib.hid (HOA.out.call hd HB.out ho)
        replace HB := Lib.hid (Nat.le_trans HB.out hd.size)
        obtain ⟨A5, cap5, hV, _⟩ := HP.open_I HOA.out (List.Mem.head _)
        subst hV
        clear hn hd ho HWD HM
        obtain rfl := Option.some.inj hm0
        clear hm0
        go_wp2_with fail
        go_ret
        unfold LnP
        exact ⟨gb, rfl, HOA.out.sub (.cons _ (.cons _ (List.Sublist.refl _))), HD.out, HN.out⟩

  · have hlk := mget_some HMB.out hv
    obtain ⟨fk, hfk⟩ : ∃ fk, fnV k = .func (.func fk) #[] #[] := ⟨_, rfl⟩
    rw [hfk] at hlk
    have HFK := Lib.hid hfk; clear hfk
    have hd4 : Below W3.heap.size W3 (W3.alloc (.cells #[.int .i64 (m : Int), .func (.func fk) #[] #[]] 57)) := (Below.refl _ _).alloc (Nat.le_refl _) _
    have hv0 : (W3.alloc (.cells #[.int .i64 (m : Int), .func (.func fk) #[] #[]] 57)).cell? ⟨W3.heap.size, 0, none⟩ = some (.int .i64 (m : Int)) := (Lib.cell_of_heap (heap_alloc_new W3 _) 0).trans rfl
    have hv1 : (W3.alloc (.cells #[.int .i64 (m : Int), .func (.func fk) #[] #[]] 57)).cell? ⟨W3.heap.size, 1, none⟩ = some (.func (.func fk) #[] #[]) := (Lib.cell_of_heap (heap_alloc_new W3 _) 1).trans rfl
    have hvl : W3.heap.size < (W3.alloc (.cells #[.int .i64 (m : Int), .func (.func fk) #[] #[]] 57)).heap.size := by simp
    replace HOA := Lib.hid (HOA.out.below hd4)
    replace HOP := Lib.hid (HOP.out.go (hd4.mono HB.out))
    replace HTC := Lib.hid (HTC.out.go hd4)
    replace HN := Lib.hid (HN.out.trans (NC.of_below hd4))
    replace HD := Lib.hid (HD.out.trans (hd4.mono HB.out))
    replace HB := Lib.hid (Nat.le_trans HB.out hd4.size); clear hd4
    by_cases hne : tl = []
    · subst hne
      have HWD := Lib.hid (words_ok (A := some ⟨h, 0, none⟩) (cap := 0) (l := []) _ HOP.out HB.out readsS_nil htl hxs)
      have HV := Lib.hid (And.intro hv0 (And.intro hv1 hvl)); clear hv0 hv1 hvl HRT hxs
      go_wp2_with fail
      generalize hgv : W3.heap.size = gv at *
      generalize hW4 : World.alloc W3 _ = W4 at *
      clear hW4 hgv
      refine HWD.out.mono ?_; rintro e W5 ⟨hd, hres⟩
      have hm0 := HM.out
      have v0 := (hd.cell (p := ⟨gv, 0, none⟩) HV.out.2.2).trans HV.out.1
      have v1 := (hd.cell (p := ⟨gv, 1, none⟩) HV.out.2.2).trans HV.out.2.1
      replace HOP := Lib.hid (HOP.out.go (hd.mono HB.out))
      replace HTC := Lib.hid (HTC.out.go hd)
      replace HN := Lib.hid (HN.out.trans (NC.of_below hd))
      replace HD := Lib.hid (HD.out.trans (hd.mono HB.out))
      rcases hres with ⟨hn, rfl⟩ | ⟨V, ns, hn, rfl, ho⟩
      · replace hn := HWN.out.symm.trans hn
        rw [hn] at hm0
        obtain rfl := Option.some.inj hm0
        replace HOA := Lib.hid (HOA.out.below hd)
        clear hm0 hn hd HWD HM
        go_wp2_with fail
        go_ret
        unfold LnP
        exact ⟨gb, rfl, HOA.out.sub (.cons _ (List.Sublist.refl _)), HD.out, HN.out⟩
      · replace hn := HWN.out.symm.trans hn
        rw [hn] at hm0
        replace hm0 : mVerb b w0 ns = some r := hm0
        unfold mVerb at hm0
        rw [hv] at hm0
        replace HOA := Lib.hid (HOA.out.call hd HB.out ho)
        replace HB := Lib.hid (Nat.le_trans HB.out hd.size)
        obtain ⟨A5, cap5, hV, _⟩ := HP.open_I HOA.out (List.Mem.head _)
        subst hV
        clear hn hd ho HWD HM
        have hmk : (m = 2 ∧ k = 0) ∨ (m = 2 ∧ k = 1) ∨ (m = 2 ∧ k = 2) ∨ (m = 0 ∧ k = 3) ∨ (m = 1 ∧ k = 4) := vbO_cases hv
        clear hv hlk
        rcases hmk with ⟨rfl, rfl⟩ | ⟨rfl, rfl⟩ | ⟨rfl, rfl⟩ | ⟨rfl, rfl⟩ | ⟨rfl, rfl⟩
        · -- verb 0
          replace hm0 : (if ns.length = 2 then vAct b 0 ns else some (badS, b)) = some r := hm0
          replace v1 : W5.cell? ⟨gv, 1, none⟩ = some (.func (.func 17) #[] #[]) := v1.trans (congrArg some (HFK.out.symm.trans (by unfold fnV; rfl)))
          by_cases hlen : ns.length = 2
          case neg =>
            rw [if_neg hlen] at hm0
            obtain rfl := Option.some.inj hm0
            have hnb : (((ns.length : Nat) : Int) != 2) = true := by rw [bne_iff_ne]; exact fun q => hlen (by omega)
            clear hm0 hlen
            go_wp2_with fail
            go_ret
            unfold LnP
            exact ⟨gb, rfl, HOA.out.sub (.cons _ (.cons _ (List.Sublist.refl _))), HD.out, HN.out⟩
          rw [if_pos hlen] at hm0
          have hnb : (((ns.length : Nat) : Int) != 2) = false := by rw [hlen]; rfl
          unfold vAct at hm0
          rw [if_pos rfl] at hm0
          obtain ⟨q, hq, hm0⟩ := obind hm0
          obtain ⟨hqe, rfl⟩ := chkO_some hm0
          obtain ⟨n0, n1, rfl⟩ : ∃ n0 n1, ns = [n0, n1] := by
            match ns, hlen with
            | [a, c], _ => exact ⟨a, c, rfl⟩
          replace hq : mJoin b n0 n1 = some q := hq
          have HC := Lib.hid (dJoin_okN (its1 := .fl (owI _ _) :: .fl (owS _ _) :: its1) W5 HOP.out.tab HTC.out HOA.out HB.out HG.out (HP.rd_I HOA.out (List.Mem.head _)) hq hqe (cap := cap5))
          clear hq hm0 hqe hlen
          go_wp2_with fail
          refine HC.out.mono ?_; rintro e W6 ⟨rfl, hp, hd, hn⟩
          replace HOA := Lib.hid hp; replace HD := Lib.hid (HD.out.trans hd); replace HN := Lib.hid (HN.out.trans hn); clear hp hd hn HC
          go_wp2_with fail
          go_ret
          unfold LnP
          exact ⟨gb, rfl, HOA.out.sub (.cons _ (.cons _ (List.Sublist.refl _))), HD.out, HN.out⟩
        · -- verb 1
          replace hm0 : (if ns.length = 2 then vAct b 1 ns else some (badS, b)) = some r := hm0
          replace v1 : W5.cell? ⟨gv, 1, none⟩ = some (.func (.func 18) #[] #[]) := v1.trans (congrArg some (HFK.out.symm.trans (by unfold fnV; rfl)))
          by_cases hlen : ns.length = 2
          case neg =>
            rw [if_neg hlen] at hm0
            obtain rfl := Option.some.inj hm0
            have hnb : (((ns.length : Nat) : Int) != 2) = true := by rw [bne_iff_ne]; exact fun q => hlen (by omega)
            clear hm0 hlen
            go_wp2_with fail
            go_ret
            unfold LnP
            exact ⟨gb, rfl, HOA.out.sub (.cons _ (.cons _ (List.Sublist.refl _))), HD.out, HN.out⟩
          rw [if_pos hlen] at hm0
          have hnb : (((ns.length : Nat) : Int) != 2) = false := by rw [hlen]; rfl
          unfold vAct at hm0
          rw [if_neg (by decide)] at hm0
          rw [if_pos rfl] at hm0
          obtain ⟨q, hq, hm0⟩ := obind hm0
          obtain ⟨hqe, rfl⟩ := chkO_some hm0
          obtain ⟨n0, n1, rfl⟩ : ∃ n0 n1, ns = [n0, n1] := by
            match ns, hlen with
            | [a, c], _ => exact ⟨a, c, rfl⟩
          replace hq : mCut b n0 n1 = some q := hq
          have HC := Lib.hid (dCut_okN (its1 := .fl (owI _ _) :: .fl (owS _ _) :: its1) W5 HOP.out.tab HTC.out HOA.out HB.out HG.out (HP.rd_I HOA.out (List.Mem.head _)) hq hqe (cap := cap5))
          clear hq hm0 hqe hlen
          go_wp2_with fail
          refine HC.out.mono ?_; rintro e W6 ⟨rfl, hp, hd, hn⟩
          replace HOA := Lib.hid hp; replace HD := Lib.hid (HD.out.trans hd); replace HN := Lib.hid (HN.out.trans hn); clear hp hd hn HC
          go_wp2_with fail
          go_ret
          unfold LnP
          exact ⟨gb, rfl, HOA.out.sub (.cons _ (.cons _ (List.Sublist.refl _))), HD.out, HN.out⟩
        · -- verb 2
          replace hm0 : (if ns.length = 2 then vAct b 2 ns else some (badS, b)) = some r := hm0
          replace v1 : W5.cell? ⟨gv, 1, none⟩ = some (.func (.func 19) #[] #[]) := v1.trans (congrArg some (HFK.out.symm.trans (by unfold fnV; rfl)))
          by_cases hlen : ns.length = 2
          case neg =>
            rw [if_neg hlen] at hm0
            obtain rfl := Option.some.inj hm0
            have hnb : (((ns.length : Nat) : Int) != 2) = true := by rw [bne_iff_ne]; exact fun q => hlen (by omega)
            clear hm0 hlen
            go_wp2_with fail
            go_ret
            unfold LnP
            exact ⟨gb, rfl, HOA.out.sub (.cons _ (.cons _ (List.Sublist.refl _))), HD.out, HN.out⟩
          rw [if_pos hlen] at hm0
          have hnb : (((ns.length : Nat) : Int) != 2) = false := by rw [hlen]; rfl
          unfold vAct at hm0
          rw [if_neg (by decide)] at hm0
          rw [if_neg (by decide)] at hm0
          rw [if_pos rfl] at hm0
          obtain ⟨q, hq, hm0⟩ := obind hm0
          obtain ⟨hqe, rfl⟩ := chkO_some hm0
          obtain ⟨n0, n1, rfl⟩ : ∃ n0 n1, ns = [n0, n1] := by
            match ns, hlen with
            | [a, c], _ => exact ⟨a, c, rfl⟩
          replace hq : brambleweir_book_Book_Far 300 b.1 n0 n1 = some q := hq
          have HC := Lib.hid (dFar_okN (its1 := .fl (owI _ _) :: .fl (owS _ _) :: its1) W5 HOP.out.tab HTC.out HOA.out HB.out (HP.rd_I HOA.out (List.Mem.head _)) hq hqe (cap := cap5))
          clear hq hm0 hqe hlen
          go_wp2_with fail
          refine HC.out.mono ?_; rintro e W6 ⟨rfl, hd⟩
          replace HOA := Lib.hid (HOA.out.below hd); replace HN := Lib.hid (HN.out.trans (NC.of_below hd)); replace HD := Lib.hid (HD.out.trans (hd.mono HB.out)); clear hd HC
          go_wp2_with fail
          go_ret
          unfold LnP
          exact ⟨gb, rfl, HOA.out.sub (.cons _ (.cons _ (List.Sublist.refl _))), HD.out, HN.out⟩
        · -- verb 3
          replace hm0 : (if ns.length = 0 then vAct b 3 ns else some (badS, b)) = some r := hm0
          replace v1 : W5.cell? ⟨gv, 1, none⟩ = some (.func (.func 20) #[] #[]) := v1.trans (congrArg some (HFK.out.symm.trans (by unfold fnV; rfl)))
          by_cases hlen : ns.length = 0
          case neg =>
            rw [if_neg hlen] at hm0
            obtain rfl := Option.some.inj hm0
            have hnb : (((ns.length : Nat) : Int) != 0) = true := by rw [bne_iff_ne]; exact fun q => hlen (by omega)
            clear hm0 hlen
            go_wp2_with fail
            go_ret
            unfold LnP
            exact ⟨gb, rfl, HOA.out.sub (.cons _ (.cons _ (List.Sublist.refl _))), HD.out, HN.out⟩
          rw [if_pos hlen] at hm0
          have hnb : (((ns.length : Nat) : Int) != 0) = false := by rw [hlen]; rfl
          unfold vAct at hm0
          rw [if_neg (by decide)] at hm0
          rw [if_neg (by decide)] at hm0
          rw [if_neg (by decide)] at hm0
          rw [if_pos rfl] at hm0
          obtain ⟨q, hq, hm0⟩ := obind hm0
          obtain ⟨hqe, rfl⟩ := chkO_some hm0
          have HC := Lib.hid (dMany_okN (n := 0) (its1 := .fl (owI _ _) :: .fl (owS _ _) :: its1) W5 HOP.out.tab HOA.out HB.out hq hqe (.slice A5 ns.length cap5))
          obtain rfl : ns = [] := List.eq_nil_of_length_eq_zero hlen
          clear hq hm0 hqe hlen
          go_wp2_with fail
          refine HC.out.mono ?_; rintro e W6 ⟨rfl, hd⟩
          replace HOA := Lib.hid (HOA.out.below hd); replace HN := Lib.hid (HN.out.trans (NC.of_below hd)); replace HD := Lib.hid (HD.out.trans (hd.mono HB.out)); clear hd HC
          go_wp2_with fail
          go_ret
          unfold LnP
          exact ⟨gb, rfl, HOA.out.sub (.cons _ (.cons _ (List.Sublist.refl _))), HD.out, HN.out⟩
        · -- verb 4
          replace hm0 : (if ns.length = 1 then vAct b 4 ns else some (badS, b)) = some r := hm0
          replace v1 : W5.cell? ⟨gv, 1, none⟩ = some (.func (.func 21) #[] #[]) := v1.trans (congrArg some (HFK.out.symm.trans (by unfold fnV; rfl)))
          by_cases hlen : ns.length = 1
          case neg =>
            rw [if_neg hlen] at hm0
            obtain rfl := Option.some.inj hm0
            have hnb : (((ns.length : Nat) : Int) != 1) = true := by rw [bne_iff_ne]; exact fun q => hlen (by omega)
            clear hm0 hlen
            go_wp2_with fail
            go_ret
            unfold LnP
            exact ⟨gb, rfl, HOA.out.sub (.cons _ (.cons _ (List.Sublist.refl _))), HD.out, HN.out⟩
          rw [if_pos hlen] at hm0
          have hnb : (((ns.length : Nat) : Int) != 1) = false := by rw [hlen]; rfl
          unfold vAct at hm0
          rw [if_neg (by decide)] at hm0
          rw [if_neg (by decide)] at hm0
          rw [if_neg (by decide)] at hm0
          rw [if_neg (by decide)] at hm0
          obtain ⟨n0, rfl⟩ : ∃ n0, ns = [n0] := by
            match ns, hlen with
            | [a], _ => exact ⟨a, rfl⟩
          replace hm0 : (if 0 ≤ n0 ∧ b.2.1.size ≤ 1000000 then (mOpen (b.2.1.extract 0 (min n0 (b.2.1.size : Int)).toNat)).bind fun r => chkO ((0 ≤ r.1 ∧ r.1 ≤ 6) ∧ 0 ≤ r.2.1 ∧ r.2.1 ≤ 1000000) (if r.1 = 0 then fndS r.2.1 else tld r.1, if r.1 = 0 then r.2.2 else b) else none) = some r := hm0
          split at hm0
          case isFalse => cases hm0
          rename_i hcnd
          obtain ⟨q, hq, hm0⟩ := obind hm0
          obtain ⟨hqe, hrr⟩ := chkO_some hm0
          have HRR := Lib.hid hrr
          have HC := Lib.hid (dCrash_okN (its1 := .fl (owI _ _) :: .fl (owS _ _) :: its1) W5 HOP.out HTC.out HOA.out HB.out HG.out (List.Mem.head _) hcnd.1 hcnd.2 hq hqe (cap := cap5))
          clear hq hm0 hqe hlen hcnd hrr
          go_wp2_with fail
          refine HC.out.mono ?_; rintro e W6 hcr
          unfold CrP at hcr
          obtain ⟨gb', he, hp, hd, hn⟩ := hcr
          have h1 := congrArg Prod.fst HRR.out
          have h2 := congrArg Prod.snd HRR.out
          dsimp only at h1 h2
          rw [h1] at he
          rw [h2] at hp
          subst he
          have HP6 := Lib.hid hp; replace HD := Lib.hid (HD.out.trans hd); replace HN := Lib.hid (HN.out.trans hn); clear hp hd hn HC HRR h1 h2
          go_wp2_with fail
          go_ret
          unfold LnP
          exact ⟨gb', rfl, HP6.out.sub (.cons _ (.cons _ (List.Sublist.refl _))), HD.out, HN.out⟩
    · have HWD := Lib.hid (words_ok (A := some ⟨h, 1, none⟩) (cap := tl.length) (l := tl) _ HOP.out HB.out (HRT.out 1 rfl _ HOA.out hne) htl hxs)
      have HV := Lib.hid (And.intro hv0 (And.intro hv1 hvl)); clear hv0 hv1 hvl HRT hxs
      go_wp2_with fail
      generalize hgv : W3.heap.size = gv at *
      generalize hW4 : World.alloc W3 _ = W4 at *
      clear hW4 hgv
      refine HWD.out.mono ?_; rintro e W5 ⟨hd, hres⟩
      have hm0 := HM.out
      have v0 := (hd.cell (p := ⟨gv, 0, none⟩) HV.out.2.2).trans HV.out.1
      have v1 := (hd.cell (p := ⟨gv, 1, none⟩) HV.out.2.2).trans HV.out.2.1
      replace HOP := Lib.hid (HOP.out.go (hd.mono HB.out))
      replace HTC := Lib.hid (HTC.out.go hd)
      replace HN := Lib.hid (HN.out.trans (NC.of_below hd))
      replace HD := Lib.hid (HD.out.trans (hd.mono HB.out))
      rcases hres with ⟨hn, rfl⟩ | ⟨V, ns, hn, rfl, ho⟩
      · replace hn := HWN.out.symm.trans hn
        rw [hn] at hm0
        obtain rfl := Option.some.inj hm0
        replace HOA := Lib.hid (HOA.out.below hd)
        clear hm0 hn hd HWD HM
        go_wp2_with fail
        go_ret
        unfold LnP
        exact ⟨gb, rfl, HOA.out.sub (.cons _ (List.Sublist.refl _)), HD.out, HN.out⟩
      · replace hn := HWN.out.symm.trans hn
        rw [hn] at hm0
        replace hm0 : mVerb b w0 ns = some r := hm0
        unfold mVerb at hm0
        rw [hv] at hm0
        replace HOA := Lib.hid (HOA.out.call hd HB.out ho)
        replace HB := Lib.hid (Nat.le_trans HB.out hd.size)
        obtain ⟨A5, cap5, hV, _⟩ := HP.open_I HOA.out (List.Mem.head _)
        subst hV
        clear hn hd ho HWD HM
        have hmk : (m = 2 ∧ k = 0) ∨ (m = 2 ∧ k = 1) ∨ (m = 2 ∧ k = 2) ∨ (m = 0 ∧ k = 3) ∨ (m = 1 ∧ k = 4) := vbO_cases hv
        clear hv hlk
        rcases hmk with ⟨rfl, rfl⟩ | ⟨rfl, rfl⟩ | ⟨rfl, rfl⟩ | ⟨rfl, rfl⟩ | ⟨rfl, rfl⟩
        · -- verb 0
          replace hm0 : (if ns.length = 2 then vAct b 0 ns else some (badS, b)) = some r := hm0
          replace v1 : W5.cell? ⟨gv, 1, none⟩ = some (.func (.func 17) #[] #[]) := v1.trans (congrArg some (HFK.out.symm.trans (by unfold fnV; rfl)))
          by_cases hlen : ns.length = 2
          case neg =>
            rw [if_neg hlen] at hm0
            obtain rfl := Option.some.inj hm0
            have hnb : (((ns.length : Nat) : Int) != 2) = true := by rw [bne_iff_ne]; exact fun q => hlen (by omega)
            clear hm0 hlen
            go_wp2_with fail
            go_ret
            unfold LnP
            exact ⟨gb, rfl, HOA.out.sub (.cons _ (.cons _ (List.Sublist.refl _))), HD.out, HN.out⟩
          rw [if_pos hlen] at hm0
          have hnb : (((ns.length : Nat) : Int) != 2) = false := by rw [hlen]; rfl
          unfold vAct at hm0
          rw [if_pos rfl] at hm0
          obtain ⟨q, hq, hm0⟩ := obind hm0
          obtain ⟨hqe, rfl⟩ := chkO_some hm0
          obtain ⟨n0, n1, rfl⟩ : ∃ n0 n1, ns = [n0, n1] := by
            match ns, hlen with
            | [a, c], _ => exact ⟨a, c, rfl⟩
          replace hq : mJoin b n0 n1 = some q := hq
          have HC := Lib.hid (dJoin_okN (its1 := .fl (owI _ _) :: .fl (owS _ _) :: its1) W5 HOP.out.tab HTC.out HOA.out HB.out HG.out (HP.rd_I HOA.out (List.Mem.head _)) hq hqe (cap := cap5))
          clear hq hm0 hqe hlen
          go_wp2_with fail
          refine HC.out.mono ?_; rintro e W6 ⟨rfl, hp, hd, hn⟩
          replace HOA := Lib.hid hp; replace HD := Lib.hid (HD.out.trans hd); replace HN := Lib.hid (HN.out.trans hn); clear hp hd hn HC
          go_wp2_with fail
          go_ret
          unfold LnP
          exact ⟨gb, rfl, HOA.out.sub (.cons _ (.cons _ (List.Sublist.refl _))), HD.out, HN.out⟩
        · -- verb 1
          replace hm0 : (if ns.length = 2 then vAct b 1 ns else some (badS, b)) = some r := hm0
          replace v1 : W5.cell? ⟨gv, 1, none⟩ = some (.func (.func 18) #[] #[]) := v1.trans (congrArg some (HFK.out.symm.trans (by unfold fnV; rfl)))
          by_cases hlen : ns.length = 2
          case neg =>
            rw [if_neg hlen] at hm0
            obtain rfl := Option.some.inj hm0
            have hnb : (((ns.length : Nat) : Int) != 2) = true := by rw [bne_iff_ne]; exact fun q => hlen (by omega)
            clear hm0 hlen
            go_wp2_with fail
            go_ret
            unfold LnP
            exact ⟨gb, rfl, HOA.out.sub (.cons _ (.cons _ (List.Sublist.refl _))), HD.out, HN.out⟩
          rw [if_pos hlen] at hm0
          have hnb : (((ns.length : Nat) : Int) != 2) = false := by rw [hlen]; rfl
          unfold vAct at hm0
          rw [if_neg (by decide)] at hm0
          rw [if_pos rfl] at hm0
          obtain ⟨q, hq, hm0⟩ := obind hm0
          obtain ⟨hqe, rfl⟩ := chkO_some hm0
          obtain ⟨n0, n1, rfl⟩ : ∃ n0 n1, ns = [n0, n1] := by
            match ns, hlen with
            | [a, c], _ => exact ⟨a, c, rfl⟩
          replace hq : mCut b n0 n1 = some q := hq
          have HC := Lib.hid (dCut_okN (its1 := .fl (owI _ _) :: .fl (owS _ _) :: its1) W5 HOP.out.tab HTC.out HOA.out HB.out HG.out (HP.rd_I HOA.out (List.Mem.head _)) hq hqe (cap := cap5))
          clear hq hm0 hqe hlen
          go_wp2_with fail
          refine HC.out.mono ?_; rintro e W6 ⟨rfl, hp, hd, hn⟩
          replace HOA := Lib.hid hp; replace HD := Lib.hid (HD.out.trans hd); replace HN := Lib.hid (HN.out.trans hn); clear hp hd hn HC
          go_wp2_with fail
          go_ret
          unfold LnP
          exact ⟨gb, rfl, HOA.out.sub (.cons _ (.cons _ (List.Sublist.refl _))), HD.out, HN.out⟩
        · -- verb 2
          replace hm0 : (if ns.length = 2 then vAct b 2 ns else some (badS, b)) = some r := hm0
          replace v1 : W5.cell? ⟨gv, 1, none⟩ = some (.func (.func 19) #[] #[]) := v1.trans (congrArg some (HFK.out.symm.trans (by unfold fnV; rfl)))
          by_cases hlen : ns.length = 2
          case neg =>
            rw [if_neg hlen] at hm0
            obtain rfl := Option.some.inj hm0
            have hnb : (((ns.length : Nat) : Int) != 2) = true := by rw [bne_iff_ne]; exact fun q => hlen (by omega)
            clear hm0 hlen
            go_wp2_with fail
            go_ret
            unfold LnP
            exact ⟨gb, rfl, HOA.out.sub (.cons _ (.cons _ (List.Sublist.refl _))), HD.out, HN.out⟩
          rw [if_pos hlen] at hm0
          have hnb : (((ns.length : Nat) : Int) != 2) = false := by rw [hlen]; rfl
          unfold vAct at hm0
          rw [if_neg (by decide)] at hm0
          rw [if_neg (by decide)] at hm0
          rw [if_pos rfl] at hm0
          obtain ⟨q, hq, hm0⟩ := obind hm0
          obtain ⟨hqe, rfl⟩ := chkO_some hm0
          obtain ⟨n0, n1, rfl⟩ : ∃ n0 n1, ns = [n0, n1] := by
            match ns, hlen with
            | [a, c], _ => exact ⟨a, c, rfl⟩
          replace hq : brambleweir_book_Book_Far 300 b.1 n0 n1 = some q := hq
          have HC := Lib.hid (dFar_okN (its1 := .fl (owI _ _) :: .fl (owS _ _) :: its1) W5 HOP.out.tab HTC.out HOA.out HB.out (HP.rd_I HOA.out (List.Mem.head _)) hq hqe (cap := cap5))
          clear hq hm0 hqe hlen
          go_wp2_with fail
          refine HC.out.mono ?_; rintro e W6 ⟨rfl, hd⟩
          replace HOA := Lib.hid (HOA.out.below hd); replace HN := Lib.hid (HN.out.trans (NC.of_below hd)); replace HD := Lib.hid (HD.out.trans (hd.mono HB.out)); clear hd HC
          go_wp2_with fail
          go_ret
          unfold LnP
          exact ⟨gb, rfl, HOA.out.sub (.cons _ (.cons _ (List.Sublist.refl _))), HD.out, HN.out⟩
        · -- verb 3
          replace hm0 : (if ns.length = 0 then vAct b 3 ns else some (badS, b)) = some r := hm0
          replace v1 : W5.cell? ⟨gv, 1, none⟩ = some (.func (.func 20) #[] #[]) := v1.trans (congrArg some (HFK.out.symm.trans (by unfold fnV; rfl)))
          by_cases hlen : ns.length = 0
          case neg =>
            rw [if_neg hlen] at hm0
            obtain rfl := Option.some.inj hm0
            have hnb : (((ns.length : Nat) : Int) != 0) = true := by rw [bne_iff_ne]; exact fun q => hlen (by omega)
            clear hm0 hlen
            go_wp2_with fail
            go_ret
            unfold LnP
            exact ⟨gb, rfl, HOA.out.sub (.cons _ (.cons _ (List.Sublist.refl _))), HD.out, HN.out⟩
          rw [if_pos hlen] at hm0
          have hnb : (((ns.length : Nat) : Int) != 0) = false := by rw [hlen]; rfl
          unfold vAct at hm0
          rw [if_neg (by decide)] at hm0
          rw [if_neg (by decide)] at hm0
          rw [if_neg (by decide)] at hm0
          rw [if_pos rfl] at hm0
          obtain ⟨q, hq, hm0⟩ := obind hm0
          obtain ⟨hqe, rfl⟩ := chkO_some hm0
          have HC := Lib.hid (dMany_okN (n := 0) (its1 := .fl (owI _ _) :: .fl (owS _ _) :: its1) W5 HOP.out.tab HOA.out HB.out hq hqe (.slice A5 ns.length cap5))
          obtain rfl : ns = [] := List.eq_nil_of_length_eq_zero hlen
          clear hq hm0 hqe hlen
          go_wp2_with fail
          refine HC.out.mono ?_; rintro e W6 ⟨rfl, hd⟩
          replace HOA := Lib.hid (HOA.out.below hd); replace HN := Lib.hid (HN.out.trans (NC.of_below hd)); replace HD := Lib.hid (HD.out.trans (hd.mono HB.out)); clear hd HC
          go_wp2_with fail
          go_ret
          unfold LnP
          exact ⟨gb, rfl, HOA.out.sub (.cons _ (.cons _ (List.Sublist.refl _))), HD.out, HN.out⟩
        · -- verb 4
          replace hm0 : (if ns.length = 1 then vAct b 4 ns else some (badS, b)) = some r := hm0
          replace v1 : W5.cell? ⟨gv, 1, none⟩ = some (.func (.func 21) #[] #[]) := v1.trans (congrArg some (HFK.out.symm.trans (by unfold fnV; rfl)))
          by_cases hlen : ns.length = 1
          case neg =>
            rw [if_neg hlen] at hm0
            obtain rfl := Option.some.inj hm0
            have hnb : (((ns.length : Nat) : Int) != 1) = true := by rw [bne_iff_ne]; exact fun q => hlen (by omega)
            clear hm0 hlen
            go_wp2_with fail
            go_ret
            unfold LnP
            exact ⟨gb, rfl, HOA.out.sub (.cons _ (.cons _ (List.Sublist.refl _))), HD.out, HN.out⟩
          rw [if_pos hlen] at hm0
          have hnb : (((ns.length : Nat) : Int) != 1) = false := by rw [hlen]; rfl
          unfold vAct at hm0
          rw [if_neg (by decide)] at hm0
          rw [if_neg (by decide)] at hm0
          rw [if_neg (by decide)] at hm0
          rw [if_neg (by decide)] at hm0
          obtain ⟨n0, rfl⟩ : ∃ n0, ns = [n0] := by
            match ns, hlen with
            | [a], _ => exact ⟨a, rfl⟩
          replace hm0 : (if 0 ≤ n0 ∧ b.2.1.size ≤ 1000000 then (mOpen (b.2.1.extract 0 (min n0 (b.2.1.size : Int)).toNat)).bind fun r => chkO ((0 ≤ r.1 ∧ r.1 ≤ 6) ∧ 0 ≤ r.2.1 ∧ r.2.1 ≤ 1000000) (if r.1 = 0 then fndS r.2.1 else tld r.1, if r.1 = 0 then r.2.2 else b) else none) = some r := hm0
          split at hm0
          case isFalse => cases hm0
          rename_i hcnd
          obtain ⟨q, hq, hm0⟩ := obind hm0
          obtain ⟨hqe, hrr⟩ := chkO_some hm0
          have HRR := Lib.hid hrr
          have HC := Lib.hid (dCrash_okN (its1 := .fl (owI _ _) :: .fl (owS _ _) :: its1) W5 HOP.out HTC.out HOA.out HB.out HG.out (List.Mem.head _) hcnd.1 hcnd.2 hq hqe (cap := cap5))
          clear hq hm0 hqe hlen hcnd hrr
          go_wp2_with fail
          refine HC.out.mono ?_; rintro e W6 hcr
          unfold CrP at hcr
          obtain ⟨gb', he, hp, hd, hn⟩ := hcr
          have h1 := congrArg Prod.fst HRR.out
          have h2 := congrArg Prod.snd HRR.out
          dsimp only at h1 h2
          rw [h1] at he
          rw [h2] at hp
          subst he
          have HP6 := Lib.hid hp; replace HD := Lib.hid (HD.out.trans hd); replace HN := Lib.hid (HN.out.trans hn); clear hp hd hn HC HRR h1 h2
          go_wp2_with fail
          go_ret
          unfold LnP
          exact ⟨gb', rfl, HP6.out.sub (.cons _ (.cons _ (List.Sublist.refl _))), HD.out, HN.out⟩

end Go.Proofs.YtekfgkeimlidhaaGreatDoor
/- desk: Run -/
set_option linter.all false
set_option maxRecDepth 100000
namespace Go.Proofs.YtekfgkeimlidhaaGreatDoor
open Go.RowKit Go.Shelf Pl
attribute [local go_sem] Oper.semAt_some
def runM : Nat → BkT → ByteArray → ByteArray → Option ByteArray
  | 0, _, _, _ => none
  | F + 1, b, t, out => if t.size = 0 then some out else (mAns b ⟨(Lib.trimSuffix (lnB t).1.data.toList [10]).toArray⟩).bind fun r => if out.size + r.1.size + 1 < 900000000 then runM F r.2 (lnB t).2 ((out ++ r.1) ++ ⟨#[10]⟩) else none
def longS : ByteArray := ⟨#[116, 111, 111, 32, 108, 111, 110, 103, 10]⟩
def mRun (t : ByteArray) : Option ByteArray := if 3000 < t.size then some longS else runM (t.size + 1) newB t ⟨#[]⟩
theorem owSb_ok (W : World) : (owSb W.heap.size (.pointer none) (.slice none 0 0)).ok (W.alloc (.cells #[.pointer none, .slice none 0 0] 31)) W.heap.size :=
  own_lit (w := W) (base := W.heap.size) (n := 1) (e := 31) #[.pointer none, .slice none 0 0] 2 rfl (Nat.le_refl _) (by unfold maxLen; omega)
theorem HP.nilU {W : World} {B : Nat} {its : List It} (h : HP W B its) (hB : B ≤ W.heap.size) : HP W B (.fl (owU (.slice none 0 0) ⟨#[]⟩) :: its) :=
  h.call (Below.refl _ _) hB (World.ownsRowF_nil W W.heap.size 5 1)
abbrev rnI (gt g gb go : Nat) (p V : Value) (u : ByteArray) (b : BkT) (out : ByteArray) : List It := .fl (owX 9 (some ⟨gt, 0, none⟩) (.string u)) :: sbI go p V out (dkI g gb b [])
def rnJ (w W6 : World) (gt g go : Nat) (r : ByteArray) (u t : ByteArray) (W : World) : Prop :=
  ∃ b F gb p V out, Hid (Below w.heap.size w W) ∧ Hid (NC W6 W) ∧ Hid (HP W w.heap.size (rnI gt g gb go p V u b out)) ∧ Hid (OpB w.heap.size W) ∧ Hid (sbP go p V out) ∧ Hid (runM F b t out = some r ∧ u.size ≤ 3000 ∧ t.size ≤ 3000)
set_option maxHeartbeats 4000000 in
theorem dRun_ok {text r : ByteArray} (w : World) (hop : OpB w.heap.size w) (htc : TyCell w) (hm : mRun text = some r) :
    Calls Tryz.prog 4 #[.string text] w fun e w' => e = .returned (.string r) ∧ Below w.heap.size w w' := by
  unfold mRun at hm
  have HOP := Lib.hid hop; have HTC := Lib.hid htc; clear hop htc
  have HD := Lib.hid (Below.refl w.heap.size w)
  have HM := Lib.hid hm; clear hm
  have HMK := Lib.hid (Marks.nil w.heap.size w)
  refine (callsIn_wide (n := 5)).1 ?_
  refine callsIn_of_wp_marks Tryz.func4 rfl trivial ?_ rfl
  simp only [Tryz.ntmps4, List.size_toArray, List.length_cons, List.length_nil, Nat.reduceAdd, Nat.reduceSub, Array.replicate_succ, Array.replicate_zero, List.push_toArray, List.append_toArray, List.nil_append, List.cons_append]
  refine wpIn_wide.2 ?_
  by_cases hbig : 3000 < text.size
  · replace HM := Lib.hid (ifT hbig HM.out)
    obtain rfl := Option.some.inj HM.out
    have hbd := decide_eq_true (show (3000 : Int) < (text.size : Int) by omega)
    clear HM hbig
    go_wp2_with fail
    refine leave_marks (B := w.heap.size) _ _ (Marks.nil _ _) (fun W' => results_tmp rfl _ _ _) (fun W' hk => ⟨rfl, hk.below HD.out (Nat.le_refl _) (Nat.le_refl _)⟩)
  · replace HM := Lib.hid (ifF hbig HM.out)
    have hbd := decide_eq_false (show ¬ (3000 : Int) < (text.size : Int) by omega)
    have HBG := Lib.hid hbig; clear hbig
    go_wp2_with fail
    refine (bkNew_ok w).mono ?_; rintro e W4 ⟨gb, rfl, hp, hd⟩
    have HOA := Lib.hid (HP.callIt (its := []) HP.nil hd HD.out.size hp)
    replace HOP := Lib.hid (HOP.out.go hd)
    replace HMK := Lib.hid (HMK.out.nc (NC.of_below hd))
    replace HD := Lib.hid hd; clear hd hp
    have HSZ := Lib.hid HD.out.size
    have hd : Below W4.heap.size W4 (W4.alloc (.cells #[.pointer (some ⟨gb, 0, none⟩)] 27)) := (Below.refl _ _).alloc (Nat.le_refl _) _
    have hp := HOA.out.newX HSZ.out 27 (.pointer (some ⟨gb, 0, none⟩))
    go_upto_region 4 with (fail)
    generalize hgd : W4.heap.size = gd at *
    generalize hW : World.alloc W4 _ = W5 at *
    clear hW
    replace HOA := Lib.hid (show HP W5 w.heap.size (dkI gd gb newB []) from hp)
    replace HOP := Lib.hid (HOP.out.go (hd.mono HSZ.out))
    replace HMK := Lib.hid (HMK.out.nc (NC.of_below (by rw [hgd]; exact hd)))
    replace HD := Lib.hid (HD.out.trans (hd.mono HSZ.out)); clear hd hp hgd
    replace HSZ := Lib.hid HD.out.size
    have hd : Below W5.heap.size W5 (W5.alloc (.cells #[.pointer none, .slice none 0 0] 31)) := (Below.refl _ _).alloc (Nat.le_refl _) _
    have hp := (HP.call HOA.out hd HSZ.out (owSb_ok W5))
    go_upto_region 5 with (fail)
    generalize hgo : W5.heap.size = go_ at *
    generalize hW : World.alloc W5 _ = W5b at *
    clear hW
    replace HOP := Lib.hid (HOP.out.go (hd.mono HSZ.out))
    replace HMK := Lib.hid (HMK.out.nc (NC.of_below (by rw [hgo]; exact hd)))
    replace HD := Lib.hid (HD.out.trans (hd.mono HSZ.out)); clear hd hgo
    replace HSZ := Lib.hid HD.out.size
    have hp2 := HP.nilU (its := .fl (owSb go_ (.pointer none) (.slice none 0 0)) :: dkI gd gb newB []) (by exact hp) HSZ.out
    replace HOA := Lib.hid (show HP W5b w.heap.size (sbI go_ (.pointer none) (.slice none 0 0) ⟨#[]⟩ (dkI gd gb newB [])) from HP.front (its1 := [.fl (owU (.slice none 0 0) ⟨#[]⟩)]) hp2)
    clear hp hp2
    go_wp2_with fail
    refine (lines_any text _).mono ?_; rintro e w' ⟨rfl, rfl⟩
    go_wp2_with fail
    have hd : Below W5b.heap.size W5b (W5b.alloc (.cells #[.string text] 9)) := (Below.refl _ _).alloc (Nat.le_refl _) _
    have hp := HOA.out.newX HSZ.out 9 (.string text)
    generalize hgt : W5b.heap.size = gt at *
    generalize hW : World.alloc W5b _ = W6 at *
    clear hW
    replace HOA := Lib.hid (show HP W6 w.heap.size (rnI gt gd gb go_ (.pointer none) (.slice none 0 0) text newB ⟨#[]⟩) from hp)
    replace HOP := Lib.hid (HOP.out.go (hd.mono HSZ.out))
    replace HMK := Lib.hid (HMK.out.nc (NC.of_below (by rw [hgt]; exact hd)))
    replace HD := Lib.hid (HD.out.trans (hd.mono HSZ.out)); clear hd hp
    replace HSZ := Lib.hid HD.out.size
    have HDk := HD
    have hG : 1 < w.heap.size := HTC.out.lt
    have HG := Lib.hid hG; clear hG
    refine (wpIn_wide (n := 5)).1 (wp_lines (Bs := gt) (by omega) text rfl rfl (rnJ w W6 gt gd go_ r) (fun _ _ => False) ?hJ ?hI (fun _ _ _ h _ => h) ⟨newB, text.size + 1, gb, _, _, _, HD, Lib.hid (NC.refl _), HOA, HOP, Lib.hid ⟨.inl rfl, .inl rfl⟩, Lib.hid ⟨HM.out, by have := HBG.out; omega, by have := HBG.out; omega⟩⟩ ?a1 ?assign ?body ?done (fun _ _ _ _ h _ => h.elim))
    case hJ =>
      refine ⟨?_, ?_, ?_⟩
      · rintro u t W ⟨b, F, gb, p, V, out, h1, h2, h3, h4, h5, h6⟩
        obtain ⟨q0, q1, q2⟩ := h3.out.bxAll (List.Mem.head _)
        exact ⟨q1, q2, by have := h6.out.2.1; omega⟩
      · rintro u t W u' ⟨b, F, gb, p, V, out, h1, h2, h3, h4, h5, h6⟩ hu
        obtain ⟨q0, q1, hp, hb⟩ := HP.setBx (its1 := []) h3.out (.string u')
        exact ⟨b, F, gb, p, V, out, Lib.hid (h1.out.trans hb), Lib.hid (h2.out.trans (NC.setCell W ⟨gt, 0, none⟩ (.string u'))), Lib.hid hp, Lib.hid (h4.out.go hb), h5, Lib.hid ⟨h6.out.1, by have := h6.out.2.1; omega, h6.out.2.2⟩⟩
      · rintro u t W W' ⟨b, F, gb, p, V, out, h1, h2, h3, h4, h5, h6⟩ hd
        exact ⟨b, F, gb, p, V, out, Lib.hid (h1.out.trans (hd.below _)), Lib.hid (h2.out.trans (NC.of_below (hd.below _))), Lib.hid (h3.out.dr hd), Lib.hid (h4.out.go (hd.below _)), h5, h6⟩
    case hI =>
      rintro u t W W' ⟨b, F, gb, p, V, out, h1, h2, h3, h4, h5, h6⟩ hk
      exact ⟨b, F, gb, p, V, out, Lib.hid (hk.below h1.out HDk.out.size (Nat.le_refl _)), Lib.hid (h2.out.keepC hk (Nat.le_refl _)), Lib.hid (h3.out.keepC hk), Lib.hid (h4.out.go (hk.below (Below.refl _ _) HDk.out.size h1.out.size)), h5, h6⟩
    case assign =>
      intro l x W K hK
      gi_wp2
      exact hK
    case body =>
      rintro l t W33 hx ⟨b, F, gb, p, V, out, HD, HN, HOA, HOP, HSP, hL⟩ _ _ hJ35 hJx36 _ hQ34
      obtain ⟨hLM, hus, hts⟩ := hL.out; clear hL
      cases F with
      | zero => cases hLM
      | succ F' =>
        unfold runM at hLM
        rw [if_neg hx] at hLM
        have hlns : (lnB t).1.size ≤ 9223372036854775807 := by have := lnB_1 t; omega
        generalize hln : (lnB t).1 = ln at *
        generalize hrs : (lnB t).2 = rest at *
        have HC := Lib.hid (trimS_ok ln ⟨#[10]⟩ W33 hlns)
        change Hid (Calls Tryz.prog _ _ _ fun e w' => e = .returned (.string ⟨(Lib.trimSuffix ln.data.toList [10]).toArray⟩) ∧ w' = W33) at HC
        generalize (⟨(Lib.trimSuffix ln.data.toList [10]).toArray⟩ : ByteArray) = tr at *
        have HSZW := Lib.hid HD.out.size
        obtain ⟨r1, hr1, hLM⟩ := obind hLM
        split at hLM
        case isFalse => cases hLM
        rename_i hsz
        have HTC33 := Lib.hid (HTC.out.go HD.out)
        have HML := Lib.hid (dLine_okN (its1 := [_, _, _]) (its2 := []) W33 HOP.out HTC33.out (show HP W33 w.heap.size ([_, _, _] ++ dkI gd gb b []) from HOA.out) HSZW.out HG.out hr1)
        gi_wp2_with fail
        refine ⟨trivial, ?_⟩; refine (CallsIn.inRound l (callsIn_wide.2 HC.out)).mono ?_; rintro e w' ⟨rfl, rfl⟩
        gi_wp2_with fail
        refine ⟨trivial, ?_⟩; refine (CallsIn.inRound l (callsIn_wide.2 HML.out)).mono ?_; rintro e W34 hln2
        unfold LnP at hln2
        obtain ⟨gb2, rfl, hp, hd, hn⟩ := hln2
        have HP34 := Lib.hid (show HP W34 w.heap.size ([.fl (owX 9 (some ⟨gt, 0, none⟩) (.string rest))] ++ sbI go_ p V out (dkI gd gb2 r1.2 [])) from hp)
        replace HOP := Lib.hid (HOP.out.go hd)
        replace HD := Lib.hid (HD.out.trans hd)
        have HNB := Lib.hid hn
        replace HN := Lib.hid (HN.out.trans hn); clear hp hd hn HML HC HTC33
        have hszo : out.size + r1.1.size < 1000000000 := by omega
        have HWR := Lib.hid (sbWrite_okN W34 HSP.out HP34.out r1.1 hszo HD.out.size)
        gi_wp2_with fail
        refine ⟨trivial, ?_⟩; refine (CallsIn.inRound l (callsIn_wide.2 HWR.out)).mono ?_; rintro e W35 ⟨rfl, p2, V2, hsp, hp, hd, hn⟩
        have HP35 := Lib.hid hp
        replace HSP := Lib.hid hsp
        replace HOP := Lib.hid (HOP.out.go hd)
        replace HD := Lib.hid (HD.out.trans hd)
        replace HNB := Lib.hid (HNB.out.trans hn)
        replace HN := Lib.hid (HN.out.trans hn); clear hp hd hn HWR HP34 hsp
        have hszo2 : (out ++ r1.1).size + 1 < 1000000000 := by rw [ByteArray.size_append]; omega
        have HWB := Lib.hid (sbByte_okN W35 HSP.out HP35.out 10 hszo2 HD.out.size)
        gi_wp2_with fail
        refine ⟨trivial, ?_⟩; refine (CallsIn.inRound l (callsIn_wide.2 HWB.out)).mono ?_; rintro e W36 ⟨rfl, p3, V3, hsp, hp, hd, hn⟩
        have HP36 := Lib.hid hp
        replace HSP := Lib.hid hsp
        replace HOP := Lib.hid (HOP.out.go hd)
        replace HD := Lib.hid (HD.out.trans hd)
        replace HNB := Lib.hid (HNB.out.trans hn)
        replace HN := Lib.hid (HN.out.trans hn); clear hp hd hn HWB HP35 hsp
        have HLM := Lib.hid hLM; clear hLM hszo hszo2 hsz
        gi_wp2_with fail
        exact ⟨HNB.out, hJ35 _ _ _ ⟨r1.2, F', gb2, p3, V3, _, HD, HN, HP36, HOP, HSP, Lib.hid ⟨HLM.out, hus, hus⟩⟩⟩
    case done =>
      rintro D t W54 hD ht ⟨b, F, gb, p, V, out, HD, HN, HOA, HOP, HSP, hL⟩ hK
      replace HMK := Lib.hid (HMK.out.push HN.out hD HDk.out.size hK); clear hK hD HN
      obtain ⟨hLM, hus⟩ := hL.out; clear hL hus
      have hr : out = r := by
        cases F with
        | zero => cases hLM
        | succ F' => unfold runM at hLM; rw [if_pos ht] at hLM; exact Option.some.inj hLM
      subst hr
      clear hLM ht
      have HS := Lib.hid (sbString_ok (its1 := [_]) W54 HSP.out HOA.out HD.out.size)
      go_wp2_with fail
      refine HS.out.mono ?_; rintro e W55 ⟨rfl, hd, hn⟩
      have HB55 := Lib.hid (HD.out.trans hd)
      replace HMK := Lib.hid (HMK.out.nc hn); clear hd hn
      go_wp2_with fail
      refine leave_marks (B := w.heap.size) _ _ HMK.out (fun W' => results_tmp rfl _ _ _) (fun W' hk => ⟨rfl, hk.below HB55.out (Nat.le_refl _) (Nat.le_refl _)⟩)
end Go.Proofs.YtekfgkeimlidhaaGreatDoor
