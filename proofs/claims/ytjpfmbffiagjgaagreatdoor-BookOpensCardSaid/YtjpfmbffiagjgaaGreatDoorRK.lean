import Derived.Test.YtjpfmbffiagjgaaGreatDoorRW
import Derived.Test.YtjpfmbffiagjgaaGreatDoorBB2
/- the document's book: join -/
set_option linter.all false
set_option maxRecDepth 100000
namespace Go.Proofs.YtjpfmbffiagjgaaGreatDoor
open Go.RowKit Go.Shelf Pl
theorem two_ev (i j : Int) : R4_two 300 i j = some (bkE i j) := by
  unfold R4_two R4_in bkE
  by_cases a : 0 ≤ i <;> by_cases b : i ≤ 7 <;> by_cases c : 0 ≤ j <;> by_cases d : j ≤ 7 <;> by_cases e : i = j <;> simp [a, b, c, d, e]
theorem results_cellrow_tmp {P : Program} {fn : Func} {p u : Tmp} {ty : TypeId} (h : fn.results = #[.cell p ty, .tmp u]) (tmps : Array Value) (w : World) (g : Nat) (t : TypeId) (cs : Array Value) (fr : Nat × Nat) (d : TypeDesc)
    (hp : tmps.getD p undef = .pointer (some ⟨g, 0, none⟩)) (hg : w.heap[g]? = some (.cells cs t fr))
    (hu : P.underlying ty = some d) (hd : (match d with | .struct _ | .array _ _ => true | _ => false) = true) (hi : (P.info? ty).map (·.size) = some cs.size) :
    (results fn tmps).run P w = .ok (.tuple #[.agg cs, tmps.getD u undef]) w := by
  have hp' : tmps[p]?.getD undef = .pointer (some ⟨g, 0, none⟩) := by simpa using hp
  simp [results, h, hp', asAddr, run_loadVar_row w g t ty cs fr d hg hu hd hi]
def r4E (l : List (Int × Int)) (n i j : Int) : Int := if bkE i j = 0 then (if besL l i j = true then 6 else if 60 ≤ n then 4 else 0) else bkE i j
set_option maxHeartbeats 4000000 in
theorem join4_bad {A : Option Addr} {cap : Nat} {l : List (Int × Int)} {t : ByteArray} {n i j : Int} (w : World) (hr : ReadsL w w.heap.size A l) (hl : l.length < 290) (he : r4E l n i j ≠ 0) :
    Calls Tryz.prog 30 #[r4V (.slice A l.length cap) t n, .int .i64 i, .int .i64 j] w fun e w' =>
      e = .returned (.tuple #[r4V (.slice A l.length cap) t n, .int .i64 (r4E l n i j)]) ∧ Below w.heap.size w w' := by
  have H2 := Lib.hid (fun w => R4_two_ok w (two_ev i j))
  have HR := Lib.hid hr; clear hr
  have hbev : R1_Beside 300 l i j = some (besL l i j) := R1_Beside_ev i j (by omega) (by omega)
  have HBV := Lib.hid hbev; clear hbev
  unfold r4E at he ⊢
  unfold r4V
  have go : ∀ k : Int, (bkE i j = k ∧ k ≠ 0 ∨ bkE i j = 0 ∧ (besL l i j = true ∧ k = 6 ∨ besL l i j = false ∧ 60 ≤ n ∧ k = 4)) →
      Calls Tryz.prog 30 #[.agg #[.slice A l.length cap, .string t, .int .i64 n], .int .i64 i, .int .i64 j] w fun e w' =>
      e = .returned (.tuple #[.agg #[.slice A l.length cap, .string t, .int .i64 n], .int .i64 k]) ∧ Below w.heap.size w w' := by
    intro k hk
    have e1 : ((w.alloc (.cells #[Value.slice A l.length cap, .string t, .int .i64 n] 24)).alloc (.cells #[Value.slice none 0 0, .string { data := #[] }, .int .i64 0] 24)).heap[w.heap.size]? = some (.cells #[Value.slice A l.length cap, .string t, .int .i64 n] 24 (0, 0)) := by
      rw [heap_alloc_old _ _ _ (by simp)]; exact heap_alloc_new w _
    have e2 : ((w.alloc (.cells #[Value.slice A l.length cap, .string t, .int .i64 n] 24)).alloc (.cells #[Value.slice none 0 0, .string { data := #[] }, .int .i64 0] 24)).heap[w.heap.size + 1]? = some (.cells #[Value.slice none 0 0, .string { data := #[] }, .int .i64 0] 24 (0, 0)) := by
      have := heap_alloc_new (w.alloc (.cells #[Value.slice A l.length cap, .string t, .int .i64 n] 24)) (.cells #[Value.slice none 0 0, .string { data := #[] }, .int .i64 0] 24)
      simpa using this
    have hb2 : Below w.heap.size w ((w.alloc (.cells #[Value.slice A l.length cap, .string t, .int .i64 n] 24)).alloc (.cells #[Value.slice none 0 0, .string { data := #[] }, .int .i64 0] 24)) := ((Below.refl _ _).alloc (Nat.le_refl _) _).alloc (by simp) _
    have key : ∀ W2 : World, W2.heap[w.heap.size]? = some (.cells #[Value.slice A l.length cap, .string t, .int .i64 n] 24 (0, 0)) → W2.heap[w.heap.size + 1]? = some (.cells #[Value.slice none 0 0, .string { data := #[] }, .int .i64 0] 24 (0, 0)) → Below w.heap.size w W2 →
        (W2.cell? ⟨w.heap.size, 0, none⟩ = some (Value.slice A l.length cap) ∧ W2.cell? ⟨w.heap.size, 1, none⟩ = some (.string t) ∧ W2.cell? ⟨w.heap.size, 2, none⟩ = some (.int .i64 n)) ∧
        (W2.cell? ⟨w.heap.size + 1, 0, none⟩ = some (Value.slice none 0 0) ∧ W2.cell? ⟨w.heap.size + 1, 1, none⟩ = some (.string { data := #[] }) ∧ W2.cell? ⟨w.heap.size + 1, 2, none⟩ = some (.int .i64 0)) ∧
        (W2.frozen? ⟨w.heap.size + 1, 0, none⟩ = false ∧ W2.frozen? ⟨w.heap.size + 1, 1, none⟩ = false ∧ W2.frozen? ⟨w.heap.size + 1, 2, none⟩ = false) ∧
        (((W2.setCell ⟨w.heap.size + 1, 0, none⟩ (Value.slice A l.length cap)).setCell ⟨w.heap.size + 1, 1, none⟩ (.string t)).setCell ⟨w.heap.size + 1, 2, none⟩ (.int .i64 n)).heap[w.heap.size + 1]? = some (.cells #[Value.slice A l.length cap, .string t, .int .i64 n] 24 (0, 0)) ∧
        Below w.heap.size w (((W2.setCell ⟨w.heap.size + 1, 0, none⟩ (Value.slice A l.length cap)).setCell ⟨w.heap.size + 1, 1, none⟩ (.string t)).setCell ⟨w.heap.size + 1, 2, none⟩ (.int .i64 n)) := by
      intro W2 h1 h2 hb
      refine ⟨⟨by rw [Lib.cell_of_heap h1]; rfl, by rw [Lib.cell_of_heap h1]; rfl, by rw [Lib.cell_of_heap h1]; rfl⟩, ⟨by rw [Lib.cell_of_heap h2]; rfl, by rw [Lib.cell_of_heap h2]; rfl, by rw [Lib.cell_of_heap h2]; rfl⟩, ⟨Lib.frozen_of_heap h2 0, Lib.frozen_of_heap h2 1, Lib.frozen_of_heap h2 2⟩, ?_,
        ((hb.setCell (p := ⟨w.heap.size + 1, 0, none⟩) (by simp) _).setCell (p := ⟨w.heap.size + 1, 1, none⟩) (by simp) _).setCell (p := ⟨w.heap.size + 1, 2, none⟩) (by simp) _⟩
      simp [World.setCell, Array.getElem?_modify, h2]
    have KEY := Lib.hid key; clear key
    rcases hk with ⟨hb, hk⟩ | ⟨hb, ⟨hbes, rfl⟩ | ⟨hbes, hn, rfl⟩⟩
    · rw [hb] at H2
      have q1 : (k == 0) = false := by simpa using hk
      have q2 : (k != 0) = true := by simpa using hk
      clear hb hk
      go_enter Tryz.func30, Tryz.ntmps30
      go_wp2_with fail
      generalize hW : World.alloc (World.alloc w _) _ = W2 at *
      clear hW
      obtain ⟨⟨k0, k1, k2⟩, ⟨r0, r1, r2⟩, ⟨f0, f1, f2⟩, g6, hb6⟩ := KEY.out W2 e1 e2 hb2
      have G6 := Lib.hid g6; have HB6 := Lib.hid hb6; clear g6 hb6 e1 e2 hb2
      refine (H2.out _).mono ?_; rintro e w' ⟨rfl, rfl⟩
      go_wp2_with fail
      refine bodyPost_ret (results_cellrow_tmp (p := 6) (u := 7) (ty := 24) rfl _ _ (w.heap.size + 1) _ _ _ _ rfl G6.out Tryz.underlying24 rfl (by kernel_rfl)) rfl ⟨rfl, HB6.out⟩
    · rw [hb] at H2
      rw [hbes] at HBV
      clear hb hbes
      go_enter Tryz.func30, Tryz.ntmps30
      go_wp2_with fail
      generalize hW : World.alloc (World.alloc w _) _ = W2 at *
      clear hW
      obtain ⟨⟨k0, k1, k2⟩, ⟨r0, r1, r2⟩, ⟨f0, f1, f2⟩, g6, hb6⟩ := KEY.out W2 e1 e2 hb2
      have HC := Lib.hid (R1_Beside_ok W2 cap (rdL hb2 HR.out) HBV.out)
      have G6 := Lib.hid g6; have HB6 := Lib.hid hb6; clear g6 hb6 e1 e2 hb2
      refine (H2.out _).mono ?_; rintro e w' ⟨rfl, rfl⟩
      go_wp2_with fail
      refine HC.out.mono ?_; rintro e w' ⟨rfl, rfl⟩
      go_wp2_with fail
      refine bodyPost_ret (results_cellrow_tmp (p := 6) (u := 7) (ty := 24) rfl _ _ (w.heap.size + 1) _ _ _ _ rfl G6.out Tryz.underlying24 rfl (by kernel_rfl)) rfl ⟨rfl, HB6.out⟩
    · rw [hb] at H2
      rw [hbes] at HBV
      clear hb hbes
      go_enter Tryz.func30, Tryz.ntmps30
      go_wp2_with fail
      generalize hW : World.alloc (World.alloc w _) _ = W2 at *
      clear hW
      obtain ⟨⟨k0, k1, k2⟩, ⟨r0, r1, r2⟩, ⟨f0, f1, f2⟩, g6, hb6⟩ := KEY.out W2 e1 e2 hb2
      have HC := Lib.hid (R1_Beside_ok W2 cap (rdL hb2 HR.out) HBV.out)
      have G6 := Lib.hid g6; have HB6 := Lib.hid hb6; clear g6 hb6 e1 e2 hb2
      refine (H2.out _).mono ?_; rintro e w' ⟨rfl, rfl⟩
      go_wp2_with fail
      refine HC.out.mono ?_; rintro e w' ⟨rfl, rfl⟩
      go_wp2_with fail
      refine bodyPost_ret (results_cellrow_tmp (p := 6) (u := 7) (ty := 24) rfl _ _ (w.heap.size + 1) _ _ _ _ rfl G6.out Tryz.underlying24 rfl (by kernel_rfl)) rfl ⟨rfl, HB6.out⟩
  refine go _ ?_
  by_cases c1 : bkE i j = 0
  · rw [if_pos c1] at he ⊢
    right; refine ⟨c1, ?_⟩
    cases hb : besL l i j with
    | true => rw [if_pos rfl]; exact .inl ⟨rfl, rfl⟩
    | false =>
      rw [hb, if_neg (by decide)] at he
      rw [if_neg (by decide)]
      by_cases c : 60 ≤ n
      · rw [if_pos c]; exact .inr ⟨rfl, c, rfl⟩
      · rw [if_neg c] at he; exact absurd rfl he
  · rw [if_neg c1]; exact .inl ⟨rfl, c1⟩
set_option maxHeartbeats 4000000 in
theorem join4_good {A : Option Addr} {cap : Nat} {l : List (Int × Int)} {t : ByteArray} {n i j : Int} (w : World) (hr : ReadsL w w.heap.size A l) (hl : l.length < 290) (ht : t.size < 1000000) (hn0 : 0 ≤ n) (he : r4E l n i j = 0) :
    Calls Tryz.prog 30 #[r4V (.slice A l.length cap) t n, .int .i64 i, .int .i64 j] w fun e w' =>
      ∃ V, e = .returned (.tuple #[r4V V (t ++ lineW (dnW (⟨#[106]⟩ : ByteArray) [i, j])) (n + 1), .int .i64 0]) ∧ Ow.ok w' w.heap.size (owL V (l ++ [(i, j)])) ∧ Below w.heap.size w w' := by
  have H2 := Lib.hid (fun w => R4_two_ok w (two_ev i j))
  have HR := Lib.hid hr; clear hr
  have hbev : R1_Beside 300 l i j = some (besL l i j) := R1_Beside_ev i j (by omega) (by omega)
  have HBV := Lib.hid hbev; clear hbev
  unfold r4E at he
  have hb : bkE i j = 0 := by
    by_cases c : bkE i j = 0
    · exact c
    · rw [if_neg c] at he; exact absurd he c
  rw [if_pos hb] at he
  have hbes : besL l i j = false := by
    cases c : besL l i j with
    | false => rfl
    | true => rw [c, if_pos rfl] at he; cases he
  rw [hbes, if_neg (by decide)] at he
  have hn : ¬ 60 ≤ n := fun c => by rw [if_pos c] at he; cases he
  have hij : (0 ≤ i ∧ i ≤ 7) ∧ (0 ≤ j ∧ j ≤ 7) := by
    unfold bkE at hb
    split at hb
    · assumption
    · cases hb
  rw [hb] at H2
  rw [hbes] at HBV
  have HDN := Lib.hid (fun (W : World) (A : Option Addr) (len cap : Nat) => down4_ok (A := A) (len := len) (cap := cap) (t := t) (word := (⟨#[106]⟩ : ByteArray)) (n := n) (i := i) (j := j) W hij.1 hij.2 (by rw [one_size]; omega) ht ⟨hn0, by omega⟩)
  unfold r4V at HDN ⊢
  clear hb hbes he
  have e1 : ((w.alloc (.cells #[Value.slice A l.length cap, .string t, .int .i64 n] 24)).alloc (.cells #[Value.slice none 0 0, .string { data := #[] }, .int .i64 0] 24)).heap[w.heap.size]? = some (.cells #[Value.slice A l.length cap, .string t, .int .i64 n] 24 (0, 0)) := by
    rw [heap_alloc_old _ _ _ (by simp)]; exact heap_alloc_new w _
  have e2 : ((w.alloc (.cells #[Value.slice A l.length cap, .string t, .int .i64 n] 24)).alloc (.cells #[Value.slice none 0 0, .string { data := #[] }, .int .i64 0] 24)).heap[w.heap.size + 1]? = some (.cells #[Value.slice none 0 0, .string { data := #[] }, .int .i64 0] 24 (0, 0)) := by
    have := heap_alloc_new (w.alloc (.cells #[Value.slice A l.length cap, .string t, .int .i64 n] 24)) (.cells #[Value.slice none 0 0, .string { data := #[] }, .int .i64 0] 24)
    simpa using this
  have hb2 : Below w.heap.size w ((w.alloc (.cells #[Value.slice A l.length cap, .string t, .int .i64 n] 24)).alloc (.cells #[Value.slice none 0 0, .string { data := #[] }, .int .i64 0] 24)) := ((Below.refl _ _).alloc (Nat.le_refl _) _).alloc (by simp) _
  go_enter Tryz.func30, Tryz.ntmps30
  go_wp2_with fail
  generalize hW : World.alloc (World.alloc w _) _ = W2 at *
  clear hW
  have k0 : W2.cell? ⟨w.heap.size, 0, none⟩ = some (Value.slice A l.length cap) := by rw [Lib.cell_of_heap e1]; rfl
  have k2 : W2.cell? ⟨w.heap.size, 2, none⟩ = some (.int .i64 n) := by rw [Lib.cell_of_heap e1]; rfl
  have HC := Lib.hid (R1_Beside_ok W2 cap (rdL hb2 HR.out) HBV.out)
  have l1 : w.heap.size < W2.heap.size := (Array.getElem?_eq_some_iff.1 e1).1
  have l2 : w.heap.size + 1 < W2.heap.size := (Array.getElem?_eq_some_iff.1 e2).1
  -- the two appends
  obtain ⟨V1, W3, a1, a2, a3, _⟩ := run_appLs W2 22 22 Tryz.underlying22 (c := cap) (L1 := []) (L2 := []) (l := []) (v := .slice none 0 0) (show HP W2 W2.heap.size ([] ++ .fl (owL (.slice none 0 0) []) :: []) from HP.nil.pushNil 64 2) (rdL hb2 HR.out) (by rw [List.length_nil]; omega) (Nat.le_refl _)
  simp only [List.nil_append] at a2
  obtain ⟨V2, W4, c1, c2, c3, _⟩ := run_appL W3 22 22 Tryz.underlying22 (e' := 64) (L1 := []) (L2 := []) (y := i) (z := j) a2 (by omega) a3.size
  have hb4 : Below W2.heap.size W2 W4 := a3.trans c3
  have g1 := (hb4.block _ l1).trans e1
  have g2 := (hb4.block _ l2).trans e2
  obtain ⟨A2, cap2, hv2, _⟩ := HP.open_L c2 (List.Mem.head _)
  rw [show (l ++ [(i, j)]).length = l.length + 1 by simp] at hv2
  subst hv2
  have m0 : W4.cell? ⟨w.heap.size, 0, none⟩ = some (Value.slice A l.length cap) := by rw [Lib.cell_of_heap g1]; rfl
  have mf : W4.frozen? ⟨w.heap.size, 0, none⟩ = false := Lib.frozen_of_heap g1 0
  have g1' : (W4.setCell ⟨w.heap.size, 0, none⟩ (.slice A2 (l.length + 1) cap2)).heap[w.heap.size]? = some (.cells #[Value.slice A2 (l.length + 1) cap2, .string t, .int .i64 n] 24 (0, 0)) := by
    simp [World.setCell, Array.getElem?_modify, g1]
  have g2' : (W4.setCell ⟨w.heap.size, 0, none⟩ (.slice A2 (l.length + 1) cap2)).heap[w.heap.size + 1]? = _ := (Below.heap_setCell W4 ⟨w.heap.size, 0, none⟩ _ (w.heap.size + 1) (by simp)).trans g2
  have how : Ow.ok W4 W2.heap.size (owL (.slice A2 (l.length + 1) cap2) (l ++ [(i, j)])) := c2.get (List.Mem.head _)
  have how5 : Ow.ok (W4.setCell ⟨w.heap.size, 0, none⟩ (.slice A2 (l.length + 1) cap2)) W2.heap.size (owL (.slice A2 (l.length + 1) cap2) (l ++ [(i, j)])) := by
    refine Ow.ok.kept (row := some w.heap.size) how ⟨rfl, rfl, rfl, by simp [World.setCell], fun k _ hk => Below.heap_setCell _ _ _ _ (fun e => hk (by rw [e]))⟩ ?_
    cases hvb : (owL (.slice A2 (l.length + 1) cap2) (l ++ [(i, j)])).v.ownBlock with
    | none => exact .inl rfl
    | some k => right; intro e; have := (Ow.ok.lt how k hvb).1; cases e; omega
  have hb5 : Below w.heap.size w (W4.setCell ⟨w.heap.size, 0, none⟩ (.slice A2 (l.length + 1) cap2)) := (hb2.trans (hb4.mono hb2.size)).setCell (p := ⟨w.heap.size, 0, none⟩) (Nat.le_refl _) _
  have G1 := Lib.hid g1'; have G2 := Lib.hid g2'; have HB5 := Lib.hid hb5; have HOW := Lib.hid how5; have HS2 := Lib.hid l2; have HB2S := Lib.hid hb2.size
  have C1 := Lib.hid a1; have C2 := Lib.hid c1
  clear g1 g2 g1' g2' hb5 how how5 e1 e2 a2 a3 c2 c3 hb4 l1 l2 a1 c1 hb2
  refine (H2.out _).mono ?_; rintro e w' ⟨rfl, rfl⟩
  go_wp2_with fail
  refine HC.out.mono ?_; rintro e w' ⟨rfl, rfl⟩
  go_upto_region 10 with (at_builtin; refine wp_appRun C1.out rfl rfl rfl rfl ?_)
  go_upto_region 11 with (at_builtin; refine wp_appRun C2.out rfl rfl rfl rfl ?_)
  generalize hW : World.setCell W4 _ _ = W5 at *
  clear hW k0 k2 m0 mf
  have p0 : W5.cell? ⟨w.heap.size, 0, none⟩ = some (Value.slice A2 (l.length + 1) cap2) := by rw [Lib.cell_of_heap G1.out]; rfl
  have p1 : W5.cell? ⟨w.heap.size, 1, none⟩ = some (.string t) := by rw [Lib.cell_of_heap G1.out]; rfl
  have p2 : W5.cell? ⟨w.heap.size, 2, none⟩ = some (.int .i64 n) := by rw [Lib.cell_of_heap G1.out]; rfl
  go_wp2_with fail
  refine (HDN.out W5 A2 (l.length + 1) cap2).mono ?_; rintro e W6 ⟨rfl, hd6⟩
  have l5 : w.heap.size + 1 < W5.heap.size := (Array.getElem?_eq_some_iff.1 G2.out).1
  have g2 := (hd6.block _ l5).trans G2.out
  have hb6 := HB5.out.trans (hd6.mono HB5.out.size)
  have how6 : Ow.ok W6 W2.heap.size (owL (.slice A2 (l.length + 1) cap2) (l ++ [(i, j)])) := Ow.ok.kept HOW.out (grown_of_below hd6) (by cases (owL (.slice A2 (l.length + 1) cap2) (l ++ [(i, j)])).v.ownBlock <;> simp)
  obtain ⟨t2, ht2⟩ : ∃ t2, t2 = t ++ lineW (dnW (⟨#[106]⟩ : ByteArray) [i, j]) := ⟨_, rfl⟩
  rw [← ht2]
  have x0 : W6.cell? ⟨w.heap.size + 1, 0, none⟩ = some (Value.slice none 0 0) := by rw [Lib.cell_of_heap g2]; rfl
  have x1 : W6.cell? ⟨w.heap.size + 1, 1, none⟩ = some (.string { data := #[] }) := by rw [Lib.cell_of_heap g2]; rfl
  have x2 : W6.cell? ⟨w.heap.size + 1, 2, none⟩ = some (.int .i64 0) := by rw [Lib.cell_of_heap g2]; rfl
  have y0 : W6.frozen? ⟨w.heap.size + 1, 0, none⟩ = false := Lib.frozen_of_heap g2 0
  have y1 : W6.frozen? ⟨w.heap.size + 1, 1, none⟩ = false := Lib.frozen_of_heap g2 1
  have y2 : W6.frozen? ⟨w.heap.size + 1, 2, none⟩ = false := Lib.frozen_of_heap g2 2
  have g6 : (((W6.setCell ⟨w.heap.size + 1, 0, none⟩ (Value.slice A2 (l.length + 1) cap2)).setCell ⟨w.heap.size + 1, 1, none⟩ (.string t2)).setCell ⟨w.heap.size + 1, 2, none⟩ (.int .i64 (n + 1))).heap[w.heap.size + 1]? = some (.cells #[Value.slice A2 (l.length + 1) cap2, .string t2, .int .i64 (n + 1)] 24 (0, 0)) := by
    simp [World.setCell, Array.getElem?_modify, g2]
  have hb7 : Below w.heap.size w (((W6.setCell ⟨w.heap.size + 1, 0, none⟩ (Value.slice A2 (l.length + 1) cap2)).setCell ⟨w.heap.size + 1, 1, none⟩ (.string t2)).setCell ⟨w.heap.size + 1, 2, none⟩ (.int .i64 (n + 1))) :=
    ((hb6.setCell (p := ⟨w.heap.size + 1, 0, none⟩) (by simp) _).setCell (p := ⟨w.heap.size + 1, 1, none⟩) (by simp) _).setCell (p := ⟨w.heap.size + 1, 2, none⟩) (by simp) _
  have keep : ∀ (W : World) (k : Nat) (u : Value), Ow.ok W W2.heap.size (owL (.slice A2 (l.length + 1) cap2) (l ++ [(i, j)])) → Ow.ok (W.setCell ⟨w.heap.size + 1, k, none⟩ u) W2.heap.size (owL (.slice A2 (l.length + 1) cap2) (l ++ [(i, j)])) := by
    intro W k u hW
    refine Ow.ok.kept (row := some (w.heap.size + 1)) hW ⟨rfl, rfl, rfl, by simp [World.setCell], fun k _ hk => Below.heap_setCell _ _ _ _ (fun e => hk (by rw [e]))⟩ ?_
    cases hvb : (owL (.slice A2 (l.length + 1) cap2) (l ++ [(i, j)])).v.ownBlock with
    | none => exact .inl rfl
    | some k => right; intro e; have := (Ow.ok.lt hW k hvb).1; have := HS2.out; cases e; omega
  have how7 := keep _ 2 (.int .i64 (n + 1)) (keep _ 1 (.string t2) (keep _ 0 (Value.slice A2 (l.length + 1) cap2) how6))
  have HT2 := Lib.hid ht2
  have G6 := Lib.hid g6; have HB7 := Lib.hid hb7; have HOW7 := Lib.hid (Ow.ok.weak how7 HB2S.out)
  clear g6 hb7 how7 how6 keep g2 hb6 l5 ht2 hd6 p0 p1 p2
  go_wp2_with fail
  refine bodyPost_ret (results_cellrow_tmp (p := 6) (u := 7) (ty := 24) rfl _ _ (w.heap.size + 1) _ _ _ _ rfl G6.out Tryz.underlying24 rfl (by kernel_rfl)) rfl ⟨_, by rw [← HT2.out]; rfl, HOW7.out, HB7.out⟩
end Go.Proofs.YtjpfmbffiagjgaaGreatDoor
/- the document's book: cut, its errors -/
set_option linter.all false
set_option maxRecDepth 100000
namespace Go.Proofs.YtjpfmbffiagjgaaGreatDoor
open Go.RowKit Go.Shelf Pl
def r4C (l : List (Int × Int)) (n i j : Int) : Int := if bkE i j = 0 then (if besL l i j = true then (if 60 ≤ n then 4 else 0) else 5) else bkE i j
set_option maxHeartbeats 4000000 in
theorem cut4_bad {A : Option Addr} {cap : Nat} {l : List (Int × Int)} {t : ByteArray} {n i j : Int} (w : World) (hr : ReadsL w w.heap.size A l) (hl : l.length < 290) (he : r4C l n i j ≠ 0) :
    Calls Tryz.prog 31 #[r4V (.slice A l.length cap) t n, .int .i64 i, .int .i64 j] w fun e w' =>
      e = .returned (.tuple #[r4V (.slice A l.length cap) t n, .int .i64 (r4C l n i j)]) ∧ Below w.heap.size w w' := by
  have H2 := Lib.hid (fun w => R4_two_ok w (two_ev i j))
  have HR := Lib.hid hr; clear hr
  have hbev : R1_Beside 300 l i j = some (besL l i j) := R1_Beside_ev i j (by omega) (by omega)
  have HBV := Lib.hid hbev; clear hbev
  unfold r4C at he ⊢
  unfold r4V
  have go : ∀ k : Int, (bkE i j = k ∧ k ≠ 0 ∨ bkE i j = 0 ∧ (besL l i j = false ∧ k = 5 ∨ besL l i j = true ∧ 60 ≤ n ∧ k = 4)) →
      Calls Tryz.prog 31 #[.agg #[.slice A l.length cap, .string t, .int .i64 n], .int .i64 i, .int .i64 j] w fun e w' =>
      e = .returned (.tuple #[.agg #[.slice A l.length cap, .string t, .int .i64 n], .int .i64 k]) ∧ Below w.heap.size w w' := by
    intro k hk
    have e1 : ((w.alloc (.cells #[Value.slice A l.length cap, .string t, .int .i64 n] 24)).alloc (.cells #[Value.slice none 0 0, .string { data := #[] }, .int .i64 0] 24)).heap[w.heap.size]? = some (.cells #[Value.slice A l.length cap, .string t, .int .i64 n] 24 (0, 0)) := by
      rw [heap_alloc_old _ _ _ (by simp)]; exact heap_alloc_new w _
    have e2 : ((w.alloc (.cells #[Value.slice A l.length cap, .string t, .int .i64 n] 24)).alloc (.cells #[Value.slice none 0 0, .string { data := #[] }, .int .i64 0] 24)).heap[w.heap.size + 1]? = some (.cells #[Value.slice none 0 0, .string { data := #[] }, .int .i64 0] 24 (0, 0)) := by
      have := heap_alloc_new (w.alloc (.cells #[Value.slice A l.length cap, .string t, .int .i64 n] 24)) (.cells #[Value.slice none 0 0, .string { data := #[] }, .int .i64 0] 24)
      simpa using this
    have hb2 : Below w.heap.size w ((w.alloc (.cells #[Value.slice A l.length cap, .string t, .int .i64 n] 24)).alloc (.cells #[Value.slice none 0 0, .string { data := #[] }, .int .i64 0] 24)) := ((Below.refl _ _).alloc (Nat.le_refl _) _).alloc (by simp) _
    have key : ∀ W2 : World, W2.heap[w.heap.size]? = some (.cells #[Value.slice A l.length cap, .string t, .int .i64 n] 24 (0, 0)) → W2.heap[w.heap.size + 1]? = some (.cells #[Value.slice none 0 0, .string { data := #[] }, .int .i64 0] 24 (0, 0)) → Below w.heap.size w W2 →
        (W2.cell? ⟨w.heap.size, 0, none⟩ = some (Value.slice A l.length cap) ∧ W2.cell? ⟨w.heap.size, 1, none⟩ = some (.string t) ∧ W2.cell? ⟨w.heap.size, 2, none⟩ = some (.int .i64 n)) ∧
        (W2.cell? ⟨w.heap.size + 1, 0, none⟩ = some (Value.slice none 0 0) ∧ W2.cell? ⟨w.heap.size + 1, 1, none⟩ = some (.string { data := #[] }) ∧ W2.cell? ⟨w.heap.size + 1, 2, none⟩ = some (.int .i64 0)) ∧
        (W2.frozen? ⟨w.heap.size + 1, 0, none⟩ = false ∧ W2.frozen? ⟨w.heap.size + 1, 1, none⟩ = false ∧ W2.frozen? ⟨w.heap.size + 1, 2, none⟩ = false) ∧
        (((W2.setCell ⟨w.heap.size + 1, 0, none⟩ (Value.slice A l.length cap)).setCell ⟨w.heap.size + 1, 1, none⟩ (.string t)).setCell ⟨w.heap.size + 1, 2, none⟩ (.int .i64 n)).heap[w.heap.size + 1]? = some (.cells #[Value.slice A l.length cap, .string t, .int .i64 n] 24 (0, 0)) ∧
        Below w.heap.size w (((W2.setCell ⟨w.heap.size + 1, 0, none⟩ (Value.slice A l.length cap)).setCell ⟨w.heap.size + 1, 1, none⟩ (.string t)).setCell ⟨w.heap.size + 1, 2, none⟩ (.int .i64 n)) := by
      intro W2 h1 h2 hb
      refine ⟨⟨by rw [Lib.cell_of_heap h1]; rfl, by rw [Lib.cell_of_heap h1]; rfl, by rw [Lib.cell_of_heap h1]; rfl⟩, ⟨by rw [Lib.cell_of_heap h2]; rfl, by rw [Lib.cell_of_heap h2]; rfl, by rw [Lib.cell_of_heap h2]; rfl⟩, ⟨Lib.frozen_of_heap h2 0, Lib.frozen_of_heap h2 1, Lib.frozen_of_heap h2 2⟩, ?_,
        ((hb.setCell (p := ⟨w.heap.size + 1, 0, none⟩) (by simp) _).setCell (p := ⟨w.heap.size + 1, 1, none⟩) (by simp) _).setCell (p := ⟨w.heap.size + 1, 2, none⟩) (by simp) _⟩
      simp [World.setCell, Array.getElem?_modify, h2]
    have KEY := Lib.hid key; clear key
    rcases hk with ⟨hb, hk⟩ | ⟨hb, ⟨hbes, rfl⟩ | ⟨hbes, hn, rfl⟩⟩
    · rw [hb] at H2
      have q1 : (k == 0) = false := by simpa using hk
      have q2 : (k != 0) = true := by simpa using hk
      clear hb hk
      go_enter Tryz.func31, Tryz.ntmps31
      go_wp2_with fail
      generalize hW : World.alloc (World.alloc w _) _ = W2 at *
      clear hW
      obtain ⟨⟨k0, k1, k2⟩, ⟨r0, r1, r2⟩, ⟨f0, f1, f2⟩, g6, hb6⟩ := KEY.out W2 e1 e2 hb2
      have G6 := Lib.hid g6; have HB6 := Lib.hid hb6; clear g6 hb6 e1 e2 hb2
      refine (H2.out _).mono ?_; rintro e w' ⟨rfl, rfl⟩
      go_wp2_with fail
      refine bodyPost_ret (results_cellrow_tmp (p := 6) (u := 7) (ty := 24) rfl _ _ (w.heap.size + 1) _ _ _ _ rfl G6.out Tryz.underlying24 rfl (by kernel_rfl)) rfl ⟨rfl, HB6.out⟩
    · rw [hb] at H2
      rw [hbes] at HBV
      clear hb hbes
      go_enter Tryz.func31, Tryz.ntmps31
      go_wp2_with fail
      generalize hW : World.alloc (World.alloc w _) _ = W2 at *
      clear hW
      obtain ⟨⟨k0, k1, k2⟩, ⟨r0, r1, r2⟩, ⟨f0, f1, f2⟩, g6, hb6⟩ := KEY.out W2 e1 e2 hb2
      have HC := Lib.hid (R1_Beside_ok W2 cap (rdL hb2 HR.out) HBV.out)
      have G6 := Lib.hid g6; have HB6 := Lib.hid hb6; clear g6 hb6 e1 e2 hb2
      refine (H2.out _).mono ?_; rintro e w' ⟨rfl, rfl⟩
      go_wp2_with fail
      refine HC.out.mono ?_; rintro e w' ⟨rfl, rfl⟩
      go_wp2_with fail
      refine bodyPost_ret (results_cellrow_tmp (p := 6) (u := 7) (ty := 24) rfl _ _ (w.heap.size + 1) _ _ _ _ rfl G6.out Tryz.underlying24 rfl (by kernel_rfl)) rfl ⟨rfl, HB6.out⟩
    · rw [hb] at H2
      rw [hbes] at HBV
      clear hb hbes
      go_enter Tryz.func31, Tryz.ntmps31
      go_wp2_with fail
      generalize hW : World.alloc (World.alloc w _) _ = W2 at *
      clear hW
      obtain ⟨⟨k0, k1, k2⟩, ⟨r0, r1, r2⟩, ⟨f0, f1, f2⟩, g6, hb6⟩ := KEY.out W2 e1 e2 hb2
      have HC := Lib.hid (R1_Beside_ok W2 cap (rdL hb2 HR.out) HBV.out)
      have G6 := Lib.hid g6; have HB6 := Lib.hid hb6; clear g6 hb6 e1 e2 hb2
      refine (H2.out _).mono ?_; rintro e w' ⟨rfl, rfl⟩
      go_wp2_with fail
      refine HC.out.mono ?_; rintro e w' ⟨rfl, rfl⟩
      go_wp2_with fail
      refine bodyPost_ret (results_cellrow_tmp (p := 6) (u := 7) (ty := 24) rfl _ _ (w.heap.size + 1) _ _ _ _ rfl G6.out Tryz.underlying24 rfl (by kernel_rfl)) rfl ⟨rfl, HB6.out⟩
  refine go _ ?_
  by_cases c1 : bkE i j = 0
  · rw [if_pos c1] at he ⊢
    right; refine ⟨c1, ?_⟩
    cases hb : besL l i j with
    | false => rw [if_neg (by decide)]; exact .inl ⟨rfl, rfl⟩
    | true =>
      rw [hb, if_pos rfl] at he
      rw [if_pos rfl]
      by_cases c : 60 ≤ n
      · rw [if_pos c]; exact .inr ⟨rfl, c, rfl⟩
      · rw [if_neg c] at he; exact absurd rfl he
  · rw [if_neg c1]; exact .inl ⟨rfl, c1⟩
end Go.Proofs.YtjpfmbffiagjgaaGreatDoor
/- the document's book: how far -/
set_option linter.all false
set_option maxRecDepth 100000
namespace Go.Proofs.YtjpfmbffiagjgaaGreatDoor
open Go.RowKit Go.Shelf Pl
theorem in4_ev (a b c : Int) : R4_in 300 a b c = some (decide (b ≤ a ∧ a ≤ c)) := by
  unfold R4_in
  by_cases x : b ≤ a <;> by_cases y : a ≤ c <;> simp [x, y]
end Go.Proofs.YtjpfmbffiagjgaaGreatDoor
/- the document's book: cut -/
set_option linter.all false
set_option maxRecDepth 100000
namespace Go.Proofs.YtjpfmbffiagjgaaGreatDoor
open Go.RowKit Go.Shelf Pl
def cutL (l : List (Int × Int)) (i j : Int) : List (Int × Int) := l.filter fun p => !((p.1 == i && p.2 == j) || (p.1 == j && p.2 == i))
theorem cutL_step {l : List (Int × Int)} {i j : Int} {k : Nat} (hk : k < l.length) : cutL (l.take (k + 1)) i j = cutL (l.take k) i j ++ (if ((l[k].1 == i && l[k].2 == j) || (l[k].1 == j && l[k].2 == i)) = true then [] else [(l[k].1, l[k].2)]) := by
  unfold cutL
  rw [List.take_succ_eq_append_getElem hk, List.filter_append]
  congr 1
  generalize hc : ((l[k].1 == i && l[k].2 == j) || (l[k].1 == j && l[k].2 == i)) = c
  simp only [List.filter_cons, List.filter_nil, hc]
  cases c <;> rfl
set_option maxHeartbeats 4000000 in
theorem cut4_good {A : Option Addr} {cap : Nat} {l : List (Int × Int)} {t : ByteArray} {n i j : Int} (w : World) (hr : ReadsL w w.heap.size A l) (hl : l.length < 290) (ht : t.size < 1000000) (hn0 : 0 ≤ n) (he : r4C l n i j = 0) :
    Calls Tryz.prog 31 #[r4V (.slice A l.length cap) t n, .int .i64 i, .int .i64 j] w fun e w' =>
      ∃ V, e = .returned (.tuple #[r4V V (t ++ lineW (dnW (⟨#[99]⟩ : ByteArray) [i, j])) (n + 1), .int .i64 0]) ∧ Ow.ok w' w.heap.size (owL V (cutL l i j)) ∧ Below w.heap.size w w' := by
  have H2 := Lib.hid (fun w => R4_two_ok w (two_ev i j))
  have HR := Lib.hid hr; clear hr
  have hbev : R1_Beside 300 l i j = some (besL l i j) := R1_Beside_ev i j (by omega) (by omega)
  have HBV := Lib.hid hbev; clear hbev
  unfold r4C at he
  have hb : bkE i j = 0 := by
    by_cases c : bkE i j = 0
    · exact c
    · rw [if_neg c] at he; exact absurd he c
  rw [if_pos hb] at he
  have hbes : besL l i j = true := by
    cases c : besL l i j with
    | true => rfl
    | false => rw [c, if_neg (by decide)] at he; cases he
  rw [hbes, if_pos rfl] at he
  have hn : ¬ 60 ≤ n := fun c => by rw [if_pos c] at he; cases he
  have hij : (0 ≤ i ∧ i ≤ 7) ∧ (0 ≤ j ∧ j ≤ 7) := by
    unfold bkE at hb
    split at hb
    · assumption
    · cases hb
  have hne : i ≠ j := fun e => by
    unfold bkE at hb
    rw [if_pos hij, if_pos e] at hb
    cases hb
  have HNE := Lib.hid hne; clear hne
  rw [hb] at H2
  rw [hbes] at HBV
  have HDN := Lib.hid (fun (W : World) (A : Option Addr) (len cap : Nat) => down4_ok (A := A) (len := len) (cap := cap) (t := t) (word := (⟨#[99]⟩ : ByteArray)) (n := n) (i := i) (j := j) W hij.1 hij.2 (by rw [one_size]; omega) ht ⟨hn0, by omega⟩)
  unfold r4V at HDN ⊢
  clear hb hbes he
  have e1 : ((w.alloc (.cells #[Value.slice A l.length cap, .string t, .int .i64 n] 24)).alloc (.cells #[Value.slice none 0 0, .string { data := #[] }, .int .i64 0] 24)).heap[w.heap.size]? = some (.cells #[Value.slice A l.length cap, .string t, .int .i64 n] 24 (0, 0)) := by
    rw [heap_alloc_old _ _ _ (by simp)]; exact heap_alloc_new w _
  have e2 : ((w.alloc (.cells #[Value.slice A l.length cap, .string t, .int .i64 n] 24)).alloc (.cells #[Value.slice none 0 0, .string { data := #[] }, .int .i64 0] 24)).heap[w.heap.size + 1]? = some (.cells #[Value.slice none 0 0, .string { data := #[] }, .int .i64 0] 24 (0, 0)) := by
    have := heap_alloc_new (w.alloc (.cells #[Value.slice A l.length cap, .string t, .int .i64 n] 24)) (.cells #[Value.slice none 0 0, .string { data := #[] }, .int .i64 0] 24)
    simpa using this
  have hb2 : Below w.heap.size w ((w.alloc (.cells #[Value.slice A l.length cap, .string t, .int .i64 n] 24)).alloc (.cells #[Value.slice none 0 0, .string { data := #[] }, .int .i64 0] 24)) := ((Below.refl _ _).alloc (Nat.le_refl _) _).alloc (by simp) _
  go_enter Tryz.func31, Tryz.ntmps31
  go_wp2_with fail
  generalize hW : World.alloc (World.alloc w _) _ = W2 at *
  clear hW
  have k0 : W2.cell? ⟨w.heap.size, 0, none⟩ = some (Value.slice A l.length cap) := by rw [Lib.cell_of_heap e1]; rfl
  have k2 : W2.cell? ⟨w.heap.size, 2, none⟩ = some (.int .i64 n) := by rw [Lib.cell_of_heap e1]; rfl
  have HC := Lib.hid (R1_Beside_ok W2 cap (rdL hb2 HR.out) HBV.out)
  have l1 : w.heap.size < W2.heap.size := (Array.getElem?_eq_some_iff.1 e1).1
  have l2 : w.heap.size + 1 < W2.heap.size := (Array.getElem?_eq_some_iff.1 e2).1
  have HB2 := Lib.hid hb2; have G1 := Lib.hid e1; have G2 := Lib.hid e2; have K0 := Lib.hid k0
  clear hb2 e1 e2
  refine (H2.out _).mono ?_; rintro e w' ⟨rfl, rfl⟩
  go_wp2_with fail
  refine HC.out.mono ?_; rintro e w' ⟨rfl, rfl⟩
  go_wp2_with fail
  clear k0 k2
  go_loopg [9, 10] 300 (fun gg uv uk wr => ∃ (V : Value) (k : Nat), V = uv ∧ uk = .int .i64 k ∧ k ≤ l.length ∧ gg = 300 - k ∧ Hid (Below W2.heap.size W2 wr) ∧ Hid (HP wr W2.heap.size [.fl (owL V (cutL (l.take k) i j))]))
  case atStart => exact ⟨_, 0, rfl, rfl, by omega, rfl, Lib.hid (Below.refl _ _), Lib.hid (HP.nil.pushNil 64 2)⟩
  case round =>
    obtain ⟨V, k, rfl, rfl, hk, rfl, HD, HP_⟩ := hrel
    rename World => W3
    have c0 := (HD.out.cell (p := ⟨w.heap.size, 0, none⟩) l1).trans K0.out
    by_cases hkn : k < l.length
    · obtain ⟨b, o, rfl, hbl, h1, h2⟩ := (rdL (HB2.out.trans (HD.out.mono HB2.out.size)) HR.out).at_ hkn
      have HT := Lib.hid (cutL_step (i := i) (j := j) hkn)
      generalize l[k].1 = x at h1 HT
      generalize l[k].2 = y at h2 HT
      have hal : Below W3.heap.size W3 (W3.alloc (.cells #[.int .i64 x, .int .i64 y] 64)) := (Below.refl _ _).alloc (Nat.le_refl _) _
      have hlen : (cutL (l.take k) i j).length ≤ k := by
        unfold cutL
        have := List.length_filter_le (fun p : Int × Int => !((p.1 == i && p.2 == j) || (p.1 == j && p.2 == i))) (l.take k)
        rw [List.length_take] at this; omega
      obtain ⟨V', W5, q1, q2, q3, _⟩ := run_appL (W3.alloc (.cells #[.int .i64 x, .int .i64 y] 64)) 22 22 Tryz.underlying22 (e' := 64) (L1 := []) (L2 := []) (y := x) (z := y) (HP_.out.below hal) (by omega) (Nat.le_trans HD.out.size hal.size)
      simp only [World.size_alloc] at q1
      have HAL := Lib.hid hal; have Q1 := Lib.hid q1; have Q2 := Lib.hid q2; have Q3 := Lib.hid q3
      clear hal hlen q1 q2 q3
      have hr2 : ∀ c : Bool, ((x == i && y == j) || (x == j && y == i)) = c → Hid (cutL (l.take (k + 1)) i j = cutL (l.take k) i j ++ (if c = true then [] else [(x, y)])) := fun c hc => by
        show _ = _
        rw [← hc]; exact HT.out
      by_cases e1 : x = i
      · have b1 : (x == i) = true := beq_iff_eq.2 e1
        have b3 : (x == j) = false := beq_eq_false_iff_ne.2 fun h => HNE.out (e1.symm.trans h)
        by_cases e2 : y = j
        · have b2 : (y == j) = true := beq_iff_eq.2 e2
          have HT2 := hr2 true (by rw [b1, b2]; rfl)
          rw [if_pos rfl, List.append_nil] at HT2
          clear hr2 HT b3 e1 e2
          go_wp2_with fail
          go_roundg (300 - (k + 1))
          case measure => omega
          case rel => exact ⟨_, k + 1, rfl, by go_num, by omega, rfl, Lib.hid (HD.out.trans (HAL.out.mono HD.out.size)), Lib.hid (by rw [HT2.out]; exact HP_.out.below HAL.out)⟩
        · have b2 : (y == j) = false := beq_eq_false_iff_ne.2 e2
          have HT2 := hr2 false (by rw [b1, b2, b3]; rfl)
          rw [if_neg (by decide)] at HT2
          clear hr2 HT e1 e2
          go_wp2_with (at_builtin; refine wp_appRun Q1.out rfl rfl rfl rfl ?_)
          go_roundg (300 - (k + 1))
          case measure => omega
          case rel => exact ⟨_, k + 1, rfl, by go_num, by omega, rfl, Lib.hid (HD.out.trans ((HAL.out.mono HD.out.size).trans Q3.out)), Lib.hid (by rw [HT2.out]; exact Q2.out)⟩
      · have b1 : (x == i) = false := beq_eq_false_iff_ne.2 e1
        by_cases e3 : x = j
        · have b3 : (x == j) = true := beq_iff_eq.2 e3
          by_cases e4 : y = i
          · have b4 : (y == i) = true := beq_iff_eq.2 e4
            have HT2 := hr2 true (by rw [b1, b3, b4]; rfl)
            rw [if_pos rfl, List.append_nil] at HT2
            clear hr2 HT e1 e3 e4
            go_wp2_with fail
            go_roundg (300 - (k + 1))
            case measure => omega
            case rel => exact ⟨_, k + 1, rfl, by go_num, by omega, rfl, Lib.hid (HD.out.trans (HAL.out.mono HD.out.size)), Lib.hid (by rw [HT2.out]; exact HP_.out.below HAL.out)⟩
          · have b4 : (y == i) = false := beq_eq_false_iff_ne.2 e4
            have HT2 := hr2 false (by rw [b1, b3, b4]; rfl)
            rw [if_neg (by decide)] at HT2
            clear hr2 HT e1 e3 e4
            go_wp2_with (at_builtin; refine wp_appRun Q1.out rfl rfl rfl rfl ?_)
            go_roundg (300 - (k + 1))
            case measure => omega
            case rel => exact ⟨_, k + 1, rfl, by go_num, by omega, rfl, Lib.hid (HD.out.trans ((HAL.out.mono HD.out.size).trans Q3.out)), Lib.hid (by rw [HT2.out]; exact Q2.out)⟩
        · have b3 : (x == j) = false := beq_eq_false_iff_ne.2 e3
          have HT2 := hr2 false (by rw [b1, b3]; rfl)
          rw [if_neg (by decide)] at HT2
          clear hr2 HT e1 e3
          go_wp2_with (at_builtin; refine wp_appRun Q1.out rfl rfl rfl rfl ?_)
          go_roundg (300 - (k + 1))
          case measure => omega
          case rel => exact ⟨_, k + 1, rfl, by go_num, by omega, rfl, Lib.hid (HD.out.trans ((HAL.out.mono HD.out.size).trans Q3.out)), Lib.hid (by rw [HT2.out]; exact Q2.out)⟩
    · have hke : k = l.length := by omega
      subst hke
      have hall := HP_.out
      rw [List.take_length] at hall
      obtain ⟨A2, cap2, hv2, _⟩ := HP.open_L hall (List.Mem.head _)
      obtain ⟨nn, hnn⟩ : ∃ nn, nn = (cutL l i j).length := ⟨_, rfl⟩
      rw [← hnn] at hv2
      subst hv2
      have how : Ow.ok W3 W2.heap.size (owL (.slice A2 nn cap2) (cutL l i j)) := hall.get (List.Mem.head _)
      have g1 := (HD.out.block _ l1).trans G1.out
      have g2 := (HD.out.block _ l2).trans G2.out
      have mf : W3.frozen? ⟨w.heap.size, 0, none⟩ = false := Lib.frozen_of_heap g1 0
      have g1' : (W3.setCell ⟨w.heap.size, 0, none⟩ (.slice A2 nn cap2)).heap[w.heap.size]? = some (.cells #[Value.slice A2 nn cap2, .string t, .int .i64 n] 24 (0, 0)) := by
        simp [World.setCell, Array.getElem?_modify, g1]
      have g2' : (W3.setCell ⟨w.heap.size, 0, none⟩ (.slice A2 nn cap2)).heap[w.heap.size + 1]? = _ := (Below.heap_setCell W3 ⟨w.heap.size, 0, none⟩ _ (w.heap.size + 1) (by simp)).trans g2
      have how5 : Ow.ok (W3.setCell ⟨w.heap.size, 0, none⟩ (.slice A2 nn cap2)) W2.heap.size (owL (.slice A2 nn cap2) (cutL l i j)) := by
        refine Ow.ok.kept (row := some w.heap.size) how ⟨rfl, rfl, rfl, by simp [World.setCell], fun k _ hk => Below.heap_setCell _ _ _ _ (fun e => hk (by rw [e]))⟩ ?_
        cases hvb : (owL (.slice A2 nn cap2) (cutL l i j)).v.ownBlock with
        | none => exact .inl rfl
        | some k => right; intro e; have := (Ow.ok.lt how k hvb).1; cases e; omega
      have hb5 : Below w.heap.size w (W3.setCell ⟨w.heap.size, 0, none⟩ (.slice A2 nn cap2)) := (HB2.out.trans (HD.out.mono HB2.out.size)).setCell (p := ⟨w.heap.size, 0, none⟩) (Nat.le_refl _) _
      have J1 := Lib.hid g1'; have J2 := Lib.hid g2'; have HB5 := Lib.hid hb5; have HOW := Lib.hid how5; have HS2 := Lib.hid l2; have HB2S := Lib.hid HB2.out.size
      clear g1 g2 g1' g2' hb5 how how5 hall l1 l2 hnn hk hkn
      go_upto_region 16 with (fail)
      generalize hW : World.setCell W3 _ _ = W5 at *
      clear hW c0 mf
      have p0 : W5.cell? ⟨w.heap.size, 0, none⟩ = some (Value.slice A2 nn cap2) := by rw [Lib.cell_of_heap J1.out]; rfl
      have p1 : W5.cell? ⟨w.heap.size, 1, none⟩ = some (.string t) := by rw [Lib.cell_of_heap J1.out]; rfl
      have p2 : W5.cell? ⟨w.heap.size, 2, none⟩ = some (.int .i64 n) := by rw [Lib.cell_of_heap J1.out]; rfl
      go_wp2_with fail
      refine (HDN.out W5 A2 nn cap2).mono ?_; rintro e W6 ⟨rfl, hd6⟩
      have l5 : w.heap.size + 1 < W5.heap.size := (Array.getElem?_eq_some_iff.1 J2.out).1
      have g2 := (hd6.block _ l5).trans J2.out
      have hb6 := HB5.out.trans (hd6.mono HB5.out.size)
      have how6 : Ow.ok W6 W2.heap.size (owL (.slice A2 nn cap2) (cutL l i j)) := Ow.ok.kept HOW.out (grown_of_below hd6) (by cases (owL (.slice A2 nn cap2) (cutL l i j)).v.ownBlock <;> simp)
      obtain ⟨t2, ht2⟩ : ∃ t2, t2 = t ++ lineW (dnW (⟨#[99]⟩ : ByteArray) [i, j]) := ⟨_, rfl⟩
      rw [← ht2]
      have x0 : W6.cell? ⟨w.heap.size + 1, 0, none⟩ = some (Value.slice none 0 0) := by rw [Lib.cell_of_heap g2]; rfl
      have x1 : W6.cell? ⟨w.heap.size + 1, 1, none⟩ = some (.string { data := #[] }) := by rw [Lib.cell_of_heap g2]; rfl
      have x2 : W6.cell? ⟨w.heap.size + 1, 2, none⟩ = some (.int .i64 0) := by rw [Lib.cell_of_heap g2]; rfl
      have y0 : W6.frozen? ⟨w.heap.size + 1, 0, none⟩ = false := Lib.frozen_of_heap g2 0
      have y1 : W6.frozen? ⟨w.heap.size + 1, 1, none⟩ = false := Lib.frozen_of_heap g2 1
      have y2 : W6.frozen? ⟨w.heap.size + 1, 2, none⟩ = false := Lib.frozen_of_heap g2 2
      have g6 : (((W6.setCell ⟨w.heap.size + 1, 0, none⟩ (Value.slice A2 nn cap2)).setCell ⟨w.heap.size + 1, 1, none⟩ (.string t2)).setCell ⟨w.heap.size + 1, 2, none⟩ (.int .i64 (n + 1))).heap[w.heap.size + 1]? = some (.cells #[Value.slice A2 nn cap2, .string t2, .int .i64 (n + 1)] 24 (0, 0)) := by
        simp [World.setCell, Array.getElem?_modify, g2]
      have hb7 : Below w.heap.size w (((W6.setCell ⟨w.heap.size + 1, 0, none⟩ (Value.slice A2 nn cap2)).setCell ⟨w.heap.size + 1, 1, none⟩ (.string t2)).setCell ⟨w.heap.size + 1, 2, none⟩ (.int .i64 (n + 1))) :=
        ((hb6.setCell (p := ⟨w.heap.size + 1, 0, none⟩) (by simp) _).setCell (p := ⟨w.heap.size + 1, 1, none⟩) (by simp) _).setCell (p := ⟨w.heap.size + 1, 2, none⟩) (by simp) _
      have keep : ∀ (W : World) (k : Nat) (u : Value), Ow.ok W W2.heap.size (owL (.slice A2 nn cap2) (cutL l i j)) → Ow.ok (W.setCell ⟨w.heap.size + 1, k, none⟩ u) W2.heap.size (owL (.slice A2 nn cap2) (cutL l i j)) := by
        intro W k u hW
        refine Ow.ok.kept (row := some (w.heap.size + 1)) hW ⟨rfl, rfl, rfl, by simp [World.setCell], fun k _ hk => Below.heap_setCell _ _ _ _ (fun e => hk (by rw [e]))⟩ ?_
        cases hvb : (owL (.slice A2 nn cap2) (cutL l i j)).v.ownBlock with
        | none => exact .inl rfl
        | some k => right; intro e; have := (Ow.ok.lt hW k hvb).1; have := HS2.out; cases e; omega
      have how7 := keep _ 2 (.int .i64 (n + 1)) (keep _ 1 (.string t2) (keep _ 0 (Value.slice A2 nn cap2) how6))
      have HT2 := Lib.hid ht2
      have G6 := Lib.hid g6; have HB7 := Lib.hid hb7; have HOW7 := Lib.hid (Ow.ok.weak how7 HB2S.out)
      clear g6 hb7 how7 how6 keep g2 hb6 l5 ht2 hd6 p0 p1 p2
      go_wp2_with fail
      refine bodyPost_ret (results_cellrow_tmp (p := 6) (u := 7) (ty := 24) rfl _ _ (w.heap.size + 1) _ _ _ _ rfl G6.out Tryz.underlying24 rfl (by kernel_rfl)) rfl ⟨_, by rw [← HT2.out]; rfl, HOW7.out, HB7.out⟩
end Go.Proofs.YtjpfmbffiagjgaaGreatDoor
/- the document's book as a value: contracts in the generator's form; a variable that holds one -/
set_option linter.all false
set_option maxRecDepth 100000
namespace Go.Proofs.YtjpfmbffiagjgaaGreatDoor
open Go.RowKit Go.Shelf Pl
abbrev RbT := List (Int × Int) × ByteArray × Int
/-- the lines' row that a call gives: the one that was handed in, or the call's own -/
def RBo (W' : World) (B : Nat) (V0 : Value) (l0 : List (Int × Int)) (V : Value) (l : List (Int × Int)) : Prop := (V = V0 ∧ l = l0) ∨ Ow.ok W' B (owL V l)
theorem HP.rbo {W W' : World} {B : Nat} {its1 its2 : List It} {V V' : Value} {l l' : List (Int × Int)} (h : HP W B (its1 ++ .fl (owL V l) :: its2)) (hb : Below W.heap.size W W') (hB : B ≤ W.heap.size) (hr : RBo W' W.heap.size V l V' l') : HP W' B (its1 ++ .fl (owL V' l') :: its2) := by
  rcases hr with ⟨rfl, rfl⟩ | ho
  · exact h.below hb
  · obtain ⟨L1, L2, h1, h2⟩ := h.getAt
    refine h2 _ _ ?_
    have h1' := h1.below hb
    obtain ⟨a1, a2⟩ := h1
    obtain ⟨b1, b2⟩ := h1'
    have hap : ∀ x, x ∈ L1 ++ owL V l :: L2 → apart (owL V' l') x := fun x hx g hg hxg => by
      have c1 := (Ow.ok.lt ho g hg).1
      have c2 := (Ow.ok.lt (a1 x hx) g hxg).2
      omega
    rw [List.pairwise_append, List.pairwise_cons] at b2
    obtain ⟨p1, ⟨p2, p3⟩, p4⟩ := b2
    refine ⟨fun x hx => ?_, ?_⟩
    · rcases List.mem_append.1 hx with hx | hx
      · exact b1 x (by simp [hx])
      · rcases List.mem_cons.1 hx with rfl | hx
        · exact Ow.ok.weak ho hB
        · exact b1 x (by simp [hx])
    · rw [List.pairwise_append, List.pairwise_cons]
      refine ⟨p1, ⟨fun x hx => hap x (by simp [hx]), p3⟩, fun a ha b hb => ?_⟩
      rcases List.mem_cons.1 hb with rfl | hb
      · exact (hap a (by simp [ha])).symm
      · exact p4 a ha b (by simp [hb])
/-- a book in a variable -/
def owRB (g : Nat) (V : Value) (t : ByteArray) (n : Int) : Ow := ⟨24, 3, .slice (some ⟨g, 0, none⟩) 1 1, 1, [V, .string t, .int .i64 n]⟩
theorem owRB_ok (W : World) (V : Value) (t : ByteArray) (n : Int) : Ow.ok (W.alloc (.cells #[V, .string t, .int .i64 n] 24)) W.heap.size (owRB W.heap.size V t n) :=
  own_lit (w := W) (base := W.heap.size) (n := 1) (e := 24) #[V, .string t, .int .i64 n] 3 rfl (Nat.le_refl _) (by unfold maxLen; omega)
theorem rb_block {W : World} {B g : Nat} {V : Value} {t : ByteArray} {n : Int} (h : (owRB g V t n).ok W B) : B ≤ g ∧ W.heap[g]? = some (.cells #[V, .string t, .int .i64 n] 24 (0, 0)) := by
  have h : W.ownsRow B 24 3 (.slice (some ⟨g, 0, none⟩) 1 1) 1 [V, .string t, .int .i64 n] := h
  rcases h.2 with ⟨q, _⟩ | ⟨g', cap, cur, q1, q2, q3, q4, q5, q6, q7⟩
  · cases q
  · injection q1 with qa qb qc
    injection qa with qa
    injection qa with qa
    subst qa; subst qc
    have : cur.toList = [V, .string t, .int .i64 n] := by rw [List.take_of_length_le (by simp [q6])] at q7; exact q7
    exact ⟨q2, by rw [q3, show cur = #[V, .string t, .int .i64 n] from by rw [← Array.toList_inj, this]]⟩
theorem HP.rbGet {W : World} {B g : Nat} {its : List It} {V : Value} {t : ByteArray} {n : Int} (h : HP W B its) (hm : It.fl (owRB g V t n) ∈ its) :
    W.cell? ⟨g, 0, none⟩ = some V ∧ W.cell? ⟨g, 1, none⟩ = some (.string t) ∧ W.cell? ⟨g, 2, none⟩ = some (.int .i64 n) ∧ W.heap[g]? = some (.cells #[V, .string t, .int .i64 n] 24 (0, 0)) := by
  have hb := (rb_block (h.get hm)).2
  exact ⟨by rw [Lib.cell_of_heap hb]; rfl, by rw [Lib.cell_of_heap hb]; rfl, by rw [Lib.cell_of_heap hb]; rfl, hb⟩
theorem HP.setRB {W : World} {B g : Nat} {its1 its2 : List It} {V : Value} {t : ByteArray} {n : Int} (h : HP W B (its1 ++ .fl (owRB g V t n) :: its2)) (V' : Value) (t' : ByteArray) (n' : Int) :
    (W.frozen? ⟨g, 0, none⟩ = false ∧ W.frozen? ⟨g, 1, none⟩ = false ∧ W.frozen? ⟨g, 2, none⟩ = false) ∧
    HP (((W.setCell ⟨g, 0, none⟩ V').setCell ⟨g, 1, none⟩ (.string t')).setCell ⟨g, 2, none⟩ (.int .i64 n')) B (its1 ++ .fl (owRB g V' t' n') :: its2) ∧
    Below B W (((W.setCell ⟨g, 0, none⟩ V').setCell ⟨g, 1, none⟩ (.string t')).setCell ⟨g, 2, none⟩ (.int .i64 n')) := by
  obtain ⟨L1, L2, h1, h2⟩ := h.getAt
  have hok : (owRB g V t n).ok W B := h1.get (o := owRB g V t n) (by simp)
  obtain ⟨hB, hh⟩ := rb_block hok
  have hne : ∀ (W : World) (k : Nat) (u : Value) (j : Nat), j ≠ g → (W.setCell ⟨g, k, none⟩ u).heap[j]? = W.heap[j]? := fun W k u j hj => Below.heap_setCell W ⟨g, k, none⟩ u j hj
  have hnew : (((W.setCell ⟨g, 0, none⟩ V').setCell ⟨g, 1, none⟩ (.string t')).setCell ⟨g, 2, none⟩ (.int .i64 n')).heap[g]? = some (.cells #[V', .string t', .int .i64 n'] 24 (0, 0)) := by
    simp [World.setCell, Array.getElem?_modify, hh]
  have hbel : Below B W (((W.setCell ⟨g, 0, none⟩ V').setCell ⟨g, 1, none⟩ (.string t')).setCell ⟨g, 2, none⟩ (.int .i64 n')) :=
    (((Below.refl B W).setCell (p := ⟨g, 0, none⟩) hB _).setCell (p := ⟨g, 1, none⟩) hB _).setCell (p := ⟨g, 2, none⟩) hB _
  have hgb : W.grownBy (((W.setCell ⟨g, 0, none⟩ V').setCell ⟨g, 1, none⟩ (.string t')).setCell ⟨g, 2, none⟩ (.int .i64 n')) (owRB g V t n).v.ownBlock := by
    refine ⟨rfl, rfl, rfl, by simp [World.setCell], fun j _ hj => ?_⟩
    have hj' : j ≠ g := fun e => hj (by rw [e]; rfl)
    rw [hne _ _ _ _ hj', hne _ _ _ _ hj', hne _ _ _ _ hj']
  refine ⟨⟨Lib.frozen_of_heap hh 0, Lib.frozen_of_heap hh 1, Lib.frozen_of_heap hh 2⟩, h2 _ _ (h1.upd hgb ?_ (.inl rfl)), hbel⟩
  show (((W.setCell ⟨g, 0, none⟩ V').setCell ⟨g, 1, none⟩ (.string t')).setCell ⟨g, 2, none⟩ (.int .i64 n')).ownsRow B 24 3 (.slice (some ⟨g, 0, none⟩) 1 1) 1 [V', .string t', .int .i64 n']
  exact ⟨rfl, .inr ⟨g, 1, #[V', .string t', .int .i64 n'], rfl, hB, hnew, Nat.le_refl _, by unfold maxLen; omega, rfl, rfl⟩⟩
/-! ### contracts -/
def mJ4 (b : RbT) (i j : Int) : Option (RbT × Int) :=
  if b.1.length < 290 ∧ b.2.1.size < 1000000 ∧ 0 ≤ b.2.2 then
    some (if r4E b.1 b.2.2 i j = 0 then ((b.1 ++ [(i, j)], b.2.1 ++ lineW (dnW (⟨#[106]⟩ : ByteArray) [i, j]), b.2.2 + 1), 0) else (b, r4E b.1 b.2.2 i j)) else none
def mC4 (b : RbT) (i j : Int) : Option (RbT × Int) :=
  if b.1.length < 290 ∧ b.2.1.size < 1000000 ∧ 0 ≤ b.2.2 then
    some (if r4C b.1 b.2.2 i j = 0 then ((cutL b.1 i j, b.2.1 ++ lineW (dnW (⟨#[99]⟩ : ByteArray) [i, j]), b.2.2 + 1), 0) else (b, r4C b.1 b.2.2 i j)) else none
/-- a book and a number -/
def PostRB (w : World) (V0 : Value) (b : RbT) (r : RbT × Int) : Ending → World → Prop := fun e w' =>
  ∃ V, e = .returned (.tuple #[.agg #[V, .string r.1.2.1, .int .i64 r.1.2.2], .int .i64 r.2]) ∧ RBo w' w.heap.size V0 b.1 V r.1.1 ∧ Below w.heap.size w w'
theorem mJ4_ok {b : RbT} {A : Option Addr} {i j : Int} {r : RbT × Int} (w : World) (cap : Nat) (hr : ReadsL w w.heap.size A b.1) (h : mJ4 b i j = some r) :
    Calls Tryz.prog 30 #[.agg #[.slice A b.1.length cap, .string b.2.1, .int .i64 b.2.2], .int .i64 i, .int .i64 j] w (PostRB w (.slice A b.1.length cap) b r) := by
  obtain ⟨⟨h1, h2, h3⟩, rfl⟩ := s_of h
  by_cases c : r4E b.1 b.2.2 i j = 0
  · rw [if_pos c]
    refine (join4_good w hr h1 h2 h3 c).mono ?_
    rintro e w' ⟨V, rfl, ho, hb⟩
    exact ⟨V, rfl, .inr ho, hb⟩
  · rw [if_neg c]
    refine (join4_bad w hr h1 c).mono ?_
    rintro e w' ⟨rfl, hb⟩
    exact ⟨_, rfl, .inl ⟨rfl, rfl⟩, hb⟩
theorem mC4_ok {b : RbT} {A : Option Addr} {i j : Int} {r : RbT × Int} (w : World) (cap : Nat) (hr : ReadsL w w.heap.size A b.1) (h : mC4 b i j = some r) :
    Calls Tryz.prog 31 #[.agg #[.slice A b.1.length cap, .string b.2.1, .int .i64 b.2.2], .int .i64 i, .int .i64 j] w (PostRB w (.slice A b.1.length cap) b r) := by
  obtain ⟨⟨h1, h2, h3⟩, rfl⟩ := s_of h
  by_cases c : r4C b.1 b.2.2 i j = 0
  · rw [if_pos c]
    refine (cut4_good w hr h1 h2 h3 c).mono ?_
    rintro e w' ⟨V, rfl, ho, hb⟩
    exact ⟨V, rfl, .inr ho, hb⟩
  · rw [if_neg c]
    refine (cut4_bad w hr h1 c).mono ?_
    rintro e w' ⟨rfl, hb⟩
    exact ⟨_, rfl, .inl ⟨rfl, rfl⟩, hb⟩
end Go.Proofs.YtjpfmbffiagjgaaGreatDoor
