import Derived.Test.YtoiidngnlhhanaaWhole2
import Derived.Deep.AppendLies
import Derived.Deep.RegionLaw
set_option linter.all false
set_option maxRecDepth 100000
namespace Go.Proofs.Ytoiidngnlhhanaa
open Go.RowKit Go.Shelf Pl
attribute [local go_sem] Oper.semAt_some
theorem KeepT.own {B base size n : Nat} {W W' : World} {e : TypeId} {v : Value} {xs : List Value} (h : KeepT B W W') (he : ¬ TB e) (ho : W.ownsRow base e size v n xs) : W'.ownsRow base e size v n xs := by
  refine ⟨ho.1, ?_⟩
  rcases ho.2 with h0 | ⟨g, cap, cur, e1, h2, h3, h4⟩
  · exact .inl h0
  · exact .inr ⟨g, cap, cur, e1, h2, h.cells _ _ _ _ he h3, h4⟩
theorem KeepT.below {B : Nat} {w W W' : World} (h : KeepT B W W') (hb : Below B w W) (hw : B ≤ w.heap.size) : Below B w W' :=
  ⟨h.os.trans hb.os, h.tape.trans hb.tape, h.output.trans hb.output, Nat.le_trans hb.size h.size, fun k hk => (h.low k hk (by have := hb.size; omega)).trans (hb.block k hk)⟩
theorem tn1 : ¬ TB 52 := by unfold TB; decide
theorem tn2 : ¬ TB 23 := by unfold TB; decide
theorem tn3 : ¬ TB 3 := by unfold TB; decide
/-- rows of a row of rows -/
def RowsR (W : World) (base : Nat) : List Value → List (List Int) → Prop
  | [], [] => True
  | v :: vs, l :: ls => W.ownsRow base 3 1 v l.length (l.map (Value.int .i64)) ∧ RowsR W base vs ls
  | _, _ => False
theorem RowsR.imp {W W' : World} {base : Nat} (h : ∀ v n xs, W.ownsRow base 3 1 v n xs → W'.ownsRow base 3 1 v n xs) : ∀ (vs : List Value) (ls : List (List Int)), RowsR W base vs ls → RowsR W' base vs ls
  | [], [], _ => trivial
  | _ :: vs, _ :: ls, hr => ⟨h _ _ _ hr.1, RowsR.imp h vs ls hr.2⟩
  | [], _ :: _, hr => hr.elim
  | _ :: _, [], hr => hr.elim
theorem RowsR.snoc {W : World} {base : Nat} {v : Value} {l : List Int} (h : W.ownsRow base 3 1 v l.length (l.map (Value.int .i64))) : ∀ (vs : List Value) (ls : List (List Int)), RowsR W base vs ls → RowsR W base (vs ++ [v]) (ls ++ [l])
  | [], [], _ => ⟨h, trivial⟩
  | _ :: vs, _ :: ls, hr => ⟨hr.1, RowsR.snoc h vs ls hr.2⟩
  | [], _ :: _, hr => hr.elim
  | _ :: _, [], hr => hr.elim
theorem own_grown {W W' : World} {base size n : Nat} {e e2 : TypeId} {v v2 : Value} {xs ys : List Value} {s2 k2 b2 : Nat} (ho : W.ownsRow base e size v n xs) (h2 : W.ownsRow b2 e2 s2 v2 k2 ys) (hne : e ≠ e2) (hg : W.grownBy W' v2.ownBlock) : W'.ownsRow base e size v n xs := by
  refine ⟨ho.1, ?_⟩
  rcases ho.2 with h0 | ⟨g, cap, cur, e1, h3, h4, h5⟩
  · exact .inl h0
  · refine .inr ⟨g, cap, cur, e1, h3, ?_, h5⟩
    rw [hg.block g (Array.getElem?_eq_some_iff.1 h4).1 (fun e => ?_)]
    · exact h4
    · rcases h2.2 with ⟨rfl, _⟩ | ⟨g2, cap2, cur2, rfl, _, h6, _⟩
      · simp [Value.ownBlock] at e
      · simp [Value.ownBlock] at e; subst e
        rw [h4] at h6; cases h6; exact hne rfl
/-- what All's closure keeps -/
def JAll (w0 : World) (p : Nat) (pre : List Nat) (W : World) : Prop :=
  ∃ v vs, Boxed W p 52 v ∧ W.ownsRow w0.heap.size 23 1 v pre.length vs ∧ RowsR W w0.heap.size vs (pre.map membI) ∧ Below w0.heap.size w0 W
theorem own_kept {W W' : World} {base size n : Nat} {e : TypeId} {v : Value} {xs : List Value} {row : Option Nat} (ho : W.ownsRow base e size v n xs) (hg : W.grownBy W' row) (hne : row ≠ v.ownBlock) : W'.ownsRow base e size v n xs := by
  refine ⟨ho.1, ?_⟩
  rcases ho.2 with h0 | ⟨g, cap, cur, rfl, h3, h4, h5⟩
  · exact .inl h0
  · refine .inr ⟨g, cap, cur, rfl, h3, ?_, h5⟩
    rw [hg.block g (Array.getElem?_eq_some_iff.1 h4).1 (fun e => hne ?_)]
    · exact h4
    · simp only [Value.ownBlock]; exact e.symm
theorem FrS.grown {w W W' : World} {base size n : Nat} {e : TypeId} {v : Value} {xs : List Value} (h : FrS w W) (ho : W.ownsRow base e size v n xs) (he : ¬ TB e) (hg : W.grownBy W' v.ownBlock) : FrS w W' := by
  have key : ∀ k o, W.heap[k]? = some o → some k = v.ownBlock → ∃ cs f, o = .cells cs e f := by
    intro k o hk hv
    rcases ho.2 with ⟨rfl, _⟩ | ⟨g, cap, cur, rfl, _, h4, _⟩
    · simp [Value.ownBlock] at hv
    · simp [Value.ownBlock] at hv; subst hv
      rw [hk] at h4; cases h4; exact ⟨_, _, rfl⟩
  refine h.trans ⟨hg.size, fun k o hk hoc => ?_, fun k cs t f ht hk => ?_⟩
  · rw [hg.block k (Array.getElem?_eq_some_iff.1 hk).1 (fun hv => ?_)]
    · exact hk
    · obtain ⟨cs, f, rfl⟩ := key k o hk hv; cases hoc
  · rw [hg.block k (Array.getElem?_eq_some_iff.1 hk).1 (fun hv => ?_)]
    · exact hk
    · obtain ⟨cs, f, hh⟩ := key k _ hk hv; cases hh; exact he ht
theorem FrS.setBox {w W : World} {b : Nat} {t : TypeId} {v : Value} (h : FrS w W) (hb : Boxed W b t v) (ht : ¬ TB t) (u : Value) : FrS w (W.setCell ⟨b, 0, none⟩ u) := by
  refine h.trans ⟨by simp [World.setCell], fun k o hk hoc => ?_, fun k cs t' f ht' hk => ?_⟩
  · refine (Below.heap_setCell W ⟨b, 0, none⟩ u k (fun e => ?_)).trans hk
    simp at e; subst e; unfold Boxed at hb; rw [hb] at hk; cases hk; cases hoc
  · refine (Below.heap_setCell W ⟨b, 0, none⟩ u k (fun e => ?_)).trans hk
    simp at e; subst e; unfold Boxed at hb; rw [hb] at hk; cases hk; exact ht ht'
theorem all1_end {w0 w w1 w2 : World} {p s : Nat} {pre : List Nat} {vs : List Value} {v : Value} {A : Option Addr} {cap g cap2 : Nat} (hp : w0.heap.size ≤ p) (hws : w0.heap.size ≤ w.heap.size)
    (hr : RowsR w w0.heap.size vs (pre.map membI)) (hB : Below w0.heap.size w0 w)
    (ho1 : w1.ownsRow w0.heap.size 23 1 v pre.length vs) (hu : w1.ownsRow w.drew.heap.size 3 1 (.slice A (membI s).length cap) (membI s).length ((membI s).map (Value.int .i64))) (hbu : Below w.drew.heap.size w.drew w1)
    (hb2 : Boxed w2 p 52 v)
    (hown : w2.ownsRow w0.heap.size 23 1 (.slice (some ⟨g, 0, none⟩) (pre.length + 1) cap2) (pre.length + 1) (vs ++ [.slice A (membI s).length cap]))
    (hgr : (w1.alloc (.cells #[.slice A (membI s).length cap] 23)).grownBy w2 v.ownBlock) :
    JAll w0 p (pre ++ [s]) (w2.setCell ⟨p, 0, none⟩ (.slice (some ⟨g, 0, none⟩) (pre.length + 1) cap2)) ∧ FrS w (w2.setCell ⟨p, 0, none⟩ (.slice (some ⟨g, 0, none⟩) (pre.length + 1) cap2)) := by
  have hb3 := hb2.set (.slice (some ⟨g, 0, none⟩) (pre.length + 1) cap2)
  have hgs := grownBy_setCell' w2 p (.slice (some ⟨g, 0, none⟩) (pre.length + 1) cap2)
  have hsz : w.heap.size ≤ w1.heap.size := hbu.size
  have hk : KeepT w0.heap.size w.drew w1 := KeepT.of_below hbu hws (Nat.le_refl _)
  have inner : ∀ v' n xs, w1.ownsRow w0.heap.size 3 1 v' n xs → (w2.setCell ⟨p, 0, none⟩ (.slice (some ⟨g, 0, none⟩) (pre.length + 1) cap2)).ownsRow w0.heap.size 3 1 v' n xs := by
    intro v' n xs h
    have h2 := own_grown (h.alloc _) (ho1.alloc _) (by decide) hgr
    exact own_kept h2 hgs (hb2.not_row (by decide) h2)
  refine ⟨⟨_, vs ++ [.slice A (membI s).length cap], hb3, ?_, ?_, ?_⟩, ?_⟩
  · have := own_kept hown hgs (hb2.not_row (by decide) hown)
    simpa using this
  · rw [List.map_append, List.map_cons, List.map_nil]
    refine RowsR.snoc (inner _ _ _ (own_weak hu hws)) _ _ (RowsR.imp (fun v' n xs h => inner _ _ _ (hk.own tn3 h)) _ _ ?_)
    exact RowsR.imp (W := w) (W' := w.drew) (fun v' n xs h => h) _ _ hr
  · have b1 : Below w0.heap.size w0 w1 := (Below.drew hB).trans (hbu.mono hws)
    have b3 := b1.alloc (by omega) (.cells #[.slice A (membI s).length cap] 23)
    have b4 := b3.grown hgr (by simp; omega) (fun k hk => (ho1.lt k hk).1)
    exact b4.setCell (p := ⟨p, 0, none⟩) hp _
  · have f1 : FrS w w1 := FrS.of_below ((Below.drew (Below.refl _ w)).trans hbu)
    have f2 : FrS w (w1.alloc (.cells #[.slice A (membI s).length cap] 23)) := f1.trans (FrS.of_below ((Below.refl _ _).alloc (Nat.le_refl _) _))
    exact (f2.grown (ho1.alloc _) tn2 hgr).setBox hb2 tn1 _
theorem row_info : (Try.prog.info? 23).map (fun i => (i.zero, i.size, i.bytes)) = some (some (.slice none 0 0), 1, 24) := by kernel_rfl
set_option maxRecDepth 100000 in
set_option maxHeartbeats 4000000 in
theorem all1_any (w0 : World) (p : Nat) (hp : w0.heap.size ≤ p) (pre : List Nat) (s : Nat) (w : World) (hs : s < 65536) (hlen : pre.length ≤ 1000000000000) (hJ : JAll w0 p pre w) :
    Calls Try.prog 35 #[.int .u64 (s : Int), .pointer (some ⟨p, 0, none⟩)] w fun e w' => (∃ v, e = .returned v) ∧ JAll w0 p (pre ++ [s]) w' ∧ FrS w w' := by
  obtain ⟨v, vs, hb, ho, hr, hB⟩ := hJ
  obtain ⟨i0, hi0, hz0, hz1, hz2⟩ := info_parts row_info
  have hc := hb.cell; have hfz := hb.frozen
  have hpl := hb.lt
  have hws : w0.heap.size ≤ w.heap.size := hB.size
  have HB := Lib.hid hb; have HO := Lib.hid ho; have HR := Lib.hid hr; have HBE := Lib.hid hB
  clear hb ho hr hB
  go_enter Try.func35, Try.ntmps35
  go_wp2_with fail
  have HL := Lib.hid (list_any s hs w.drew)
  have key : ∀ (w1 : World) (u : Value), w1.ownsRow w.drew.heap.size 3 1 u (membI s).length ((membI s).map (Value.int .i64)) → Below w.drew.heap.size w.drew w1 →
      ∃ A cap, u = .slice A (membI s).length cap ∧ w1.cell? ⟨p, 0, none⟩ = some v ∧ Boxed w1 p 52 v ∧ w1.ownsRow w0.heap.size 23 1 v pre.length vs ∧ w.heap.size ≤ w1.heap.size ∧ p < w1.heap.size ∧ (w1.alloc (.cells #[.slice A (membI s).length cap] 23)).cell? ⟨p, 0, none⟩ = some v := by
    intro w1 u hu hbu
    obtain ⟨A, cap, rfl, _⟩ := own_reads hu
    have hk : KeepT w0.heap.size w.drew w1 := KeepT.of_below hbu hws (Nat.le_refl _)
    have hb1 : Boxed w1 p 52 v := hk.cells _ _ _ _ tn1 HB.out
    have hsz : w.heap.size ≤ w1.heap.size := hbu.size
    refine ⟨A, cap, rfl, hb1.cell, hb1, hk.own tn2 (show w.drew.ownsRow _ _ _ _ _ _ from HO.out), hsz, by omega, (hb1.alloc _).cell⟩
  have KEY := Lib.hid key
  clear key
  go_region_law (first
    | (go_simp; go_at_call 14; refine HL.out.mono ?_; rintro e w1 ⟨u, rfl, hu, hbu⟩
       obtain ⟨A, cap, rfl, hc1, hb1, ho1, hsz, hpl1, hca⟩ := KEY.out w1 u hu hbu
       have HU := Lib.hid hu; have HBU := Lib.hid hbu; have HO1 := Lib.hid ho1; have HB1 := Lib.hid hb1
       clear hu hbu ho1 hb1)
    | (refine step_append_lies _ rfl (.tmp 3) (.tmp 6) 52 rfl w0.heap.size 23 i0 _ 1 24 Try.underlying52 hi0 hz0 hz1 hz2 rfl (by omega) v pre.length vs (by simp [Act.eval, Act.put]) (HO1.out.alloc _) ⟨w1.heap.size, 0, none⟩ 1 1 [.slice A (membI s).length cap] (by simp [Act.eval, Act.put]) rfl (World.news_of_block (heap_alloc_new w1 _)) (by simp [Value.oneCell']) (by omega) (by unfold maxLen; omega) (by omega) (by simp; omega) _ rfl ?_
       intro g cap2 w2 hown hgr hat hlt
       have hb2 : Boxed w2 p 52 v := (HB1.out.alloc _).kept hgr (HB1.out.not_row (by decide) HO1.out)
       have hc2 := hb2.cell; have hf2 := hb2.frozen
       have HB2 := Lib.hid hb2; have HOWN := Lib.hid hown; have HGR := Lib.hid hgr
       clear hb2 hown hgr hat))
  all_goals
    go_end0
    exact ⟨⟨_, rfl⟩, all1_end hp hws HR.out HBE.out HO1.out HU.out HBU.out HB2.out HOWN.out HGR.out⟩
end Go.Proofs.Ytoiidngnlhhanaa
