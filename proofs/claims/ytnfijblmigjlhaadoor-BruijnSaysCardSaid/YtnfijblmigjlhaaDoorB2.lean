import Derived.Test.YtnfijblmigjlhaaDoorB1
import Derived.StillTailTactics
set_option linter.all false
set_option maxRecDepth 100000
namespace Go.Proofs.YtnfijblmigjlhaaDoor
open Go.RowKit Pl
theorem int_info : (Tryd.prog.info? 3).map (fun i => (i.zero, i.size, i.bytes)) = some (some (.int .i64 0), 1, 8) := by kernel_rfl
def putV (B : Nat) : Value := .func (.func 17) #[] #[.pointer (some ⟨B+1, 0, none⟩), .pointer (some ⟨B+4, 0, none⟩), .pointer (some ⟨B+3, 0, none⟩), .pointer (some ⟨B+5, 0, none⟩), .pointer (some ⟨B, 0, none⟩)]
structure RSt (w : World) (B s l : Nat) (word out : List Int) : Prop where
  hs : w.heap[B]? = some (.cells #[.int .i64 s] 3 (0, 0))
  hl : w.heap[B+1]? = some (.cells #[.int .i64 l] 3 (0, 0))
  hd : w.heap[B+2]? = some (.cells (word.map (Value.int .i64)).toArray 3 (0, 0))
  hw : w.heap[B+3]? = some (.cells #[.slice (some ⟨B+2, 0, none⟩) (l+1) (l+1)] 22 (0, 0))
  ho : ∃ v, w.heap[B+4]? = some (.cells #[v] 22 (0, 0)) ∧ w.ownsRow (B+6) 3 1 v out.length (out.map (Value.int .i64))
  hp : w.heap[B+5]? = some (.cells #[putV B] 40 (0, 0))
theorem RSt.lt {w : World} {B s l : Nat} {word out : List Int} (h : RSt w B s l word out) : B + 6 ≤ w.heap.size := by
  have := (Array.getElem?_eq_some_iff.1 h.hp).1
  omega
theorem fz {w : World} {g o : Nat} {cs : Array Value} {t : TypeId} (h : w.heap[g]? = some (.cells cs t (0, 0))) : w.frozen? ⟨g, o, none⟩ = false := by
  simp [World.frozen?, h]
theorem cl {w : World} {g : Nat} {v : Value} {t : TypeId} (h : w.heap[g]? = some (.cells #[v] t (0, 0))) : w.cell? ⟨g, 0, none⟩ = some v := by
  rw [cell_of_row w g 0 _ t (0, 0) h]; rfl
theorem cld {w : World} {g k : Nat} {l : List Int} {t : TypeId} (h : w.heap[g]? = some (.cells (l.map (Value.int .i64)).toArray t (0, 0))) {x : Int} (hx : l[k]? = some x) : w.cell? ⟨g, k, none⟩ = some (.int .i64 x) := by
  rw [cell_of_row w g k _ t (0, 0) h]; simp [hx]
theorem RSt.drew {w : World} {B s l : Nat} {word out : List Int} (h : RSt w B s l word out) : RSt w.drew B s l word out := ⟨h.hs, h.hl, h.hd, h.hw, h.ho, h.hp⟩
theorem heap_set {w : World} {g : Nat} {cs : Array Value} {t : TypeId} (h : w.heap[g]? = some (.cells cs t (0, 0))) (k : Nat) (u : Value) : (w.setCell ⟨g, k, none⟩ u).heap[g]? = some (.cells (cs.setIfInBounds k u) t (0, 0)) := by
  simp [World.setCell, Array.getElem?_modify, h]
theorem RSt.setW {w : World} {B s l : Nat} {word out : List Int} (h : RSt w B s l word out) (k : Nat) (x : Int) : RSt (w.setCell ⟨B+2, k, none⟩ (.int .i64 x)) B s l (word.set k x) out := by
  refine ⟨(Below.heap_setCell w _ _ _ (by simp)).trans h.hs, (Below.heap_setCell w _ _ _ (by simp)).trans h.hl, ?_, (Below.heap_setCell w _ _ _ (by simp)).trans h.hw, ?_, (Below.heap_setCell w _ _ _ (by simp)).trans h.hp⟩
  · rw [heap_set h.hd]; simp
  · obtain ⟨v, h1, h2⟩ := h.ho
    exact ⟨v, (Below.heap_setCell w _ _ _ (by simp)).trans h1, ownsRow_setCell_below h2 (by simp) _⟩
theorem one_ints (l : List Int) : ∀ u ∈ l.map (Value.int .i64), u.oneCell' = true := by
  intro u hu
  obtain ⟨x, _, rfl⟩ := List.mem_map.1 hu
  rfl
theorem ret_end {fn : Func} {R : Ending → World → Prop} {a : Act} {w : World} (h : fn.results = #[]) (hd : a.defers = [])
    (hR : R (.returned (.tuple #[])) w) : bodyPost Tryd.prog fn R .ret a w :=
  bodyPost_ret (results_none h _ _ _) hd hR

/-- put at a word that is whole: t > long -/
theorem put_zero (s l t p B : Nat) (w : World) (word out : List Int) (h : RSt w B s l word out) (hl : l ≤ 6) (ht : t = l + 1) (hp1 : 1 ≤ p) (hpl : p ≤ l) (hw : word.length = l + 1) (hlen : out.length ≤ 1000000) :
    Calls Tryd.prog 17 #[.int .i64 t, .int .i64 p, .pointer (some ⟨B+1, 0, none⟩), .pointer (some ⟨B+4, 0, none⟩), .pointer (some ⟨B+3, 0, none⟩), .pointer (some ⟨B+5, 0, none⟩), .pointer (some ⟨B, 0, none⟩)] w
      fun e w' => e = .returned (.tuple #[]) ∧ RSt w' B s l (putM s l 0 t p (word, out)).1 (putM s l 0 t p (word, out)).2 ∧ Below B w w' := by
  obtain ⟨i0, hi0, hz0, hz1, hz2⟩ := info_parts int_info
  obtain ⟨vo, ho1, ho2⟩ := h.ho
  have c1 := cl h.hl; have c4 := cl ho1; have c3 := cl h.hw
  have f4 : w.frozen? ⟨B+4, 0, none⟩ = false := fz ho1
  by_cases hdiv : l % p = 0
  · have hM : Hid (putM s l 0 t p (word, out) = (word, out ++ (word.drop 1).take p)) := by show _ = _; simp [putM, hdiv]
    have hdb : (((l : Int) % (p : Int)) == 0) = true := by simp; omega
    have HD := Lib.hid hdiv; clear hdiv
    have HT := Lib.hid ht; clear ht
    have htl : (l : Int) < t := by have := HT.out; omega
    have H := Lib.hid h; clear h
    have hl0 : ¬ l = 0 := by omega
    have hpl1 : IntKind.i64.wrap ((p : Int) + 1) = p + 1 := IntWalk.i64_in _ (by omega)
    have hpl2 : (0 : Int) ≤ (p : Int) + 1 := by omega
    have hpl3 : ((p : Int) + 1).toNat = p + 1 := by omega
    have hpl4 : (p : Int) ≤ l := by omega
    have hpl5 : max ((p : Int) + 1) 0 = p + 1 := by omega
    have hpl6 : (1 : Int) ≤ (p : Int) + 1 := by omega
    go_enter Tryd.func17, Tryd.ntmps17
    go_wp2
    go_still_tail 5, (by kernel_rfl)
    clear hpl1 hpl2 hpl3 hpl4 hpl5 hpl6
    change wpList _ _ _ _ _ w.drew
    refine wpList_append_own_at w.drew rfl (.tmp 17) (.tmp 21) 22 rfl (B+6) 3 i0 _ 1 8 Tryd.underlying22 hi0 hz0 hz1 hz2 rfl (by omega) vo out.length _ rfl ho2 ⟨B+2, 1, none⟩ p l (((word.drop 1).take p).map (Value.int .i64)) rfl (by simp; omega) ?_ (one_ints _) (by unfold maxLen; omega) (by omega) (by have := H.out.lt; simp; omega) ?_
    · intro j u hu
      rw [List.getElem?_map] at hu
      cases hx : ((word.drop 1).take p)[j]? with
      | none => rw [hx] at hu; simp at hu
      | some x =>
        rw [hx] at hu
        obtain rfl : .int .i64 x = u := by simpa using hu
        have hx2 : word[1 + j]? = some x := by
          rw [List.getElem?_take] at hx
          split at hx
          · rw [List.getElem?_drop] at hx; exact hx
          · cases hx
        have := cld H.out.hd hx2
        rw [show ((⟨B + 2, 1, none⟩ : Addr).add j) = ⟨B + 2, 1 + j, none⟩ from by unfold Addr.add; split <;> simp_all]
        exact this
    intro v' w2 hown2 hg2 _ hat2
    obtain ⟨g, cap, rfl⟩ : ∃ g cap, v' = .slice (some ⟨g, 0, none⟩) (out.length + p) cap := by obtain ⟨g, cap, u, hv, _⟩ := own_at hown2 (k := 0) (by omega); exact ⟨g, cap, hv⟩
    have hvb : ∀ k, vo.ownBlock = some k → B + 6 ≤ k := fun k hk => (ho2.lt k hk).1
    have hbk : ∀ k, k < B + 6 → w2.heap[k]? = w.heap[k]? := fun k hk => hg2.block k (by have := H.out.lt; simp; omega) (fun e => by have := hvb k e.symm; omega)
    have c4' := cl ((hbk (B+4) (by omega)).trans ho1)
    have f4' : w2.frozen? ⟨B+4, 0, none⟩ = false := fz ((hbk (B+4) (by omega)).trans ho1)
    have HBK := Lib.hid hbk; clear hbk hvb
    have HSZ := Lib.hid hg2.size
    have HB2 : Hid (Below B w w2) := by
      have := H.out.lt
      exact (Below.refl B w).grown (w := w) ⟨hg2.os, hg2.tape, hg2.output, hg2.size, fun k hk hne => hg2.block k hk hne⟩ (by omega) (fun k hk => by have := (ho2.lt k hk).1; omega)
    go_wp2
    refine ret_end rfl rfl ⟨rfl, ?_, ?_⟩
    · rw [hM.out]
      have hh := H.out
      refine ⟨?_, ?_, ?_, ?_, ⟨.slice (some ⟨g, 0, none⟩) (out.length + p) cap, ?_, ?_⟩, ?_⟩
      · exact (Below.heap_setCell w2 _ _ _ (by simp)).trans ((HBK.out _ (by omega)).trans hh.hs)
      · exact (Below.heap_setCell w2 _ _ _ (by simp)).trans ((HBK.out _ (by omega)).trans hh.hl)
      · exact (Below.heap_setCell w2 _ _ _ (by simp)).trans ((HBK.out _ (by omega)).trans hh.hd)
      · exact (Below.heap_setCell w2 _ _ _ (by simp)).trans ((HBK.out _ (by omega)).trans hh.hw)
      · rw [heap_set ((HBK.out _ (by omega)).trans ho1)]; simp
      · have := ownsRow_setCell_below (a := ⟨B+4, 0, none⟩) hown2 (by simp) (.slice (some ⟨g, 0, none⟩) (out.length + p) cap)
        have e1 : (out ++ (word.drop 1).take p).length = out.length + p := by simp; omega
        rw [e1, List.map_append]; exact this
      · exact (Below.heap_setCell w2 _ _ _ (by simp)).trans ((HBK.out _ (by omega)).trans hh.hp)
    · exact HB2.out.setCell (p := ⟨B+4, 0, none⟩) (by simp) _
  · have hM : Hid (putM s l 0 t p (word, out) = (word, out)) := by show _ = _; simp [putM, hdiv]
    have hdb : (((l : Int) % (p : Int)) == 0) = false := by simp; omega
    have HD := Lib.hid hdiv; clear hdiv
    have HT := Lib.hid ht; clear ht
    have htl : (l : Int) < t := by have := HT.out; omega
    have H := Lib.hid h; clear h
    go_enter Tryd.func17, Tryd.ntmps17
    go_wp2
    refine ret_end rfl rfl ⟨rfl, ?_, Below.refl _ _⟩
    rw [hM.out]; exact H.out
end Go.Proofs.YtnfijblmigjlhaaDoor
