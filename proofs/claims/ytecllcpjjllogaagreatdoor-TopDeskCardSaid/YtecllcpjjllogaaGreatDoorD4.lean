import Derived.Test.YtecllcpjjllogaaGreatDoorD2
import Derived.Laws.EntriesVeiled
/- desk: a line of a session -/
set_option linter.all false
set_option maxRecDepth 100000
namespace Go.Proofs.YtecllcpjjllogaaGreatDoor
open Go.RowKit Go.Shelf Pl
def kJ : ByteArray := ⟨#[106, 111, 105, 110]⟩
def kC : ByteArray := ⟨#[99, 117, 116]⟩
def kF : ByteArray := ⟨#[102, 97, 114]⟩
def kM : ByteArray := ⟨#[109, 97, 110, 121]⟩
def kX : ByteArray := ⟨#[99, 114, 97, 115, 104]⟩
def badS : ByteArray := ⟨#[98, 97, 100]⟩
/-- a verb: how many numbers it has, which it is -/
def vbO (x : ByteArray) : Option (Nat × Nat) := if x = kJ then some (2, 0) else if x = kC then some (2, 1) else if x = kF then some (2, 2) else if x = kM then some (0, 3) else if x = kX then some (1, 4) else none
def chkO {α : Type} (c : Prop) [Decidable c] (x : α) : Option α := if c then some x else none
theorem chkO_some {α : Type} {c : Prop} [Decidable c] {x y : α} (h : chkO c x = some y) : c ∧ x = y := by
  unfold chkO at h; split at h
  · exact ⟨by assumption, Option.some.inj h⟩
  · cases h
def vAct (b : BkT) (k : Nat) (ns : List Int) : Option (ByteArray × BkT) :=
  if k = 0 then (mJoin b (ns.getD 0 0) (ns.getD 1 0)).bind fun r => chkO (0 ≤ r.1 ∧ r.1 ≤ 6) (tld r.1, r.2)
  else if k = 1 then (mCut b (ns.getD 0 0) (ns.getD 1 0)).bind fun r => chkO (0 ≤ r.1 ∧ r.1 ≤ 6) (tld r.1, r.2)
  else if k = 2 then (brambleweir_book_Book_Far 300 b.1 (ns.getD 0 0) (ns.getD 1 0)).bind fun r => chkO ((0 ≤ r.2 ∧ r.2 ≤ 6) ∧ r.1 ≤ 1000) (farS r, b)
  else if k = 3 then (brambleweir_book_Book_Lines 300 b.1).bind fun lo => chkO (lo.length ≤ 1000) (dec (lo.length : Int), b)
  else if 0 ≤ ns.getD 0 0 ∧ b.2.1.size ≤ 1000000 then (mOpen (b.2.1.extract 0 (min (ns.getD 0 0) (b.2.1.size : Int)).toNat)).bind fun r => chkO ((0 ≤ r.1 ∧ r.1 ≤ 6) ∧ 0 ≤ r.2.1 ∧ r.2.1 ≤ 1000000) (if r.1 = 0 then fndS r.2.1 else tld r.1, if r.1 = 0 then r.2.2 else b)
  else none
def mVerb (b : BkT) (w0 : ByteArray) (ns : List Int) : Option (ByteArray × BkT) := match vbO w0 with
  | none => some (badS, b)
  | some (m, k) => if ns.length = m then vAct b k ns else some (badS, b)
def mAns (b : BkT) (s : ByteArray) : Option (ByteArray × BkT) := if s.size ≤ 100000 then (match wdN (wdsB s).tail [] with
  | none => some (badS, b)
  | some ns => mVerb b ((wdsB s).getD 0 ByteArray.empty) ns) else none
/-! ### the map of the verbs -/
def fnV (k : Nat) : Value := .func (.func (if k = 0 then 18 else if k = 1 then 19 else if k = 2 then 20 else if k = 3 then 21 else 22)) #[] #[]
def vE (k : ByteArray) (m : Nat) (f born : Nat) : MapEntry := ⟨.string k, .agg #[.int .i64 (m : Int), .func (.func f) #[] #[]], born⟩
def vEs : Array MapEntry := #[vE kJ 2 18 0, vE kC 2 19 1, vE kF 2 20 2, vE kM 0 21 3, vE kX 1 22 4]
theorem find_miss {x k : ByteArray} {v : Value} {n i : Nat} {l : List MapEntry} (h : x ≠ k) : Instr.findNow .string (.string x) (⟨.string k, v, n⟩ :: l) i = Instr.findNow .string (.string x) l (i + 1) := by
  have e : (x == k) = false := by
    cases q : (x == k) with
    | false => rfl
    | true => exact absurd ((MapKept.bytes_beq x k).1 q) h
  show (match Instr.sameNow .string (.string x) (.string k) with | some true => _ | some false => _ | none => _) = _
  have : Instr.sameNow .string (.string x) (.string k) = some (x == k) := rfl
  rw [this, e]
theorem find_hit {x : ByteArray} {v : Value} {n i : Nat} {l : List MapEntry} : Instr.findNow .string (.string x) (⟨.string x, v, n⟩ :: l) i = some (some (i, v)) := by
  have e : (x == x) = true := (MapKept.bytes_beq x x).2 rfl
  show (match Instr.sameNow .string (.string x) (.string x) with | some true => _ | some false => _ | none => _) = _
  have : Instr.sameNow .string (.string x) (.string x) = some (x == x) := rfl
  rw [this, e]
theorem vEs_list : vEs.toList = [vE kJ 2 18 0, vE kC 2 19 1, vE kF 2 20 2, vE kM 0 21 3, vE kX 1 22 4] := rfl
theorem find_some {x : ByteArray} {m k : Nat} (h : vbO x = some (m, k)) : ∃ i, Instr.findNow .string (.string x) vEs.toList 0 = some (some (i, .agg #[.int .i64 (m : Int), fnV k])) := by
  rw [vEs_list]
  unfold vbO at h
  unfold vE
  by_cases h0 : x = kJ
  · rw [if_pos h0] at h; cases h; exact ⟨0, by rw [← h0, find_hit]; rfl⟩
  rw [if_neg h0] at h
  by_cases h1 : x = kC
  · rw [if_pos h1] at h; cases h; exact ⟨1, by rw [find_miss h0, ← h1, find_hit]; rfl⟩
  rw [if_neg h1] at h
  by_cases h2 : x = kF
  · rw [if_pos h2] at h; cases h; exact ⟨2, by rw [find_miss h0, find_miss h1, ← h2, find_hit]; rfl⟩
  rw [if_neg h2] at h
  by_cases h3 : x = kM
  · rw [if_pos h3] at h; cases h; exact ⟨3, by rw [find_miss h0, find_miss h1, find_miss h2, ← h3, find_hit]; rfl⟩
  rw [if_neg h3] at h
  by_cases h4 : x = kX
  · rw [if_pos h4] at h; cases h; exact ⟨4, by rw [find_miss h0, find_miss h1, find_miss h2, find_miss h3, ← h4, find_hit]; rfl⟩
  rw [if_neg h4] at h; cases h
theorem find_none {x : ByteArray} (h : vbO x = none) : Instr.findNow .string (.string x) vEs.toList 0 = some none := by
  rw [vEs_list]
  unfold vbO at h
  unfold vE
  by_cases h0 : x = kJ
  · rw [if_pos h0] at h; cases h
  rw [if_neg h0] at h
  by_cases h1 : x = kC
  · rw [if_pos h1] at h; cases h
  rw [if_neg h1] at h
  by_cases h2 : x = kF
  · rw [if_pos h2] at h; cases h
  rw [if_neg h2] at h
  by_cases h3 : x = kM
  · rw [if_pos h3] at h; cases h
  rw [if_neg h3] at h
  by_cases h4 : x = kX
  · rw [if_pos h4] at h; cases h
  rw [find_miss h0, find_miss h1, find_miss h2, find_miss h3, find_miss h4]; rfl
theorem verb_zero : ∀ W : World, (zeroValue 55).run Tryz.prog W = .ok (.agg #[.int .i64 0, .nilFunc]) W := fun W => by kernel_rfl
theorem mget_some {W : World} {b c m k : Nat} {x : ByteArray} (hb : W.heap[b]? = some (.map vEs c)) (h : vbO x = some (m, k)) : (Instr.lookup 56 (.map (some b)) (.string x) true).run Tryz.prog W = .ok (.tuple #[.agg #[.int .i64 (m : Int), fnV k], .bool true]) W := by
  obtain ⟨i, hi⟩ := find_some h
  exact mget (z := .agg #[.int .i64 0, .nilFunc]) Tryz.underlying56 Tryz.underlying9 verb_zero hb hi
theorem mget_none {W : World} {b c : Nat} {x : ByteArray} (hb : W.heap[b]? = some (.map vEs c)) (h : vbO x = none) : (Instr.lookup 56 (.map (some b)) (.string x) true).run Tryz.prog W = .ok (.tuple #[.agg #[.int .i64 0, .nilFunc], .bool false]) W :=
  mget (z := .agg #[.int .i64 0, .nilFunc]) Tryz.underlying56 Tryz.underlying9 verb_zero hb (find_none h)
theorem vbO_cases {x : ByteArray} {m k : Nat} (h : vbO x = some (m, k)) : (m = 2 ∧ k = 0) ∨ (m = 2 ∧ k = 1) ∨ (m = 2 ∧ k = 2) ∨ (m = 0 ∧ k = 3) ∨ (m = 1 ∧ k = 4) := by
  unfold vbO at h
  split at h
  · cases h; simp
  split at h
  · cases h; simp
  split at h
  · cases h; simp
  split at h
  · cases h; simp
  split at h
  · cases h; simp
  cases h
def LnP (B g : Nat) (its1 its2 : List It) (r : ByteArray × BkT) (w : World) (e : Ending) (w' : World) : Prop :=
  ∃ gb', e = .returned (.string r.1) ∧ HP w' B (its1 ++ dkI g gb' r.2 its2) ∧ Below B w w' ∧ NC w w'
set_option maxHeartbeats 8000000 in
theorem dLine_okN {B g gb : Nat} {its1 its2 : List It} {b : BkT} {s : ByteArray} {r : ByteArray × BkT} (w : World) (hop : OpB B w) (htc : TyCell w) (h : HP w B (its1 ++ dkI g gb b its2)) (hB : B ≤ w.heap.size) (hgB : 1 < B) (hm : mAns b s = some r) :
    Calls Tryz.prog 11 #[.pointer (some ⟨g, 0, none⟩), .string s] w (LnP B g its1 its2 r w) := by
  unfold mAns at hm
  split at hm
  case isFalse => cases hm
  rename_i hss
  have hmm := @run_makeMap Tryz.prog
  have p1 : (Instr.mapUpdate 56 (.map (some w.heap.size)) (.string ⟨#[106, 111, 105, 110]⟩) (.agg #[.int .i64 2, .func (.func 18) #[] #[]])).run Tryz.prog (w.alloc (.map #[] 0)) = .ok () (w.alloc (.map #[vE kJ 2 18 0] 1)) :=
    mput_alloc Tryz.underlying56 Tryz.underlying9 (es := #[]) rfl
  have p2 : (Instr.mapUpdate 56 (.map (some w.heap.size)) (.string ⟨#[99, 117, 116]⟩) (.agg #[.int .i64 2, .func (.func 19) #[] #[]])).run Tryz.prog (w.alloc (.map #[vE kJ 2 18 0] 1)) = .ok () (w.alloc (.map #[vE kJ 2 18 0, vE kC 2 19 1] 2)) :=
    mput_alloc Tryz.underlying56 Tryz.underlying9 (es := #[vE kJ 2 18 0]) (by kernel_rfl)
  have p3 : (Instr.mapUpdate 56 (.map (some w.heap.size)) (.string ⟨#[102, 97, 114]⟩) (.agg #[.int .i64 2, .func (.func 20) #[] #[]])).run Tryz.prog (w.alloc (.map #[vE kJ 2 18 0, vE kC 2 19 1] 2)) = .ok () (w.alloc (.map #[vE kJ 2 18 0, vE kC 2 19 1, vE kF 2 20 2] 3)) :=
    mput_alloc Tryz.underlying56 Tryz.underlying9 (es := #[vE kJ 2 18 0, vE kC 2 19 1]) (by kernel_rfl)
  have p4 : (Instr.mapUpdate 56 (.map (some w.heap.size)) (.string ⟨#[109, 97, 110, 121]⟩) (.agg #[.int .i64 0, .func (.func 21) #[] #[]])).run Tryz.prog (w.alloc (.map #[vE kJ 2 18 0, vE kC 2 19 1, vE kF 2 20 2] 3)) = .ok () (w.alloc (.map #[vE kJ 2 18 0, vE kC 2 19 1, vE kF 2 20 2, vE kM 0 21 3] 4)) :=
    mput_alloc Tryz.underlying56 Tryz.underlying9 (es := #[vE kJ 2 18 0, vE kC 2 19 1, vE kF 2 20 2]) (by kernel_rfl)
  have p5 : (Instr.mapUpdate 56 (.map (some w.heap.size)) (.string ⟨#[99, 114, 97, 115, 104]⟩) (.agg #[.int .i64 1, .func (.func 22) #[] #[]])).run Tryz.prog (w.alloc (.map #[vE kJ 2 18 0, vE kC 2 19 1, vE kF 2 20 2, vE kM 0 21 3] 4)) = .ok () (w.alloc (.map vEs 5)) :=
    mput_alloc Tryz.underlying56 Tryz.underlying9 (es := #[vE kJ 2 18 0, vE kC 2 19 1, vE kF 2 20 2, vE kM 0 21 3]) (by kernel_rfl)
  have HOP := Lib.hid hop; have HTC := Lib.hid htc; have HOA := Lib.hid h; have HB := Lib.hid hB; have HG := Lib.hid hgB; have HM := Lib.hid hm
  clear hop htc h hB hgB hm
  go_enter Tryz.func11, Tryz.ntmps11
  go_upto_region 2 with (fail)
  have hb1 : (w.alloc (.map vEs 5)).heap[w.heap.size]? = some (.map vEs 5) := heap_alloc_new w _
  have hd : Below w.heap.size w (w.alloc (.map vEs 5)) := (Below.refl _ _).alloc (Nat.le_refl _) _
  replace HOA := Lib.hid (HOA.out.below hd)
  replace HOP := Lib.hid (HOP.out.go (hd.mono HB.out))
  replace HTC := Lib.hid (HTC.out.go hd)
  have HN := Lib.hid (NC.of_below hd)
  have HD := Lib.hid (hd.mono HB.out)
  replace HB := Lib.hid (Nat.le_trans HB.out hd.size); clear hd p1 p2 p3 p4 p5 hmm
  have HMB := Lib.hid hb1; clear hb1
  generalize hW1 : World.alloc w _ = W1 at *
  clear hW1
  generalize w.heap.size = mb at *
  go_wp2_with fail
  refine (splt_ok s ⟨#[32]⟩ W1 HOP.out (by omega) (by decide)).mono ?_; rintro e W3 ⟨rfl, hW3⟩
  have hlen : (wdsB s).length = Lib.countB s ⟨#[32]⟩ + 1 := Lib.splitB_all _ (by decide) 0 _ _ rfl
  have hcnt := Lib.countB_le ⟨#[32]⟩ (by decide) _ s (Nat.le_refl _)
  change W3 = W1.alloc (.cells ((wdsB s).map Value.string).toArray 9) at hW3
  have hsz : ∀ x ∈ wdsB s, x.size ≤ s.size := fun x hx => splitB_sz _ _ _ hx
  generalize hws : wdsB s = ws at *
  have ho : (owS (.slice (some ⟨W1.heap.size, 0, none⟩) ws.length ws.length) ws).ok W3 W1.heap.size := by
    rw [hW3]
    have := own_lit (w := W1) (base := W1.heap.size) (n := ws.length) (e := 9) (ws.map Value.string).toArray 1 (by simp) (Nat.le_refl _) (by unfold maxLen; omega)
    simp only [List.toList_toArray] at this
    exact this
  have hd : Below W1.heap.size W1 W3 := by rw [hW3]; exact (Below.refl _ _).alloc (Nat.le_refl _) _
  replace HMB := Lib.hid ((hd.block _ (Array.getElem?_eq_some_iff.1 HMB.out).1).trans HMB.out)
  replace HOA := Lib.hid (HOA.out.call hd HB.out ho); clear ho
  replace HOP := Lib.hid (HOP.out.go (hd.mono HB.out))
  replace HTC := Lib.hid (HTC.out.go hd)
  replace HN := Lib.hid (HN.out.trans (NC.of_below hd))
  replace HD := Lib.hid (HD.out.trans (hd.mono HB.out))
  replace HB := Lib.hid (Nat.le_trans HB.out hd.size); clear hd hW3
  generalize W1.heap.size = h at *
  rw [← hlen]
  obtain ⟨w0, tl, rfl⟩ : ∃ w0 tl, ws = w0 :: tl := by
    cases ws with
    | nil => simp at hlen
    | cons a t => exact ⟨a, t, rfl⟩
  rw [List.length_cons] at hlen ⊢
  have htl : tl.length < 1000000 := by omega
  have hxs : ∀ x ∈ tl, x.size ≤ 1000000 := fun x hx => by have := hsz x (List.mem_cons_of_mem _ hx); omega
  clear hlen hcnt hws hsz
  have hc0 := HP.strCell (i := 0) HOA.out (List.Mem.head _) rfl
  have hmv := HM.out
  change (match wdN tl [] with | none => some (badS, b) | some ns => mVerb b w0 ns) = some r at hmv
  replace HM := Lib.hid hmv; clear hmv
  have hone : (0 : Int) < ((tl.length + 1 : Nat) : Int) := by omega
  have hone2 : (1 : Int) ≤ ((tl.length + 1 : Nat) : Int) := by omega
  have hrdT : ∀ o : Nat, o = 1 → ∀ W, HP W B (.fl (owS (.slice (some ⟨h, 0, none⟩) (tl.length + 1) (tl.length + 1)) (w0 :: tl)) :: (its1 ++ dkI g gb b its2)) → tl ≠ [] → ReadsS W W.heap.size (some ⟨h, o, none⟩) tl := fun o ho W hp hne => by
    subst ho
    have hr := HP.rd_S hp (List.Mem.head _)
    obtain ⟨g', o', e, hb, hc⟩ := hr.2 (by rw [List.length_cons]; omega)
    cases e
    refine ⟨by simp [strV], fun _ => ⟨h, 1, rfl, hb, fun i x hx => ?_⟩⟩
    have := hc (i + 1) x (by simpa [strV] using hx)
    rw [show 0 + (i + 1) = 1 + i by omega] at this
    exact this
  have HRT := Lib.hid hrdT; clear hrdT
  generalize hwn : wdN tl [] = wn at *
  have HWN := Lib.hid hwn; clear hwn
  rcases hv : vbO w0 with _ | ⟨m, k⟩
  · have hlk := mget_none HMB.out hv
    have hd4 : Below W3.heap.size W3 (W3.alloc (.cells #[.int .i64 0, .nilFunc] 55)) := (Below.refl _ _).alloc (Nat.le_refl _) _
    have hv0 : (W3.alloc (.cells #[.int .i64 0, .nilFunc] 55)).cell? ⟨W3.heap.size, 0, none⟩ = some (.int .i64 0) := (Lib.cell_of_heap (heap_alloc_new W3 _) 0).trans rfl
    have hv1 : (W3.alloc (.cells #[.int .i64 0, .nilFunc] 55)).cell? ⟨W3.heap.size, 1, none⟩ = some (.nilFunc) := (Lib.cell_of_heap (heap_alloc_new W3 _) 1).trans rfl
    have hvl : W3.heap.size < (W3.alloc (.cells #[.int .i64 0, .nilFunc] 55)).heap.size := by simp
    replace HOA := Lib.hid (HOA.out.below hd4)
    replace HOP := Lib.hid (HOP.out.go (hd4.mono HB.out))
    replace HTC := Lib.hid (HTC.out.go hd4)
    replace HN := Lib.hid (HN.out.trans (NC.of_below hd4))
    replace HD := Lib.hid (HD.out.trans (hd4.mono HB.out))
    replace HB := Lib.hid (Nat.le_trans HB.out hd4.size); clear hd4
    by_cases hne : tl = []
    · subst hne
      have HWD := Lib.hid (words_ok (A := some ⟨h, 0, none⟩) (cap := 0) (l := []) _ HOP.out HB.out readsS_nil htl hxs)
      have HV := Lib.hid (And.intro hv0 (And.intro hv1 hvl)); clear hv0 hv1 hvl HRT hxs
      go_wp2_with fail
      generalize hgv : W3.heap.size = gv at *
      generalize hW4 : World.alloc W3 _ = W4 at *
      clear hW4 hgv
      refine HWD.out.mono ?_; rintro e W5 ⟨hd, hres⟩
      have hm0 := HM.out
      have v0 := (hd.cell (p := ⟨gv, 0, none⟩) HV.out.2.2).trans HV.out.1
      have v1 := (hd.cell (p := ⟨gv, 1, none⟩) HV.out.2.2).trans HV.out.2.1
      replace HOP := Lib.hid (HOP.out.go (hd.mono HB.out))
      replace HTC := Lib.hid (HTC.out.go hd)
      replace HN := Lib.hid (HN.out.trans (NC.of_below hd))
      replace HD := Lib.hid (HD.out.trans (hd.mono HB.out))
      rcases hres with ⟨hn, rfl⟩ | ⟨V, ns, hn, rfl, ho⟩
      · replace hn := HWN.out.symm.trans hn
        rw [hn] at hm0
        obtain rfl := Option.some.inj hm0
        replace HOA := Lib.hid (HOA.out.below hd)
        clear hm0 hn hd HWD HM
        go_wp2_with fail
        go_ret
        unfold LnP
        exact ⟨gb, rfl, HOA.out.sub (.cons _ (List.Sublist.refl _)), HD.out, HN.out⟩
      · replace hn := HWN.out.symm.trans hn
        rw [hn] at hm0
        replace hm0 : mVerb b w0 ns = some r := hm0
        unfold mVerb at hm0
        rw [hv] at hm0
        replace HOA := Lib.hid (HOA.out.call hd HB.out ho)
        replace HB := Lib.hid (Nat.le_trans HB.out hd.size)
        obtain ⟨A5, cap5, hV, _⟩ := HP.open_I HOA.out (List.Mem.head _)
        subst hV
        clear hn hd ho HWD HM
        obtain rfl := Option.some.inj hm0
        clear hm0
        go_wp2_with fail
        go_ret
        unfold LnP
        exact ⟨gb, rfl, HOA.out.sub (.cons _ (.cons _ (List.Sublist.refl _))), HD.out, HN.out⟩
    · have HWD := Lib.hid (words_ok (A := some ⟨h, 1, none⟩) (cap := tl.length) (l := tl) _ HOP.out HB.out (HRT.out 1 rfl _ HOA.out hne) htl hxs)
      have HV := Lib.hid (And.intro hv0 (And.intro hv1 hvl)); clear hv0 hv1 hvl HRT hxs
      go_wp2_with fail
      generalize hgv : W3.heap.size = gv at *
      generalize hW4 : World.alloc W3 _ = W4 at *
      clear hW4 hgv
      refine HWD.out.mono ?_; rintro e W5 ⟨hd, hres⟩
      have hm0 := HM.out
      have v0 := (hd.cell (p := ⟨gv, 0, none⟩) HV.out.2.2).trans HV.out.1
      have v1 := (hd.cell (p := ⟨gv, 1, none⟩) HV.out.2.2).trans HV.out.2.1
      replace HOP := Lib.hid (HOP.out.go (hd.mono HB.out))
      replace HTC := Lib.hid (HTC.out.go hd)
      replace HN := Lib.hid (HN.out.trans (NC.of_below hd))
      replace HD := Lib.hid (HD.out.trans (hd.mono HB.out))
      rcases hres with ⟨hn, rfl⟩ | ⟨V, ns, hn, rfl, ho⟩
      · replace hn := HWN.out.symm.trans hn
        rw [hn] at hm0
        obtain rfl := Option.some.inj hm0
        replace HOA := Lib.hid (HOA.out.below hd)
        clear hm0 hn hd HWD HM
        go_wp2_with fail
        go_ret
        unfold LnP
        exact ⟨gb, rfl, HOA.out.sub (.cons _ (List.Sublist.refl _)), HD.out, HN.out⟩
      · replace hn := HWN.out.symm.trans hn
        rw [hn] at hm0
        replace hm0 : mVerb b w0 ns = some r := hm0
        unfold mVerb at hm0
        rw [hv] at hm0
        replace HOA := Lib.hid (HOA.out.call hd HB.out ho)
        replace HB := Lib.hid (Nat.le_trans HB.out hd.size)
        obtain ⟨A5, cap5, hV, _⟩ := HP.open_I HOA.out (List.Mem.head _)
        subst hV
        clear hn hd ho HWD HM
        obtain rfl := Option.some.inj hm0
        clear hm0
        go_wp2_with fail
        go_ret
        unfold LnP
        exact ⟨gb, rfl, HOA.out.sub (.cons _ (.cons _ (List.Sublist.refl _))), HD.out, HN.out⟩

  · have hlk := mget_some HMB.out hv
    obtain ⟨fk, hfk⟩ : ∃ fk, fnV k = .func (.func fk) #[] #[] := ⟨_, rfl⟩
    rw [hfk] at hlk
    have HFK := Lib.hid hfk; clear hfk
    have hd4 : Below W3.heap.size W3 (W3.alloc (.cells #[.int .i64 (m : Int), .func (.func fk) #[] #[]] 55)) := (Below.refl _ _).alloc (Nat.le_refl _) _
    have hv0 : (W3.alloc (.cells #[.int .i64 (m : Int), .func (.func fk) #[] #[]] 55)).cell? ⟨W3.heap.size, 0, none⟩ = some (.int .i64 (m : Int)) := (Lib.cell_of_heap (heap_alloc_new W3 _) 0).trans rfl
    have hv1 : (W3.alloc (.cells #[.int .i64 (m : Int), .func (.func fk) #[] #[]] 55)).cell? ⟨W3.heap.size, 1, none⟩ = some (.func (.func fk) #[] #[]) := (Lib.cell_of_heap (heap_alloc_new W3 _) 1).trans rfl
    have hvl : W3.heap.size < (W3.alloc (.cells #[.int .i64 (m : Int), .func (.func fk) #[] #[]] 55)).heap.size := by simp
    replace HOA := Lib.hid (HOA.out.below hd4)
    replace HOP := Lib.hid (HOP.out.go (hd4.mono HB.out))
    replace HTC := Lib.hid (HTC.out.go hd4)
    replace HN := Lib.hid (HN.out.trans (NC.of_below hd4))
    replace HD := Lib.hid (HD.out.trans (hd4.mono HB.out))
    replace HB := Lib.hid (Nat.le_trans HB.out hd4.size); clear hd4
    by_cases hne : tl = []
    · subst hne
      have HWD := Lib.hid (words_ok (A := some ⟨h, 0, none⟩) (cap := 0) (l := []) _ HOP.out HB.out readsS_nil htl hxs)
      have HV := Lib.hid (And.intro hv0 (And.intro hv1 hvl)); clear hv0 hv1 hvl HRT hxs
      go_wp2_with fail
      generalize hgv : W3.heap.size = gv at *
      generalize hW4 : World.alloc W3 _ = W4 at *
      clear hW4 hgv
      refine HWD.out.mono ?_; rintro e W5 ⟨hd, hres⟩
      have hm0 := HM.out
      have v0 := (hd.cell (p := ⟨gv, 0, none⟩) HV.out.2.2).trans HV.out.1
      have v1 := (hd.cell (p := ⟨gv, 1, none⟩) HV.out.2.2).trans HV.out.2.1
      replace HOP := Lib.hid (HOP.out.go (hd.mono HB.out))
      replace HTC := Lib.hid (HTC.out.go hd)
      replace HN := Lib.hid (HN.out.trans (NC.of_below hd))
      replace HD := Lib.hid (HD.out.trans (hd.mono HB.out))
      rcases hres with ⟨hn, rfl⟩ | ⟨V, ns, hn, rfl, ho⟩
      · replace hn := HWN.out.symm.trans hn
        rw [hn] at hm0
        obtain rfl := Option.some.inj hm0
        replace HOA := Lib.hid (HOA.out.below hd)
        clear hm0 hn hd HWD HM
        go_wp2_with fail
        go_ret
        unfold LnP
        exact ⟨gb, rfl, HOA.out.sub (.cons _ (List.Sublist.refl _)), HD.out, HN.out⟩
      · replace hn := HWN.out.symm.trans hn
        rw [hn] at hm0
        replace hm0 : mVerb b w0 ns = some r := hm0
        unfold mVerb at hm0
        rw [hv] at hm0
        replace HOA := Lib.hid (HOA.out.call hd HB.out ho)
        replace HB := Lib.hid (Nat.le_trans HB.out hd.size)
        obtain ⟨A5, cap5, hV, _⟩ := HP.open_I HOA.out (List.Mem.head _)
        subst hV
        clear hn hd ho HWD HM
        have hmk : (m = 2 ∧ k = 0) ∨ (m = 2 ∧ k = 1) ∨ (m = 2 ∧ k = 2) ∨ (m = 0 ∧ k = 3) ∨ (m = 1 ∧ k = 4) := vbO_cases hv
        clear hv hlk
        rcases hmk with ⟨rfl, rfl⟩ | ⟨rfl, rfl⟩ | ⟨rfl, rfl⟩ | ⟨rfl, rfl⟩ | ⟨rfl, rfl⟩
        · -- verb 0
          replace hm0 : (if ns.length = 2 then vAct b 0 ns else some (badS, b)) = some r := hm0
          replace v1 : W5.cell? ⟨gv, 1, none⟩ = some (.func (.func 18) #[] #[]) := v1.trans (congrArg some (HFK.out.symm.trans (by unfold fnV; rfl)))
          by_cases hlen : ns.length = 2
          case neg =>
            rw [if_neg hlen] at hm0
            obtain rfl := Option.some.inj hm0
            have hnb : (((ns.length : Nat) : Int) != 2) = true := by rw [bne_iff_ne]; exact fun q => hlen (by omega)
            clear hm0 hlen
            go_wp2_with fail
            go_ret
            unfold LnP
            exact ⟨gb, rfl, HOA.out.sub (.cons _ (.cons _ (List.Sublist.refl _))), HD.out, HN.out⟩
          rw [if_pos hlen] at hm0
          have hnb : (((ns.length : Nat) : Int) != 2) = false := by rw [hlen]; rfl
          unfold vAct at hm0
          rw [if_pos rfl] at hm0
          obtain ⟨q, hq, hm0⟩ := obind hm0
          obtain ⟨hqe, rfl⟩ := chkO_some hm0
          obtain ⟨n0, n1, rfl⟩ : ∃ n0 n1, ns = [n0, n1] := by
            match ns, hlen with
            | [a, c], _ => exact ⟨a, c, rfl⟩
          replace hq : mJoin b n0 n1 = some q := hq
          have HC := Lib.hid (dJoin_okN (its1 := .fl (owI _ _) :: .fl (owS _ _) :: its1) W5 HOP.out.tab HTC.out HOA.out HB.out HG.out (HP.rd_I HOA.out (List.Mem.head _)) hq hqe (cap := cap5))
          clear hq hm0 hqe hlen
          go_wp2_with fail
          refine HC.out.mono ?_; rintro e W6 ⟨rfl, hp, hd, hn⟩
          replace HOA := Lib.hid hp; replace HD := Lib.hid (HD.out.trans hd); replace HN := Lib.hid (HN.out.trans hn); clear hp hd hn HC
          go_wp2_with fail
          go_ret
          unfold LnP
          exact ⟨gb, rfl, HOA.out.sub (.cons _ (.cons _ (List.Sublist.refl _))), HD.out, HN.out⟩
        · -- verb 1
          replace hm0 : (if ns.length = 2 then vAct b 1 ns else some (badS, b)) = some r := hm0
          replace v1 : W5.cell? ⟨gv, 1, none⟩ = some (.func (.func 19) #[] #[]) := v1.trans (congrArg some (HFK.out.symm.trans (by unfold fnV; rfl)))
          by_cases hlen : ns.length = 2
          case neg =>
            rw [if_neg hlen] at hm0
            obtain rfl := Option.some.inj hm0
            have hnb : (((ns.length : Nat) : Int) != 2) = true := by rw [bne_iff_ne]; exact fun q => hlen (by omega)
            clear hm0 hlen
            go_wp2_with fail
            go_ret
            unfold LnP
            exact ⟨gb, rfl, HOA.out.sub (.cons _ (.cons _ (List.Sublist.refl _))), HD.out, HN.out⟩
          rw [if_pos hlen] at hm0
          have hnb : (((ns.length : Nat) : Int) != 2) = false := by rw [hlen]; rfl
          unfold vAct at hm0
          rw [if_neg (by decide)] at hm0
          rw [if_pos rfl] at hm0
          obtain ⟨q, hq, hm0⟩ := obind hm0
          obtain ⟨hqe, rfl⟩ := chkO_some hm0
          obtain ⟨n0, n1, rfl⟩ : ∃ n0 n1, ns = [n0, n1] := by
            match ns, hlen with
            | [a, c], _ => exact ⟨a, c, rfl⟩
          replace hq : mCut b n0 n1 = some q := hq
          have HC := Lib.hid (dCut_okN (its1 := .fl (owI _ _) :: .fl (owS _ _) :: its1) W5 HOP.out.tab HTC.out HOA.out HB.out HG.out (HP.rd_I HOA.out (List.Mem.head _)) hq hqe (cap := cap5))
          clear hq hm0 hqe hlen
          go_wp2_with fail
          refine HC.out.mono ?_; rintro e W6 ⟨rfl, hp, hd, hn⟩
          replace HOA := Lib.hid hp; replace HD := Lib.hid (HD.out.trans hd); replace HN := Lib.hid (HN.out.trans hn); clear hp hd hn HC
          go_wp2_with fail
          go_ret
          unfold LnP
          exact ⟨gb, rfl, HOA.out.sub (.cons _ (.cons _ (List.Sublist.refl _))), HD.out, HN.out⟩
        · -- verb 2
          replace hm0 : (if ns.length = 2 then vAct b 2 ns else some (badS, b)) = some r := hm0
          replace v1 : W5.cell? ⟨gv, 1, none⟩ = some (.func (.func 20) #[] #[]) := v1.trans (congrArg some (HFK.out.symm.trans (by unfold fnV; rfl)))
          by_cases hlen : ns.length = 2
          case neg =>
            rw [if_neg hlen] at hm0
            obtain rfl := Option.some.inj hm0
            have hnb : (((ns.length : Nat) : Int) != 2) = true := by rw [bne_iff_ne]; exact fun q => hlen (by omega)
            clear hm0 hlen
            go_wp2_with fail
            go_ret
            unfold LnP
            exact ⟨gb, rfl, HOA.out.sub (.cons _ (.cons _ (List.Sublist.refl _))), HD.out, HN.out⟩
          rw [if_pos hlen] at hm0
          have hnb : (((ns.length : Nat) : Int) != 2) = false := by rw [hlen]; rfl
          unfold vAct at hm0
          rw [if_neg (by decide)] at hm0
          rw [if_neg (by decide)] at hm0
          rw [if_pos rfl] at hm0
          obtain ⟨q, hq, hm0⟩ := obind hm0
          obtain ⟨hqe, rfl⟩ := chkO_some hm0
          obtain ⟨n0, n1, rfl⟩ : ∃ n0 n1, ns = [n0, n1] := by
            match ns, hlen with
            | [a, c], _ => exact ⟨a, c, rfl⟩
          replace hq : brambleweir_book_Book_Far 300 b.1 n0 n1 = some q := hq
          have HC := Lib.hid (dFar_okN (its1 := .fl (owI _ _) :: .fl (owS _ _) :: its1) W5 HOP.out.tab HTC.out HOA.out HB.out (HP.rd_I HOA.out (List.Mem.head _)) hq hqe (cap := cap5))
          clear hq hm0 hqe hlen
          go_wp2_with fail
          refine HC.out.mono ?_; rintro e W6 ⟨rfl, hd⟩
          replace HOA := Lib.hid (HOA.out.below hd); replace HN := Lib.hid (HN.out.trans (NC.of_below hd)); replace HD := Lib.hid (HD.out.trans (hd.mono HB.out)); clear hd HC
          go_wp2_with fail
          go_ret
          unfold LnP
          exact ⟨gb, rfl, HOA.out.sub (.cons _ (.cons _ (List.Sublist.refl _))), HD.out, HN.out⟩
        · -- verb 3
          replace hm0 : (if ns.length = 0 then vAct b 3 ns else some (badS, b)) = some r := hm0
          replace v1 : W5.cell? ⟨gv, 1, none⟩ = some (.func (.func 21) #[] #[]) := v1.trans (congrArg some (HFK.out.symm.trans (by unfold fnV; rfl)))
          by_cases hlen : ns.length = 0
          case neg =>
            rw [if_neg hlen] at hm0
            obtain rfl := Option.some.inj hm0
            have hnb : (((ns.length : Nat) : Int) != 0) = true := by rw [bne_iff_ne]; exact fun q => hlen (by omega)
            clear hm0 hlen
            go_wp2_with fail
            go_ret
            unfold LnP
            exact ⟨gb, rfl, HOA.out.sub (.cons _ (.cons _ (List.Sublist.refl _))), HD.out, HN.out⟩
          rw [if_pos hlen] at hm0
          have hnb : (((ns.length : Nat) : Int) != 0) = false := by rw [hlen]; rfl
          unfold vAct at hm0
          rw [if_neg (by decide)] at hm0
          rw [if_neg (by decide)] at hm0
          rw [if_neg (by decide)] at hm0
          rw [if_pos rfl] at hm0
          obtain ⟨q, hq, hm0⟩ := obind hm0
          obtain ⟨hqe, rfl⟩ := chkO_some hm0
          have HC := Lib.hid (dMany_okN (n := 0) (its1 := .fl (owI _ _) :: .fl (owS _ _) :: its1) W5 HOP.out.tab HOA.out HB.out hq hqe (.slice A5 ns.length cap5))
          obtain rfl : ns = [] := List.eq_nil_of_length_eq_zero hlen
          clear hq hm0 hqe hlen
          go_wp2_with fail
          refine HC.out.mono ?_; rintro e W6 ⟨rfl, hd⟩
          replace HOA := Lib.hid (HOA.out.below hd); replace HN := Lib.hid (HN.out.trans (NC.of_below hd)); replace HD := Lib.hid (HD.out.trans (hd.mono HB.out)); clear hd HC
          go_wp2_with fail
          go_ret
          unfold LnP
          exact ⟨gb, rfl, HOA.out.sub (.cons _ (.cons _ (List.Sublist.refl _))), HD.out, HN.out⟩
        · -- verb 4
          replace hm0 : (if ns.length = 1 then vAct b 4 ns else some (badS, b)) = some r := hm0
          replace v1 : W5.cell? ⟨gv, 1, none⟩ = some (.func (.func 22) #[] #[]) := v1.trans (congrArg some (HFK.out.symm.trans (by unfold fnV; rfl)))
          by_cases hlen : ns.length = 1
          case neg =>
            rw [if_neg hlen] at hm0
            obtain rfl := Option.some.inj hm0
            have hnb : (((ns.length : Nat) : Int) != 1) = true := by rw [bne_iff_ne]; exact fun q => hlen (by omega)
            clear hm0 hlen
            go_wp2_with fail
            go_ret
            unfold LnP
            exact ⟨gb, rfl, HOA.out.sub (.cons _ (.cons _ (List.Sublist.refl _))), HD.out, HN.out⟩
          rw [if_pos hlen] at hm0
          have hnb : (((ns.length : Nat) : Int) != 1) = false := by rw [hlen]; rfl
          unfold vAct at hm0
          rw [if_neg (by decide)] at hm0
          rw [if_neg (by decide)] at hm0
          rw [if_neg (by decide)] at hm0
          rw [if_neg (by decide)] at hm0
          obtain ⟨n0, rfl⟩ : ∃ n0, ns = [n0] := by
            match ns, hlen with
            | [a], _ => exact ⟨a, rfl⟩
          replace hm0 : (if 0 ≤ n0 ∧ b.2.1.size ≤ 1000000 then (mOpen (b.2.1.extract 0 (min n0 (b.2.1.size : Int)).toNat)).bind fun r => chkO ((0 ≤ r.1 ∧ r.1 ≤ 6) ∧ 0 ≤ r.2.1 ∧ r.2.1 ≤ 1000000) (if r.1 = 0 then fndS r.2.1 else tld r.1, if r.1 = 0 then r.2.2 else b) else none) = some r := hm0
          split at hm0
          case isFalse => cases hm0
          rename_i hcnd
          obtain ⟨q, hq, hm0⟩ := obind hm0
          obtain ⟨hqe, hrr⟩ := chkO_some hm0
          have HRR := Lib.hid hrr
          have HC := Lib.hid (dCrash_okN (its1 := .fl (owI _ _) :: .fl (owS _ _) :: its1) W5 HOP.out HTC.out HOA.out HB.out HG.out (List.Mem.head _) hcnd.1 hcnd.2 hq hqe (cap := cap5))
          clear hq hm0 hqe hlen hcnd hrr
          go_wp2_with fail
          refine HC.out.mono ?_; rintro e W6 hcr
          unfold CrP at hcr
          obtain ⟨gb', he, hp, hd, hn⟩ := hcr
          have h1 := congrArg Prod.fst HRR.out
          have h2 := congrArg Prod.snd HRR.out
          dsimp only at h1 h2
          rw [h1] at he
          rw [h2] at hp
          subst he
          have HP6 := Lib.hid hp; replace HD := Lib.hid (HD.out.trans hd); replace HN := Lib.hid (HN.out.trans hn); clear hp hd hn HC HRR h1 h2
          go_wp2_with fail
          go_ret
          unfold LnP
          exact ⟨gb', rfl, HP6.out.sub (.cons _ (.cons _ (List.Sublist.refl _))), HD.out, HN.out⟩
    · have HWD := Lib.hid (words_ok (A := some ⟨h, 1, none⟩) (cap := tl.length) (l := tl) _ HOP.out HB.out (HRT.out 1 rfl _ HOA.out hne) htl hxs)
      have HV := Lib.hid (And.intro hv0 (And.intro hv1 hvl)); clear hv0 hv1 hvl HRT hxs
      go_wp2_with fail
      generalize hgv : W3.heap.size = gv at *
      generalize hW4 : World.alloc W3 _ = W4 at *
      clear hW4 hgv
      refine HWD.out.mono ?_; rintro e W5 ⟨hd, hres⟩
      have hm0 := HM.out
      have v0 := (hd.cell (p := ⟨gv, 0, none⟩) HV.out.2.2).trans HV.out.1
      have v1 := (hd.cell (p := ⟨gv, 1, none⟩) HV.out.2.2).trans HV.out.2.1
      replace HOP := Lib.hid (HOP.out.go (hd.mono HB.out))
      replace HTC := Lib.hid (HTC.out.go hd)
      replace HN := Lib.hid (HN.out.trans (NC.of_below hd))
      replace HD := Lib.hid (HD.out.trans (hd.mono HB.out))
      rcases hres with ⟨hn, rfl⟩ | ⟨V, ns, hn, rfl, ho⟩
      · replace hn := HWN.out.symm.trans hn
        rw [hn] at hm0
        obtain rfl := Option.some.inj hm0
        replace HOA := Lib.hid (HOA.out.below hd)
        clear hm0 hn hd HWD HM
        go_wp2_with fail
        go_ret
        unfold LnP
        exact ⟨gb, rfl, HOA.out.sub (.cons _ (List.Sublist.refl _)), HD.out, HN.out⟩
      · replace hn := HWN.out.symm.trans hn
        rw [hn] at hm0
        replace hm0 : mVerb b w0 ns = some r := hm0
        unfold mVerb at hm0
        rw [hv] at hm0
        replace HOA := Lib.hid (HOA.out.call hd HB.out ho)
        replace HB := Lib.hid (Nat.le_trans HB.out hd.size)
        obtain ⟨A5, cap5, hV, _⟩ := HP.open_I HOA.out (List.Mem.head _)
        subst hV
        clear hn hd ho HWD HM
        have hmk : (m = 2 ∧ k = 0) ∨ (m = 2 ∧ k = 1) ∨ (m = 2 ∧ k = 2) ∨ (m = 0 ∧ k = 3) ∨ (m = 1 ∧ k = 4) := vbO_cases hv
        clear hv hlk
        rcases hmk with ⟨rfl, rfl⟩ | ⟨rfl, rfl⟩ | ⟨rfl, rfl⟩ | ⟨rfl, rfl⟩ | ⟨rfl, rfl⟩
        · -- verb 0
          replace hm0 : (if ns.length = 2 then vAct b 0 ns else some (badS, b)) = some r := hm0
          replace v1 : W5.cell? ⟨gv, 1, none⟩ = some (.func (.func 18) #[] #[]) := v1.trans (congrArg some (HFK.out.symm.trans (by unfold fnV; rfl)))
          by_cases hlen : ns.length = 2
          case neg =>
            rw [if_neg hlen] at hm0
            obtain rfl := Option.some.inj hm0
            have hnb : (((ns.length : Nat) : Int) != 2) = true := by rw [bne_iff_ne]; exact fun q => hlen (by omega)
            clear hm0 hlen
            go_wp2_with fail
            go_ret
            unfold LnP
            exact ⟨gb, rfl, HOA.out.sub (.cons _ (.cons _ (List.Sublist.refl _))), HD.out, HN.out⟩
          rw [if_pos hlen] at hm0
          have hnb : (((ns.length : Nat) : Int) != 2) = false := by rw [hlen]; rfl
          unfold vAct at hm0
          rw [if_pos rfl] at hm0
          obtain ⟨q, hq, hm0⟩ := obind hm0
          obtain ⟨hqe, rfl⟩ := chkO_some hm0
          obtain ⟨n0, n1, rfl⟩ : ∃ n0 n1, ns = [n0, n1] := by
            match ns, hlen with
            | [a, c], _ => exact ⟨a, c, rfl⟩
          replace hq : mJoin b n0 n1 = some q := hq
          have HC := Lib.hid (dJoin_okN (its1 := .fl (owI _ _) :: .fl (owS _ _) :: its1) W5 HOP.out.tab HTC.out HOA.out HB.out HG.out (HP.rd_I HOA.out (List.Mem.head _)) hq hqe (cap := cap5))
          clear hq hm0 hqe hlen
          go_wp2_with fail
          refine HC.out.mono ?_; rintro e W6 ⟨rfl, hp, hd, hn⟩
          replace HOA := Lib.hid hp; replace HD := Lib.hid (HD.out.trans hd); replace HN := Lib.hid (HN.out.trans hn); clear hp hd hn HC
          go_wp2_with fail
          go_ret
          unfold LnP
          exact ⟨gb, rfl, HOA.out.sub (.cons _ (.cons _ (List.Sublist.refl _))), HD.out, HN.out⟩
        · -- verb 1
          replace hm0 : (if ns.length = 2 then vAct b 1 ns else some (badS, b)) = some r := hm0
          replace v1 : W5.cell? ⟨gv, 1, none⟩ = some (.func (.func 19) #[] #[]) := v1.trans (congrArg some (HFK.out.symm.trans (by unfold fnV; rfl)))
          by_cases hlen : ns.length = 2
          case neg =>
            rw [if_neg hlen] at hm0
            obtain rfl := Option.some.inj hm0
            have hnb : (((ns.length : Nat) : Int) != 2) = true := by rw [bne_iff_ne]; exact fun q => hlen (by omega)
            clear hm0 hlen
            go_wp2_with fail
            go_ret
            unfold LnP
            exact ⟨gb, rfl, HOA.out.sub (.cons _ (.cons _ (List.Sublist.refl _))), HD.out, HN.out⟩
          rw [if_pos hlen] at hm0
          have hnb : (((ns.length : Nat) : Int) != 2) = false := by rw [hlen]; rfl
          unfold vAct at hm0
          rw [if_neg (by decide)] at hm0
          rw [if_pos rfl] at hm0
          obtain ⟨q, hq, hm0⟩ := obind hm0
          obtain ⟨hqe, rfl⟩ := chkO_some hm0
          obtain ⟨n0, n1, rfl⟩ : ∃ n0 n1, ns = [n0, n1] := by
            match ns, hlen with
            | [a, c], _ => exact ⟨a, c, rfl⟩
          replace hq : mCut b n0 n1 = some q := hq
          have HC := Lib.hid (dCut_okN (its1 := .fl (owI _ _) :: .fl (owS _ _) :: its1) W5 HOP.out.tab HTC.out HOA.out HB.out HG.out (HP.rd_I HOA.out (List.Mem.head _)) hq hqe (cap := cap5))
          clear hq hm0 hqe hlen
          go_wp2_with fail
          refine HC.out.mono ?_; rintro e W6 ⟨rfl, hp, hd, hn⟩
          replace HOA := Lib.hid hp; replace HD := Lib.hid (HD.out.trans hd); replace HN := Lib.hid (HN.out.trans hn); clear hp hd hn HC
          go_wp2_with fail
          go_ret
          unfold LnP
          exact ⟨gb, rfl, HOA.out.sub (.cons _ (.cons _ (List.Sublist.refl _))), HD.out, HN.out⟩
        · -- verb 2
          replace hm0 : (if ns.length = 2 then vAct b 2 ns else some (badS, b)) = some r := hm0
          replace v1 : W5.cell? ⟨gv, 1, none⟩ = some (.func (.func 20) #[] #[]) := v1.trans (congrArg some (HFK.out.symm.trans (by unfold fnV; rfl)))
          by_cases hlen : ns.length = 2
          case neg =>
            rw [if_neg hlen] at hm0
            obtain rfl := Option.some.inj hm0
            have hnb : (((ns.length : Nat) : Int) != 2) = true := by rw [bne_iff_ne]; exact fun q => hlen (by omega)
            clear hm0 hlen
            go_wp2_with fail
            go_ret
            unfold LnP
            exact ⟨gb, rfl, HOA.out.sub (.cons _ (.cons _ (List.Sublist.refl _))), HD.out, HN.out⟩
          rw [if_pos hlen] at hm0
          have hnb : (((ns.length : Nat) : Int) != 2) = false := by rw [hlen]; rfl
          unfold vAct at hm0
          rw [if_neg (by decide)] at hm0
          rw [if_neg (by decide)] at hm0
          rw [if_pos rfl] at hm0
          obtain ⟨q, hq, hm0⟩ := obind hm0
          obtain ⟨hqe, rfl⟩ := chkO_some hm0
          obtain ⟨n0, n1, rfl⟩ : ∃ n0 n1, ns = [n0, n1] := by
            match ns, hlen with
            | [a, c], _ => exact ⟨a, c, rfl⟩
          replace hq : brambleweir_book_Book_Far 300 b.1 n0 n1 = some q := hq
          have HC := Lib.hid (dFar_okN (its1 := .fl (owI _ _) :: .fl (owS _ _) :: its1) W5 HOP.out.tab HTC.out HOA.out HB.out (HP.rd_I HOA.out (List.Mem.head _)) hq hqe (cap := cap5))
          clear hq hm0 hqe hlen
          go_wp2_with fail
          refine HC.out.mono ?_; rintro e W6 ⟨rfl, hd⟩
          replace HOA := Lib.hid (HOA.out.below hd); replace HN := Lib.hid (HN.out.trans (NC.of_below hd)); replace HD := Lib.hid (HD.out.trans (hd.mono HB.out)); clear hd HC
          go_wp2_with fail
          go_ret
          unfold LnP
          exact ⟨gb, rfl, HOA.out.sub (.cons _ (.cons _ (List.Sublist.refl _))), HD.out, HN.out⟩
        · -- verb 3
          replace hm0 : (if ns.length = 0 then vAct b 3 ns else some (badS, b)) = some r := hm0
          replace v1 : W5.cell? ⟨gv, 1, none⟩ = some (.func (.func 21) #[] #[]) := v1.trans (congrArg some (HFK.out.symm.trans (by unfold fnV; rfl)))
          by_cases hlen : ns.length = 0
          case neg =>
            rw [if_neg hlen] at hm0
            obtain rfl := Option.some.inj hm0
            have hnb : (((ns.length : Nat) : Int) != 0) = true := by rw [bne_iff_ne]; exact fun q => hlen (by omega)
            clear hm0 hlen
            go_wp2_with fail
            go_ret
            unfold LnP
            exact ⟨gb, rfl, HOA.out.sub (.cons _ (.cons _ (List.Sublist.refl _))), HD.out, HN.out⟩
          rw [if_pos hlen] at hm0
          have hnb : (((ns.length : Nat) : Int) != 0) = false := by rw [hlen]; rfl
          unfold vAct at hm0
          rw [if_neg (by decide)] at hm0
          rw [if_neg (by decide)] at hm0
          rw [if_neg (by decide)] at hm0
          rw [if_pos rfl] at hm0
          obtain ⟨q, hq, hm0⟩ := obind hm0
          obtain ⟨hqe, rfl⟩ := chkO_some hm0
          have HC := Lib.hid (dMany_okN (n := 0) (its1 := .fl (owI _ _) :: .fl (owS _ _) :: its1) W5 HOP.out.tab HOA.out HB.out hq hqe (.slice A5 ns.length cap5))
          obtain rfl : ns = [] := List.eq_nil_of_length_eq_zero hlen
          clear hq hm0 hqe hlen
          go_wp2_with fail
          refine HC.out.mono ?_; rintro e W6 ⟨rfl, hd⟩
          replace HOA := Lib.hid (HOA.out.below hd); replace HN := Lib.hid (HN.out.trans (NC.of_below hd)); replace HD := Lib.hid (HD.out.trans (hd.mono HB.out)); clear hd HC
          go_wp2_with fail
          go_ret
          unfold LnP
          exact ⟨gb, rfl, HOA.out.sub (.cons _ (.cons _ (List.Sublist.refl _))), HD.out, HN.out⟩
        · -- verb 4
          replace hm0 : (if ns.length = 1 then vAct b 4 ns else some (badS, b)) = some r := hm0
          replace v1 : W5.cell? ⟨gv, 1, none⟩ = some (.func (.func 22) #[] #[]) := v1.trans (congrArg some (HFK.out.symm.trans (by unfold fnV; rfl)))
          by_cases hlen : ns.length = 1
          case neg =>
            rw [if_neg hlen] at hm0
            obtain rfl := Option.some.inj hm0
            have hnb : (((ns.length : Nat) : Int) != 1) = true := by rw [bne_iff_ne]; exact fun q => hlen (by omega)
            clear hm0 hlen
            go_wp2_with fail
            go_ret
            unfold LnP
            exact ⟨gb, rfl, HOA.out.sub (.cons _ (.cons _ (List.Sublist.refl _))), HD.out, HN.out⟩
          rw [if_pos hlen] at hm0
          have hnb : (((ns.length : Nat) : Int) != 1) = false := by rw [hlen]; rfl
          unfold vAct at hm0
          rw [if_neg (by decide)] at hm0
          rw [if_neg (by decide)] at hm0
          rw [if_neg (by decide)] at hm0
          rw [if_neg (by decide)] at hm0
          obtain ⟨n0, rfl⟩ : ∃ n0, ns = [n0] := by
            match ns, hlen with
            | [a], _ => exact ⟨a, rfl⟩
          replace hm0 : (if 0 ≤ n0 ∧ b.2.1.size ≤ 1000000 then (mOpen (b.2.1.extract 0 (min n0 (b.2.1.size : Int)).toNat)).bind fun r => chkO ((0 ≤ r.1 ∧ r.1 ≤ 6) ∧ 0 ≤ r.2.1 ∧ r.2.1 ≤ 1000000) (if r.1 = 0 then fndS r.2.1 else tld r.1, if r.1 = 0 then r.2.2 else b) else none) = some r := hm0
          split at hm0
          case isFalse => cases hm0
          rename_i hcnd
          obtain ⟨q, hq, hm0⟩ := obind hm0
          obtain ⟨hqe, hrr⟩ := chkO_some hm0
          have HRR := Lib.hid hrr
          have HC := Lib.hid (dCrash_okN (its1 := .fl (owI _ _) :: .fl (owS _ _) :: its1) W5 HOP.out HTC.out HOA.out HB.out HG.out (List.Mem.head _) hcnd.1 hcnd.2 hq hqe (cap := cap5))
          clear hq hm0 hqe hlen hcnd hrr
          go_wp2_with fail
          refine HC.out.mono ?_; rintro e W6 hcr
          unfold CrP at hcr
          obtain ⟨gb', he, hp, hd, hn⟩ := hcr
          have h1 := congrArg Prod.fst HRR.out
          have h2 := congrArg Prod.snd HRR.out
          dsimp only at h1 h2
          rw [h1] at he
          rw [h2] at hp
          subst he
          have HP6 := Lib.hid hp; replace HD := Lib.hid (HD.out.trans hd); replace HN := Lib.hid (HN.out.trans hn); clear hp hd hn HC HRR h1 h2
          go_wp2_with fail
          go_ret
          unfold LnP
          exact ⟨gb', rfl, HP6.out.sub (.cons _ (.cons _ (List.Sublist.refl _))), HD.out, HN.out⟩

end Go.Proofs.YtecllcpjjllogaaGreatDoor
/- desk: Run -/
set_option linter.all false
set_option maxRecDepth 100000
namespace Go.Proofs.YtecllcpjjllogaaGreatDoor
open Go.RowKit Go.Shelf Pl
attribute [local go_sem] Oper.semAt_some
def runM : Nat → BkT → ByteArray → ByteArray → Option ByteArray
  | 0, _, _, _ => none
  | F + 1, b, t, out => if t.size = 0 then some out else (mAns b ⟨(Lib.trimSuffix (lnB t).1.data.toList [10]).toArray⟩).bind fun r => if out.size + r.1.size + 1 < 900000000 then runM F r.2 (lnB t).2 ((out ++ r.1) ++ ⟨#[10]⟩) else none
def longS : ByteArray := ⟨#[116, 111, 111, 32, 108, 111, 110, 103, 10]⟩
def mRun (t : ByteArray) : Option ByteArray := if 3000 < t.size then some longS else runM (t.size + 1) newB t ⟨#[]⟩
theorem owSb_ok (W : World) : (owSb W.heap.size (.pointer none) (.slice none 0 0)).ok (W.alloc (.cells #[.pointer none, .slice none 0 0] 33)) W.heap.size :=
  own_lit (w := W) (base := W.heap.size) (n := 1) (e := 33) #[.pointer none, .slice none 0 0] 2 rfl (Nat.le_refl _) (by unfold maxLen; omega)
theorem HP.nilU {W : World} {B : Nat} {its : List It} (h : HP W B its) (hB : B ≤ W.heap.size) : HP W B (.fl (owU (.slice none 0 0) ⟨#[]⟩) :: its) :=
  h.call (Below.refl _ _) hB (World.ownsRowF_nil W W.heap.size 5 1)
abbrev rnI (gt g gb go : Nat) (p V : Value) (u : ByteArray) (b : BkT) (out : ByteArray) : List It := .fl (owX 9 (some ⟨gt, 0, none⟩) (.string u)) :: sbI go p V out (dkI g gb b [])
def rnJ (w W6 : World) (gt g go : Nat) (r : ByteArray) (u t : ByteArray) (W : World) : Prop :=
  ∃ b F gb p V out, Hid (Below w.heap.size w W) ∧ Hid (NC W6 W) ∧ Hid (HP W w.heap.size (rnI gt g gb go p V u b out)) ∧ Hid (OpB w.heap.size W) ∧ Hid (sbP go p V out) ∧ Hid (runM F b t out = some r ∧ u.size ≤ 3000 ∧ t.size ≤ 3000)
set_option maxHeartbeats 4000000 in
theorem dRun_ok {text r : ByteArray} (w : World) (hop : OpB w.heap.size w) (htc : TyCell w) (hm : mRun text = some r) :
    Calls Tryz.prog 4 #[.string text] w fun e w' => e = .returned (.string r) ∧ Below w.heap.size w w' := by
  unfold mRun at hm
  have HOP := Lib.hid hop; have HTC := Lib.hid htc; clear hop htc
  have HD := Lib.hid (Below.refl w.heap.size w)
  have HM := Lib.hid hm; clear hm
  have HMK := Lib.hid (Marks.nil w.heap.size w)
  refine (callsIn_wide (n := 5)).1 ?_
  refine callsIn_of_wp_marks Tryz.func4 rfl trivial ?_ rfl
  simp only [Tryz.ntmps4, List.size_toArray, List.length_cons, List.length_nil, Nat.reduceAdd, Nat.reduceSub, Array.replicate_succ, Array.replicate_zero, List.push_toArray, List.append_toArray, List.nil_append, List.cons_append]
  refine wpIn_wide.2 ?_
  by_cases hbig : 3000 < text.size
  · replace HM := Lib.hid (ifT hbig HM.out)
    obtain rfl := Option.some.inj HM.out
    have hbd := decide_eq_true (show (3000 : Int) < (text.size : Int) by omega)
    clear HM hbig
    go_wp2_with fail
    refine leave_marks (B := w.heap.size) _ _ (Marks.nil _ _) (fun W' => results_tmp rfl _ _ _) (fun W' hk => ⟨rfl, hk.below HD.out (Nat.le_refl _) (Nat.le_refl _)⟩)
  · replace HM := Lib.hid (ifF hbig HM.out)
    have hbd := decide_eq_false (show ¬ (3000 : Int) < (text.size : Int) by omega)
    have HBG := Lib.hid hbig; clear hbig
    go_wp2_with fail
    refine (bkNew_ok w).mono ?_; rintro e W4 ⟨gb, rfl, hp, hd⟩
    have HOA := Lib.hid (HP.callIt (its := []) HP.nil hd HD.out.size hp)
    replace HOP := Lib.hid (HOP.out.go hd)
    replace HMK := Lib.hid (HMK.out.nc (NC.of_below hd))
    replace HD := Lib.hid hd; clear hd hp
    have HSZ := Lib.hid HD.out.size
    have hd : Below W4.heap.size W4 (W4.alloc (.cells #[.pointer (some ⟨gb, 0, none⟩)] 29)) := (Below.refl _ _).alloc (Nat.le_refl _) _
    have hp := HOA.out.newX HSZ.out 29 (.pointer (some ⟨gb, 0, none⟩))
    go_upto_region 4 with (fail)
    generalize hgd : W4.heap.size = gd at *
    generalize hW : World.alloc W4 _ = W5 at *
    clear hW
    replace HOA := Lib.hid (show HP W5 w.heap.size (dkI gd gb newB []) from hp)
    replace HOP := Lib.hid (HOP.out.go (hd.mono HSZ.out))
    replace HMK := Lib.hid (HMK.out.nc (NC.of_below (by rw [hgd]; exact hd)))
    replace HD := Lib.hid (HD.out.trans (hd.mono HSZ.out)); clear hd hp hgd
    replace HSZ := Lib.hid HD.out.size
    have hd : Below W5.heap.size W5 (W5.alloc (.cells #[.pointer none, .slice none 0 0] 33)) := (Below.refl _ _).alloc (Nat.le_refl _) _
    have hp := (HP.call HOA.out hd HSZ.out (owSb_ok W5))
    go_upto_region 5 with (fail)
    generalize hgo : W5.heap.size = go_ at *
    generalize hW : World.alloc W5 _ = W5b at *
    clear hW
    replace HOP := Lib.hid (HOP.out.go (hd.mono HSZ.out))
    replace HMK := Lib.hid (HMK.out.nc (NC.of_below (by rw [hgo]; exact hd)))
    replace HD := Lib.hid (HD.out.trans (hd.mono HSZ.out)); clear hd hgo
    replace HSZ := Lib.hid HD.out.size
    have hp2 := HP.nilU (its := .fl (owSb go_ (.pointer none) (.slice none 0 0)) :: dkI gd gb newB []) (by exact hp) HSZ.out
    replace HOA := Lib.hid (show HP W5b w.heap.size (sbI go_ (.pointer none) (.slice none 0 0) ⟨#[]⟩ (dkI gd gb newB [])) from HP.front (its1 := [.fl (owU (.slice none 0 0) ⟨#[]⟩)]) hp2)
    clear hp hp2
    go_wp2_with fail
    refine (lines_any text _).mono ?_; rintro e w' ⟨rfl, rfl⟩
    go_wp2_with fail
    have hd : Below W5b.heap.size W5b (W5b.alloc (.cells #[.string text] 9)) := (Below.refl _ _).alloc (Nat.le_refl _) _
    have hp := HOA.out.newX HSZ.out 9 (.string text)
    generalize hgt : W5b.heap.size = gt at *
    generalize hW : World.alloc W5b _ = W6 at *
    clear hW
    replace HOA := Lib.hid (show HP W6 w.heap.size (rnI gt gd gb go_ (.pointer none) (.slice none 0 0) text newB ⟨#[]⟩) from hp)
    replace HOP := Lib.hid (HOP.out.go (hd.mono HSZ.out))
    replace HMK := Lib.hid (HMK.out.nc (NC.of_below (by rw [hgt]; exact hd)))
    replace HD := Lib.hid (HD.out.trans (hd.mono HSZ.out)); clear hd hp
    replace HSZ := Lib.hid HD.out.size
    have HDk := HD
    have hG : 1 < w.heap.size := HTC.out.lt
    have HG := Lib.hid hG; clear hG
    refine (wpIn_wide (n := 5)).1 (wp_lines (Bs := gt) (by omega) text rfl rfl (rnJ w W6 gt gd go_ r) (fun _ _ => False) ?hJ ?hI (fun _ _ _ h _ => h) ⟨newB, text.size + 1, gb, _, _, _, HD, Lib.hid (NC.refl _), HOA, HOP, Lib.hid ⟨.inl rfl, .inl rfl⟩, Lib.hid ⟨HM.out, by have := HBG.out; omega, by have := HBG.out; omega⟩⟩ ?a1 ?assign ?body ?done (fun _ _ _ _ h _ => h.elim))
    case hJ =>
      refine ⟨?_, ?_, ?_⟩
      · rintro u t W ⟨b, F, gb, p, V, out, h1, h2, h3, h4, h5, h6⟩
        obtain ⟨q0, q1, q2⟩ := h3.out.bxAll (List.Mem.head _)
        exact ⟨q1, q2, by have := h6.out.2.1; omega⟩
      · rintro u t W u' ⟨b, F, gb, p, V, out, h1, h2, h3, h4, h5, h6⟩ hu
        obtain ⟨q0, q1, hp, hb⟩ := HP.setBx (its1 := []) h3.out (.string u')
        exact ⟨b, F, gb, p, V, out, Lib.hid (h1.out.trans hb), Lib.hid (h2.out.trans (NC.setCell W ⟨gt, 0, none⟩ (.string u'))), Lib.hid hp, Lib.hid (h4.out.go hb), h5, Lib.hid ⟨h6.out.1, by have := h6.out.2.1; omega, h6.out.2.2⟩⟩
      · rintro u t W W' ⟨b, F, gb, p, V, out, h1, h2, h3, h4, h5, h6⟩ hd
        exact ⟨b, F, gb, p, V, out, Lib.hid (h1.out.trans (hd.below _)), Lib.hid (h2.out.trans (NC.of_below (hd.below _))), Lib.hid (h3.out.dr hd), Lib.hid (h4.out.go (hd.below _)), h5, h6⟩
    case hI =>
      rintro u t W W' ⟨b, F, gb, p, V, out, h1, h2, h3, h4, h5, h6⟩ hk
      exact ⟨b, F, gb, p, V, out, Lib.hid (hk.below h1.out HDk.out.size (Nat.le_refl _)), Lib.hid (h2.out.keepC hk (Nat.le_refl _)), Lib.hid (h3.out.keepC hk), Lib.hid (h4.out.go (hk.below (Below.refl _ _) HDk.out.size h1.out.size)), h5, h6⟩
    case assign =>
      intro l x W K hK
      gi_wp2
      exact hK
    case body =>
      rintro l t W33 hx ⟨b, F, gb, p, V, out, HD, HN, HOA, HOP, HSP, hL⟩ _ _ hJ35 hJx36 _ hQ34
      obtain ⟨hLM, hus, hts⟩ := hL.out; clear hL
      cases F with
      | zero => cases hLM
      | succ F' =>
        unfold runM at hLM
        rw [if_neg hx] at hLM
        have hlns : (lnB t).1.size ≤ 9223372036854775807 := by have := lnB_1 t; omega
        generalize hln : (lnB t).1 = ln at *
        generalize hrs : (lnB t).2 = rest at *
        have HC := Lib.hid (trimS_ok ln ⟨#[10]⟩ W33 hlns)
        change Hid (Calls Tryz.prog _ _ _ fun e w' => e = .returned (.string ⟨(Lib.trimSuffix ln.data.toList [10]).toArray⟩) ∧ w' = W33) at HC
        generalize (⟨(Lib.trimSuffix ln.data.toList [10]).toArray⟩ : ByteArray) = tr at *
        have HSZW := Lib.hid HD.out.size
        obtain ⟨r1, hr1, hLM⟩ := obind hLM
        split at hLM
        case isFalse => cases hLM
        rename_i hsz
        have HTC33 := Lib.hid (HTC.out.go HD.out)
        have HML := Lib.hid (dLine_okN (its1 := [_, _, _]) (its2 := []) W33 HOP.out HTC33.out (show HP W33 w.heap.size ([_, _, _] ++ dkI gd gb b []) from HOA.out) HSZW.out HG.out hr1)
        gi_wp2_with fail
        refine ⟨trivial, ?_⟩; refine (CallsIn.inRound l (callsIn_wide.2 HC.out)).mono ?_; rintro e w' ⟨rfl, rfl⟩
        gi_wp2_with fail
        refine ⟨trivial, ?_⟩; refine (CallsIn.inRound l (callsIn_wide.2 HML.out)).mono ?_; rintro e W34 hln2
        unfold LnP at hln2
        obtain ⟨gb2, rfl, hp, hd, hn⟩ := hln2
        have HP34 := Lib.hid (show HP W34 w.heap.size ([.fl (owX 9 (some ⟨gt, 0, none⟩) (.string rest))] ++ sbI go_ p V out (dkI gd gb2 r1.2 [])) from hp)
        replace HOP := Lib.hid (HOP.out.go hd)
        replace HD := Lib.hid (HD.out.trans hd)
        have HNB := Lib.hid hn
        replace HN := Lib.hid (HN.out.trans hn); clear hp hd hn HML HC HTC33
        have hszo : out.size + r1.1.size < 1000000000 := by omega
        have HWR := Lib.hid (sbWrite_okN W34 HSP.out HP34.out r1.1 hszo HD.out.size)
        gi_wp2_with fail
        refine ⟨trivial, ?_⟩; refine (CallsIn.inRound l (callsIn_wide.2 HWR.out)).mono ?_; rintro e W35 ⟨rfl, p2, V2, hsp, hp, hd, hn⟩
        have HP35 := Lib.hid hp
        replace HSP := Lib.hid hsp
        replace HOP := Lib.hid (HOP.out.go hd)
        replace HD := Lib.hid (HD.out.trans hd)
        replace HNB := Lib.hid (HNB.out.trans hn)
        replace HN := Lib.hid (HN.out.trans hn); clear hp hd hn HWR HP34 hsp
        have hszo2 : (out ++ r1.1).size + 1 < 1000000000 := by rw [ByteArray.size_append]; omega
        have HWB := Lib.hid (sbByte_okN W35 HSP.out HP35.out 10 hszo2 HD.out.size)
        gi_wp2_with fail
        refine ⟨trivial, ?_⟩; refine (CallsIn.inRound l (callsIn_wide.2 HWB.out)).mono ?_; rintro e W36 ⟨rfl, p3, V3, hsp, hp, hd, hn⟩
        have HP36 := Lib.hid hp
        replace HSP := Lib.hid hsp
        replace HOP := Lib.hid (HOP.out.go hd)
        replace HD := Lib.hid (HD.out.trans hd)
        replace HNB := Lib.hid (HNB.out.trans hn)
        replace HN := Lib.hid (HN.out.trans hn); clear hp hd hn HWB HP35 hsp
        have HLM := Lib.hid hLM; clear hLM hszo hszo2 hsz
        gi_wp2_with fail
        exact ⟨HNB.out, hJ35 _ _ _ ⟨r1.2, F', gb2, p3, V3, _, HD, HN, HP36, HOP, HSP, Lib.hid ⟨HLM.out, hus, hus⟩⟩⟩
    case done =>
      rintro D t W54 hD ht ⟨b, F, gb, p, V, out, HD, HN, HOA, HOP, HSP, hL⟩ hK
      replace HMK := Lib.hid (HMK.out.push HN.out hD HDk.out.size hK); clear hK hD HN
      obtain ⟨hLM, hus⟩ := hL.out; clear hL hus
      have hr : out = r := by
        cases F with
        | zero => cases hLM
        | succ F' => unfold runM at hLM; rw [if_pos ht] at hLM; exact Option.some.inj hLM
      subst hr
      clear hLM ht
      have HS := Lib.hid (sbString_ok (its1 := [_]) W54 HSP.out HOA.out HD.out.size)
      go_wp2_with fail
      refine HS.out.mono ?_; rintro e W55 ⟨rfl, hd, hn⟩
      have HB55 := Lib.hid (HD.out.trans hd)
      replace HMK := Lib.hid (HMK.out.nc hn); clear hd hn
      go_wp2_with fail
      refine leave_marks (B := w.heap.size) _ _ HMK.out (fun W' => results_tmp rfl _ _ _) (fun W' hk => ⟨rfl, hk.below HB55.out (Nat.le_refl _) (Nat.le_refl _)⟩)
end Go.Proofs.YtecllcpjjllogaaGreatDoor
