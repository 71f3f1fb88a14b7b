import Derived.Test.YtjpfmbffiagjgaaGreatDoorLW
import Derived.Test.YtjpfmbffiagjgaaGreatDoorLn
import Derived.Test.YtjpfmbffiagjgaaGreatDoorPhI
/- a log read: Open -/
set_option linter.all false
set_option maxRecDepth 100000
namespace Go.Proofs.YtjpfmbffiagjgaaGreatDoor
open Go.RowKit Go.Shelf Pl
attribute [local go_sem] Oper.semAt_some
theorem leave_marksK {n B : Nat} {fn : Func} {tmps : Array Value} {R : Ending → World → Prop} {v : Value} : ∀ (ds : List Deferred) (W : World), Marks B ds W → (∀ W', KeepC B W W' → (results fn tmps).run Tryz.prog W' = .ok v W') → (∀ W', KeepC B W W' → R (.returned v) W') →
    LeavesInM Fence.wide n Tryz.prog fn tmps R ds .returning W := by
  intro ds W hM hres hR
  obtain ⟨Ds, rfl, hnd, hD⟩ := hM
  induction Ds generalizing W with
  | nil => exact ⟨_, hres W (KeepC.refl _ _), hR W (KeepC.refl _ _)⟩
  | cons D Ds ih =>
    obtain ⟨hB, hK⟩ := hD D List.mem_cons_self
    have hkc : KeepC B W (W.putObj D (.deferred none)) := keepC_put hB hK rfl
    refine ⟨by simp, .inl ⟨D, _, rfl, run_takeDeferred hK, ?_⟩⟩
    refine ih _ (fun W' hW' => hres W' (hkc.trans hW')) (fun W' hW' => hR W' (hkc.trans hW')) (List.nodup_cons.1 hnd).2 (fun D' hD' => ?_)
    obtain ⟨h1, h2⟩ := hD D' (List.mem_cons_of_mem _ hD')
    refine ⟨h1, (World.putObj_heap_other (fun e => ?_)).trans h2⟩
    subst e; exact (List.nodup_cons.1 hnd).1 hD'
theorem results_cell3 {P : Program} {fn : Func} {p q r : Tmp} {t1 t2 t3 : TypeId} (h : fn.results = #[.cell p t1, .cell q t2, .cell r t3]) (tmps : Array Value) (w : World) (a b c : Addr) (v1 v2 v3 : Value)
    (hp : tmps.getD p undef = .pointer (some a)) (hq : tmps.getD q undef = .pointer (some b)) (hr : tmps.getD r undef = .pointer (some c))
    (h1 : (loadVar t1 a).run P w = .ok v1 w) (h2 : (loadVar t2 b).run P w = .ok v2 w) (h3 : (loadVar t3 c).run P w = .ok v3 w) :
    (results fn tmps).run P w = .ok (.tuple #[v1, v2, v3]) w := by
  have hp' : tmps[p]?.getD undef = .pointer (some a) := by simpa using hp
  have hq' : tmps[q]?.getD undef = .pointer (some b) := by simpa using hq
  have hr' : tmps[r]?.getD undef = .pointer (some c) := by simpa using hr
  simp [results, h, hp', hq', hr', asAddr, h1, h2, h3]
theorem run_loadVar1 {P : Program} {w : World} {t : TypeId} {a : Addr} {v : Value} (ht : (isAgg t).run P w = .ok false w) (h : w.cell? a = some v) : (loadVar t a).run P w = .ok v w := by
  simp [loadVar, ht, h, go_sem]
theorem HP.newX {W : World} {B : Nat} {its : List It} (h : HP W B its) (hB : B ≤ W.heap.size) (t : TypeId) (u : Value) : HP (W.alloc (.cells #[u] t)) B (.fl (owX t (some ⟨W.heap.size, 0, none⟩) u) :: its) :=
  h.call ((Below.refl _ _).alloc (Nat.le_refl _) _) hB (owX_ok W t u)
theorem lines_any (s : ByteArray) (w : World) :
    Calls Tryz.prog 17 #[.string s] w fun e w' => e = .returned (.func (.func 32) #[] #[.pointer (some ⟨w.heap.size, 0, none⟩)]) ∧ w.alloc (.cells #[.string s] 9) = w' := by
  go_enter Tryz.func17, Tryz.ntmps17
  go_wp2
  go_ret
  exact ⟨rfl, rfl⟩
theorem lnB_1 (t : ByteArray) : (lnB t).1.size ≤ t.size := by
  have := congrArg List.length (cutLn_app t.data.toList)
  rw [List.length_append, bytes_len] at this
  show (cutLn t.data.toList).1.toArray.size ≤ _
  rw [List.size_toArray]; omega
/-- reading line by line -/
def opL : Nat → BkT → ByteArray → Option (Int × Int × BkT)
  | 0, _, _ => none
  | F + 1, b, t => if t.size = 0 then some (0, b.2.2, b) else
    if Lib.hasSuffix (lnB t).1.data.toList [10] = true then
      (mLine b ⟨(Lib.trimSuffix (lnB t).1.data.toList [10]).toArray⟩).bind fun r => if r.1 = 0 then opL F r.2 (lnB t).2 else some (r.1, r.2.2.2 + 1, r.2)
    else some (0, b.2.2, b)
def mOpen (t : ByteArray) : Option (Int × Int × BkT) := if 2000 < t.size then some (4, 0, newB) else opL (t.size + 1) newB t
theorem open_leaves {B : Nat} {its : List It} {v1 v2 v3 : Value} {ds : List Deferred} {W : World} {tmps : Array Value} {R : Ending → World → Prop} (hM : Marks B ds W) (h : HP W B its)
    (m1 : It.fl (owX 27 (some ⟨B, 0, none⟩) v1) ∈ its) (m2 : It.fl (owX 3 (some ⟨B + 1, 0, none⟩) v2) ∈ its) (m3 : It.fl (owX 29 (some ⟨B + 1 + 1, 0, none⟩) v3) ∈ its)
    (e1 : tmps.getD 2 undef = .pointer (some ⟨B, 0, none⟩)) (e2 : tmps.getD 3 undef = .pointer (some ⟨B + 1, 0, none⟩)) (e3 : tmps.getD 4 undef = .pointer (some ⟨B + 1 + 1, 0, none⟩))
    (hR : ∀ W', KeepC B W W' → R (.returned (.tuple #[v1, v2, v3])) W') : LeavesInM Fence.wide 5 Tryz.prog Tryz.f6 tmps R ds .returning W :=
  leave_marksK ds W hM (fun W' hk => results_cell3 (p := 2) (q := 3) (r := 4) (t1 := 27) (t2 := 3) (t3 := 29) rfl _ _ _ _ _ _ _ _ e1 e2 e3
    (run_loadVar1 (Tryz.isAgg27 _) (hk.cell (h.bx m1))) (run_loadVar1 (Tryz.isAgg3 _) (hk.cell (h.bx m2))) (run_loadVar1 (Tryz.isAgg29 _) (hk.cell (h.bx m3)))) hR
/-- what is owned while the lines are read -/
abbrev opIts (B gt g5 g : Nat) (u : ByteArray) (b : BkT) (v1 v2 v3 : Value) : List It :=
  [.fl (owX 9 (some ⟨gt, 0, none⟩) (.string u)), .fl (owX 27 (some ⟨g5, 0, none⟩) (.pointer (some ⟨g, 0, none⟩))), bkI g b,
    .fl (owX 29 (some ⟨B + 1 + 1, 0, none⟩) v3), .fl (owX 3 (some ⟨B + 1, 0, none⟩) v2), .fl (owX 27 (some ⟨B, 0, none⟩) v1)]
theorem mLine_many {b : BkT} {l : ByteArray} {r : Int × BkT} (h : mLine b l = some r) : 0 ≤ r.2.2.2 ∧ r.2.2.2 ≤ 61 := by
  unfold mLine at h
  split at h
  case isFalse => cases h
  rename_i hok
  obtain ⟨⟨_, _, h0, h1⟩, _⟩ := hok
  have same : 0 ≤ b.2.2 ∧ b.2.2 ≤ 61 := by omega
  split at h
  · obtain rfl := Option.some.inj h; exact same
  · split at h
    · split at h
      · unfold lnRes at h
        split at h
        · obtain rfl := Option.some.inj h; exact same
        · split at h
          · split at h
            · unfold mJoin at h
              obtain ⟨_, rfl⟩ := s_of h
              split
              · split
                · exact same
                · split
                  · exact same
                  · show 0 ≤ b.2.2 + 1 ∧ b.2.2 + 1 ≤ 61; omega
              · exact same
            · split at h
              · unfold mCut at h
                obtain ⟨_, rfl⟩ := s_of h
                split
                · split
                  · split
                    · exact same
                    · show 0 ≤ b.2.2 + 1 ∧ b.2.2 + 1 ≤ 61; omega
                  · exact same
                · exact same
              · obtain rfl := Option.some.inj h; exact same
          · obtain rfl := Option.some.inj h; exact same
      · obtain rfl := Option.some.inj h; exact same
    · obtain rfl := Option.some.inj h; exact same
/-- what the last region reads -/
def opC (g5 g : Nat) (n : Int) (W : World) : Prop := W.cell? ⟨g5, 0, none⟩ = some (.pointer (some ⟨g, 0, none⟩)) ∧ W.cell? ⟨g, 10, none⟩ = some (.int .i64 n)
theorem opC_of {W : World} {B gt g5 g : Nat} {u : ByteArray} {b : BkT} {v1 v2 v3 : Value} (h : HP W B (opIts B gt g5 g u b v1 v2 v3)) : opC g5 g b.2.2 W :=
  ⟨h.bx (List.Mem.tail _ (List.Mem.head _)), by obtain ⟨m1, m2, m3, m4, m5, m6⟩ := HP.bkM (its1 := [_, _]) h; exact m4⟩
def opJ (w W6 : World) (gt g5 g : Nat) (r : Int × Int × BkT) (u t : ByteArray) (W : World) : Prop :=
  ∃ b F, Hid (Below w.heap.size w W) ∧ Hid (NC W6 W) ∧ Hid (HP W w.heap.size (opIts w.heap.size gt g5 g u b (.pointer none) (.int .i64 0) .nilIface)) ∧ Hid (OpB w.heap.size W) ∧ Hid (opL F b t = some r ∧ u.size ≤ 2000 ∧ t.size ≤ 2000)
def opX (w W6 : World) (gt g5 g : Nat) (r : Int × Int × BkT) (c : Code) (W : World) : Prop :=
  Hid (Below w.heap.size w W) ∧ Hid (NC W6 W) ∧ ((c = .exit 0 ∧ ∃ u b, Hid (HP W w.heap.size (opIts w.heap.size gt g5 g u b (.pointer none) (.int .i64 0) .nilIface)) ∧ Hid (r = (0, b.2.2, b))) ∨
    (c = .ret ∧ r.1 ≠ 0 ∧ ∃ u b, Hid (HP W w.heap.size (opIts w.heap.size gt g5 g u b (.pointer none) (.int .i64 r.2.1) (errV 46 r.1)))))
set_option maxHeartbeats 4000000 in
theorem mOpen_ok {text : ByteArray} {r : Int × Int × BkT} (w : World) (hop : OpB w.heap.size w) (hm : mOpen text = some r) :
    Calls Tryz.prog 6 #[.string text] w fun e w' => Below w.heap.size w w' ∧
      ((r.1 = 0 ∧ ∃ g, e = .returned (.tuple #[.pointer (some ⟨g, 0, none⟩), .int .i64 r.2.1, .nilIface]) ∧ HP w' w.heap.size [bkI g r.2.2]) ∨
       (r.1 ≠ 0 ∧ e = .returned (.tuple #[.pointer none, .int .i64 r.2.1, errV 46 r.1]))) := by
  unfold mOpen at hm
  have HOP := Lib.hid hop; clear hop
  have HD := Lib.hid (Below.refl w.heap.size w)
  have HOA := Lib.hid (HP.nil (W := w) (B := w.heap.size))
  have HM := Lib.hid hm; clear hm
  have HMK := Lib.hid (Marks.nil w.heap.size w)
  refine (callsIn_wide (n := 5)).1 ?_
  refine callsIn_of_wp_marks Tryz.func6 rfl trivial ?_ rfl
  simp only [Tryz.ntmps6, List.size_toArray, List.length_cons, List.length_nil, Nat.reduceAdd, Nat.reduceSub, Array.replicate_succ, Array.replicate_zero, List.push_toArray, List.append_toArray, List.nil_append, List.cons_append]
  refine wpIn_wide.2 ?_
  go_upto_region 1 with (fail)
  have hoa := ((HOA.out.newX HD.out.size 27 (.pointer none)).newX (by rw [World.size_alloc]; omega) 3 (.int .i64 0)).newX (by rw [World.size_alloc, World.size_alloc]; omega) 29 .nilIface
  have hd : Below w.heap.size w (((w.alloc (.cells #[.pointer none] 27)).alloc (.cells #[.int .i64 0] 3)).alloc (.cells #[.nilIface] 29)) :=
    (((Below.refl _ _).alloc (Nat.le_refl _) _).alloc (by rw [World.size_alloc]; omega) _).alloc (by rw [World.size_alloc, World.size_alloc]; omega) _
  have hnc : NC w (((w.alloc (.cells #[.pointer none] 27)).alloc (.cells #[.int .i64 0] 3)).alloc (.cells #[.nilIface] 29)) := NC.of_below hd
  simp only [World.size_alloc] at hoa
  replace HMK := Lib.hid (HMK.out.nc hnc)
  replace HOP := Lib.hid (HOP.out.go hd)
  generalize hW : World.alloc (World.alloc (World.alloc w _) _) _ = W3 at *
  clear hW hnc
  replace HOA := Lib.hid hoa
  replace HD := Lib.hid hd; clear hoa hd
  by_cases hbig : 2000 < text.size
  · replace HM := Lib.hid (ifT hbig HM.out)
    obtain rfl := Option.some.inj HM.out
    have hbd := decide_eq_true (show (2000 : Int) < (text.size : Int) by omega)
    obtain ⟨q0, q1, hp, hb⟩ := HP.setBx (its1 := [_, _]) HOA.out (.pointer none)
    obtain ⟨q2, q3, hp, hb2⟩ := HP.setBx (its1 := [_]) hp (.int .i64 0)
    obtain ⟨q4, q5, hp, hb3⟩ := HP.setBx (its1 := []) hp (.iface 46 (.int .i64 4))
    have HP_ := Lib.hid hp; have HB_ := Lib.hid (hb.trans (hb2.trans hb3)); clear hp hb hb2 hb3
    go_wp2_with fail
    exact open_leaves (Marks.nil _ _) HP_.out (List.Mem.tail _ (List.Mem.tail _ (List.Mem.head _))) (List.Mem.tail _ (List.Mem.head _)) (List.Mem.head _) rfl rfl rfl
      (fun W' hk => ⟨hk.below (HD.out.trans HB_.out) (Nat.le_refl _) (Nat.le_refl _), by first | exact .inr ⟨by decide, rfl⟩ | rfl⟩)
  · replace HM := Lib.hid (ifF hbig HM.out)
    have hbd := decide_eq_false (show ¬ (2000 : Int) < (text.size : Int) by omega)
    have HBG := Lib.hid hbig; clear hbig
    have HSZ := Lib.hid HD.out.size
    go_wp2_with fail
    refine (bkNew_ok W3).mono ?_; rintro e W4 ⟨g, rfl, hp, hd⟩
    replace HOA := Lib.hid (HOA.out.callIt hd HSZ.out hp)
    replace HOP := Lib.hid (HOP.out.go (hd.mono HSZ.out))
    replace HMK := Lib.hid (HMK.out.nc (NC.of_below hd))
    replace HD := Lib.hid (HD.out.trans (hd.mono HSZ.out)); clear hd hp
    replace HSZ := Lib.hid HD.out.size
    go_upto_region 4 with (fail)
    have hd : Below W4.heap.size W4 (W4.alloc (.cells #[.pointer (some ⟨g, 0, none⟩)] 27)) := (Below.refl _ _).alloc (Nat.le_refl _) _
    have hp := HOA.out.newX HSZ.out 27 (.pointer (some ⟨g, 0, none⟩))
    generalize hW : World.alloc W4 _ = W5 at *
    clear hW
    replace HOA := Lib.hid hp
    replace HOP := Lib.hid (HOP.out.go (hd.mono HSZ.out))
    replace HMK := Lib.hid (HMK.out.nc (NC.of_below hd))
    replace HD := Lib.hid (HD.out.trans (hd.mono HSZ.out)); clear hd hp
    replace HSZ := Lib.hid HD.out.size
    go_wp2_with fail
    refine (lines_any text _).mono ?_; rintro e w' ⟨rfl, rfl⟩
    go_wp2_with fail
    have hd : Below W5.heap.size W5 (W5.alloc (.cells #[.string text] 9)) := (Below.refl _ _).alloc (Nat.le_refl _) _
    have hp := HOA.out.newX HSZ.out 9 (.string text)
    generalize hgt : W5.heap.size = gt at *
    generalize hW : World.alloc W5 _ = W6 at *
    clear hW
    replace HOA := Lib.hid hp
    have hd' : Below w.heap.size W5 W6 := hd.mono HSZ.out
    replace HOP := Lib.hid (HOP.out.go hd')
    replace HMK := Lib.hid (HMK.out.nc (NC.of_below (by rw [hgt]; exact hd)))
    replace HD := Lib.hid (HD.out.trans hd'); clear hd hd' hp
    replace HSZ := Lib.hid HD.out.size
    generalize hg5 : W4.heap.size = g5 at *
    have HDk := HD
    refine (wpIn_wide (n := 5)).1 (wp_lines (Bs := gt) (by omega) text rfl rfl (opJ w W6 gt g5 g r) (opX w W6 gt g5 g r) ?hJ ?hI ?hIx ⟨newB, text.size + 1, HD, Lib.hid (NC.refl _), HOA, HOP, Lib.hid ⟨HM.out, by have := HBG.out; omega, by have := HBG.out; omega⟩⟩ ?a1 ?assign ?body ?done ?stop)
    case hJ =>
      refine ⟨?_, ?_, ?_⟩
      · rintro u t W ⟨b, F, h1, h2, h3, h4, h5⟩
        obtain ⟨q0, q1, q2⟩ := h3.out.bxAll (List.Mem.head _)
        exact ⟨q1, q2, by have := h5.out.2.1; omega⟩
      · rintro u t W u' ⟨b, F, h1, h2, h3, h4, h5⟩ hu
        obtain ⟨q0, q1, hp, hb⟩ := HP.setBx (its1 := []) h3.out (.string u')
        exact ⟨b, F, Lib.hid (h1.out.trans hb), Lib.hid (h2.out.trans (NC.setCell W ⟨gt, 0, none⟩ (.string u'))), Lib.hid hp, Lib.hid (h4.out.go hb), Lib.hid ⟨h5.out.1, by have := h5.out.2.1; omega, h5.out.2.2⟩⟩
      · rintro u t W W' ⟨b, F, h1, h2, h3, h4, h5⟩ hd
        exact ⟨b, F, Lib.hid (h1.out.trans (hd.below _)), Lib.hid (h2.out.trans (NC.of_below (hd.below _))), Lib.hid (h3.out.dr hd), Lib.hid (h4.out.go (hd.below _)), h5⟩
    case hI =>
      rintro u t W W' ⟨b, F, h1, h2, h3, h4, h5⟩ hk
      exact ⟨b, F, Lib.hid (hk.below h1.out HDk.out.size (Nat.le_refl _)), Lib.hid (h2.out.keepC hk (Nat.le_refl _)), Lib.hid (h3.out.keepC hk), Lib.hid (h4.out.go (hk.below (Below.refl _ _) HDk.out.size h1.out.size)), h5⟩
    case hIx =>
      rintro c W W' ⟨h1, h2, h3⟩ hk
      refine ⟨Lib.hid (hk.below h1.out HDk.out.size (Nat.le_refl _)), Lib.hid (h2.out.keepC hk (Nat.le_refl _)), ?_⟩
      rcases h3 with ⟨e, u, b, h3, h4⟩ | ⟨e, h4, u, b, h3⟩
      · exact .inl ⟨e, u, b, Lib.hid (h3.out.keepC hk), h4⟩
      · exact .inr ⟨e, h4, u, b, Lib.hid (h3.out.keepC hk)⟩
    case assign =>
      intro l x W K hK
      gi_wp2
      exact hK
    case body =>
      rintro l t W33 hx ⟨b, F, HD, HN, HOA, HOP, hL⟩ _ _ hJ35 hJx36 _ hQ34
      obtain ⟨hLM, hus, hts⟩ := hL.out; clear hL
      cases F with
      | zero => cases hLM
      | succ F' =>
        unfold opL at hLM
        rw [if_neg hx] at hLM
        have hlns : (lnB t).1.size ≤ 9223372036854775807 := by have := lnB_1 t; omega
        generalize hln : (lnB t).1 = ln at *
        generalize hrs : (lnB t).2 = rest at *
        have HC := Lib.hid (cutS_ok ln ⟨#[10]⟩ W33 hlns)
        have HSZW := Lib.hid HD.out.size
        cases hsf : Lib.hasSuffix ln.data.toList [10]
        · rw [hsf, if_neg (by decide)] at hLM
          have hr := Option.some.inj hLM
          have HR := Lib.hid hr; clear hr hLM
          change Hid (Calls Tryz.prog _ _ _ fun e w' => e = .returned (.tuple #[.string ⟨(Lib.trimSuffix ln.data.toList [10]).toArray⟩, .bool (Lib.hasSuffix ln.data.toList [10])]) ∧ w' = W33) at HC
          rw [hsf] at HC
          gi_wp2_with fail
          refine ⟨trivial, ?_⟩; refine (CallsIn.inRound l (callsIn_wide.2 HC.out)).mono ?_; rintro e w' ⟨rfl, rfl⟩
          gi_wp2_with fail
          exact ⟨NC.refl _, hJx36 _ _ ⟨HD, HN, .inl ⟨rfl, _, b, HOA, Lib.hid HR.out.symm⟩⟩⟩
        · rw [hsf, if_pos rfl] at hLM
          change Hid (Calls Tryz.prog _ _ _ fun e w' => e = .returned (.tuple #[.string ⟨(Lib.trimSuffix ln.data.toList [10]).toArray⟩, .bool (Lib.hasSuffix ln.data.toList [10])]) ∧ w' = W33) at HC
          rw [hsf] at HC
          generalize (⟨(Lib.trimSuffix ln.data.toList [10]).toArray⟩ : ByteArray) = tr at *
          obtain ⟨r1, hr1, hLM⟩ := obind hLM
          have HML := Lib.hid (mLine_okN (its1 := [_, _]) W33 HOP.out HOA.out HSZW.out hr1)
          have fb5 := HP.bx HOA.out (List.Mem.tail _ (List.Mem.head _))
          gi_wp2_with fail
          refine ⟨trivial, ?_⟩; refine (CallsIn.inRound l (callsIn_wide.2 HC.out)).mono ?_; rintro e w' ⟨rfl, rfl⟩
          gi_wp2_with fail
          refine ⟨trivial, ?_⟩; refine (CallsIn.inRound l (callsIn_wide.2 HML.out)).mono ?_; rintro e W34 ⟨rfl, hp, hd, hn⟩
          replace HOA := Lib.hid hp
          replace HOP := Lib.hid (HOP.out.go hd)
          replace HD := Lib.hid (HD.out.trans hd)
          have HNB := Lib.hid hn
          replace HN := Lib.hid (HN.out.trans hn); clear hp hd hn fb5 HML HC
          obtain ⟨e1, b1⟩ := r1
          dsimp only at hLM
          by_cases he : e1 = 0
          · subst he
            rw [if_pos rfl] at hLM
            have HLM := Lib.hid hLM; clear hLM
            rw [errV_zero]
            gi_wp2_with fail
            exact ⟨HNB.out, hJ35 _ _ _ ⟨b1, F', HD, HN, HOA, HOP, Lib.hid ⟨HLM.out, hus, hus⟩⟩⟩
          · rw [if_neg he] at hLM
            have hr := Option.some.inj hLM
            have HR := Lib.hid hr; clear hr hLM
            rw [errV_pos _ he]
            have hmn := mLine_many hr1
            dsimp only at hmn
            have hwr : wrap64 (b1.2.2 + 1) = b1.2.2 + 1 := by unfold wrap64; omega
            have HWR := Lib.hid hwr; clear hwr hmn
            gi_upto_region 10 with (fail)
            obtain ⟨q0, q1, hp1, hb1⟩ := HP.setBx (its1 := [_, _, _, _, _]) HOA.out (.pointer none)
            obtain ⟨q2, q3, hp2, hb2⟩ := HP.setBx (its1 := [_, _, _, _]) hp1 (.int .i64 (wrap64 (b1.2.2 + 1)))
            obtain ⟨q4, q5, hp3, hb3⟩ := HP.setBx (its1 := [_, _, _]) hp2 (.iface 46 (.int .i64 e1))
            have C0 := Lib.hid (opC_of HOA.out)
            have C1 := Lib.hid (opC_of hp1)
            have C2 := Lib.hid (opC_of hp2)
            have C3 := Lib.hid (opC_of hp3)
            have HP3 := Lib.hid hp3
            have HB3 := Lib.hid (hb1.trans (hb2.trans hb3))
            have HN3 := Lib.hid (((NC.setCell W34 ⟨w.heap.size, 0, none⟩ (.pointer none)).trans (NC.setCell _ ⟨w.heap.size + 1, 0, none⟩ (.int .i64 (wrap64 (b1.2.2 + 1))))).trans (NC.setCell _ ⟨w.heap.size + 1 + 1, 0, none⟩ (.iface 46 (.int .i64 e1))))
            clear hp1 hp2 hp3 hb1 hb2 hb3
            refine wpIn_region_phc (openR_round l) (opC g5 g b1.2.2) [.P 0, .P 1, .P 2, .P 3, .P 4, .P 5, .S 6, .S 7, .S 8] (by kernel_rfl) (by kernel_rfl) (by kernel_rfl) C0.out ?_
            repeat (refine wpCs_P rfl rfl (fun K hK => ?_); apply Exists.intro; refine ⟨fun W_ hc_ => ?_, hK _ ?_⟩; (have c5_ := hc_.1; have c10_ := hc_.2; clear hc_; go_simp; try rfl); clear hK K)
            refine wpCs_S rfl (fun Q' hQ' hL' => ?_)
            go_wp2_with fail
            refine hQ' _ _ C1.out ?_; clear hQ' hL' Q'
            refine wpCs_S rfl (fun Q' hQ' hL' => ?_)
            go_wp2_with fail
            refine hQ' _ _ C2.out ?_; clear hQ' hL' Q'
            refine wpCs_S rfl (fun Q' hQ' hL' => ?_)
            go_wp2_with fail
            refine hQ' _ _ C3.out ?_; clear hQ' hL' Q'
            refine wpCs_nil ?_
            clear q0 q1 q2 q3 q4 q5 C0 C1 C2 C3
            have hp := HP3.out.dr (Dr.one _)
            have hb := HB3.out.trans ((Dr.one _).below _)
            have hn := HN3.out.trans (NC.drew _)
            clear HP3 HB3 HN3
            have HP3 := Lib.hid hp
            have HB3 := Lib.hid hb
            have HN3 := Lib.hid hn
            clear hp hb hn
            generalize hW : World.drew _ = W35 at *
            clear hW
            gi_wp2_with fail
            rw [HWR.out] at HP3
            exact ⟨HNB.out.trans HN3.out, hJx36 _ _ ⟨Lib.hid (HD.out.trans HB3.out), Lib.hid (HN.out.trans HN3.out), .inr ⟨rfl, by rw [← HR.out]; exact he, rest, b1, Lib.hid (by rw [← HR.out]; dsimp only; rw [errV_pos _ he]; exact HP3.out)⟩⟩⟩
    case done =>
      rintro D t W54 hD ht ⟨b, F, HD, HN, HOA, HOP, hL⟩ hK
      replace HMK := Lib.hid (HMK.out.push HN.out hD HDk.out.size hK); clear hK hD HN
      obtain ⟨hLM, hus⟩ := hL.out; clear hL hus
      have hr : (0, b.2.2, b) = r := by
        cases F with
        | zero => cases hLM
        | succ F' => unfold opL at hLM; rw [if_pos ht] at hLM; exact Option.some.inj hLM
      have HR := Lib.hid hr; clear hr hLM ht
      have C0 := Lib.hid (opC_of HOA.out)
      have hrd := HP.bx HOA.out (List.Mem.tail _ (List.Mem.head _))
      obtain ⟨q0, q1, hp1, hb1⟩ := HP.setBx (its1 := [_, _, _, _, _]) HOA.out (.pointer (some ⟨g, 0, none⟩))
      obtain ⟨q2, q3, hp2, hb2⟩ := HP.setBx (its1 := [_, _, _, _]) hp1 (.int .i64 b.2.2)
      obtain ⟨q4, q5, hp3, hb3⟩ := HP.setBx (its1 := [_, _, _]) hp2 .nilIface
      have C1 := Lib.hid (opC_of hp1)
      have C2 := Lib.hid (opC_of hp2)
      have C3 := Lib.hid (opC_of hp3)
      have HP3 := Lib.hid hp3
      have HB3 := Lib.hid (hb1.trans (hb2.trans hb3))
      have HN3 := Lib.hid (((NC.setCell W54 ⟨w.heap.size, 0, none⟩ (.pointer (some ⟨g, 0, none⟩))).trans (NC.setCell _ ⟨w.heap.size + 1, 0, none⟩ (.int .i64 b.2.2))).trans (NC.setCell _ ⟨w.heap.size + 1 + 1, 0, none⟩ .nilIface))
      clear hp1 hp2 hp3 hb1 hb2 hb3 hrd
      go_upto_region 11 with (fail)
      refine wp_region_phc (opC g5 g b.2.2) [.P 0, .P 1, .P 2, .P 3, .P 4, .S 5, .S 6, .S 7] (by kernel_rfl) (by kernel_rfl) C0.out ?_
      repeat (refine wpCs_P rfl rfl (fun K hK => ?_); apply Exists.intro; refine ⟨fun W_ hc_ => ?_, hK _ ?_⟩; (have c5_ := hc_.1; have c10_ := hc_.2; clear hc_; go_simp; try rfl); clear hK K)
      refine wpCs_S rfl (fun Q' hQ' hL' => ?_)
      go_wp2_with fail
      refine hQ' _ _ C1.out ?_; clear hQ' hL' Q'
      refine wpCs_S rfl (fun Q' hQ' hL' => ?_)
      go_wp2_with fail
      refine hQ' _ _ C2.out ?_; clear hQ' hL' Q'
      refine wpCs_S rfl (fun Q' hQ' hL' => ?_)
      go_wp2_with fail
      refine hQ' _ _ C3.out ?_; clear hQ' hL' Q'
      refine wpCs_nil ?_
      clear q0 q1 q2 q3 q4 q5 C0 C1 C2 C3
      have hp := HP3.out.dr (Dr.one _)
      have hb := HB3.out.trans ((Dr.one _).below _)
      have hn := HN3.out.trans (NC.drew _)
      clear HP3 HB3 HN3
      have HP3 := Lib.hid hp
      have HB3 := Lib.hid hb
      have HN3 := Lib.hid hn
      clear hp hb hn
      generalize hW : World.drew _ = W55 at *
      clear hW
      go_wp2_with fail
      exact open_leaves (HMK.out.nc HN3.out) HP3.out (List.Mem.tail _ (List.Mem.tail _ (List.Mem.tail _ (List.Mem.tail _ (List.Mem.tail _ (List.Mem.head _)))))) (List.Mem.tail _ (List.Mem.tail _ (List.Mem.tail _ (List.Mem.tail _ (List.Mem.head _))))) (List.Mem.tail _ (List.Mem.tail _ (List.Mem.tail _ (List.Mem.head _)))) rfl rfl rfl
        (fun W' hk => ⟨hk.below (HD.out.trans HB3.out) (Nat.le_refl _) (Nat.le_refl _), by
          rw [← HR.out]
          exact .inl ⟨rfl, g, rfl, (HP3.out.keepC hk).sub (.cons _ (.cons _ (.cons₂ _ (.cons _ (.cons _ (.cons _ .slnil))))))⟩⟩)
    case stop =>
      rintro D c W54 hD ⟨HD, HN, (⟨rfl, u, b, HOA, hr⟩ | ⟨rfl, he, u, b, HOA⟩)⟩ hK
      · refine wpIn_wide.2 ?_
        replace HMK := Lib.hid (HMK.out.push HN.out hD HDk.out.size hK); clear hK hD HN
        have HR := Lib.hid hr.out.symm; clear hr
        have C0 := Lib.hid (opC_of HOA.out)
        have hrd := HP.bx HOA.out (List.Mem.tail _ (List.Mem.head _))
        obtain ⟨q0, q1, hp1, hb1⟩ := HP.setBx (its1 := [_, _, _, _, _]) HOA.out (.pointer (some ⟨g, 0, none⟩))
        obtain ⟨q2, q3, hp2, hb2⟩ := HP.setBx (its1 := [_, _, _, _]) hp1 (.int .i64 b.2.2)
        obtain ⟨q4, q5, hp3, hb3⟩ := HP.setBx (its1 := [_, _, _]) hp2 .nilIface
        have C1 := Lib.hid (opC_of hp1)
        have C2 := Lib.hid (opC_of hp2)
        have C3 := Lib.hid (opC_of hp3)
        have HP3 := Lib.hid hp3
        have HB3 := Lib.hid (hb1.trans (hb2.trans hb3))
        have HN3 := Lib.hid (((NC.setCell W54 ⟨w.heap.size, 0, none⟩ (.pointer (some ⟨g, 0, none⟩))).trans (NC.setCell _ ⟨w.heap.size + 1, 0, none⟩ (.int .i64 b.2.2))).trans (NC.setCell _ ⟨w.heap.size + 1 + 1, 0, none⟩ .nilIface))
        clear hp1 hp2 hp3 hb1 hb2 hb3 hrd
        go_upto_region 11 with (fail)
        refine wp_region_phc (opC g5 g b.2.2) [.P 0, .P 1, .P 2, .P 3, .P 4, .S 5, .S 6, .S 7] (by kernel_rfl) (by kernel_rfl) C0.out ?_
        repeat (refine wpCs_P rfl rfl (fun K hK => ?_); apply Exists.intro; refine ⟨fun W_ hc_ => ?_, hK _ ?_⟩; (have c5_ := hc_.1; have c10_ := hc_.2; clear hc_; go_simp; try rfl); clear hK K)
        refine wpCs_S rfl (fun Q' hQ' hL' => ?_)
        go_wp2_with fail
        refine hQ' _ _ C1.out ?_; clear hQ' hL' Q'
        refine wpCs_S rfl (fun Q' hQ' hL' => ?_)
        go_wp2_with fail
        refine hQ' _ _ C2.out ?_; clear hQ' hL' Q'
        refine wpCs_S rfl (fun Q' hQ' hL' => ?_)
        go_wp2_with fail
        refine hQ' _ _ C3.out ?_; clear hQ' hL' Q'
        refine wpCs_nil ?_
        clear q0 q1 q2 q3 q4 q5 C0 C1 C2 C3
        have hp := HP3.out.dr (Dr.one _)
        have hb := HB3.out.trans ((Dr.one _).below _)
        have hn := HN3.out.trans (NC.drew _)
        clear HP3 HB3 HN3
        have HP3 := Lib.hid hp
        have HB3 := Lib.hid hb
        have HN3 := Lib.hid hn
        clear hp hb hn
        generalize hW : World.drew _ = W55 at *
        clear hW
        go_wp2_with fail
        exact open_leaves (HMK.out.nc HN3.out) HP3.out (List.Mem.tail _ (List.Mem.tail _ (List.Mem.tail _ (List.Mem.tail _ (List.Mem.tail _ (List.Mem.head _)))))) (List.Mem.tail _ (List.Mem.tail _ (List.Mem.tail _ (List.Mem.tail _ (List.Mem.head _))))) (List.Mem.tail _ (List.Mem.tail _ (List.Mem.tail _ (List.Mem.head _)))) rfl rfl rfl
          (fun W' hk => ⟨hk.below (HD.out.trans HB3.out) (Nat.le_refl _) (Nat.le_refl _), by
            rw [← HR.out]
            exact .inl ⟨rfl, g, rfl, (HP3.out.keepC hk).sub (.cons _ (.cons _ (.cons₂ _ (.cons _ (.cons _ (.cons _ .slnil))))))⟩⟩)
      · refine wpIn_wide.2 ?_
        replace HMK := Lib.hid (HMK.out.push HN.out hD HDk.out.size hK); clear hK hD HN
        go_wp2_with fail
        exact open_leaves HMK.out HOA.out (List.Mem.tail _ (List.Mem.tail _ (List.Mem.tail _ (List.Mem.tail _ (List.Mem.tail _ (List.Mem.head _)))))) (List.Mem.tail _ (List.Mem.tail _ (List.Mem.tail _ (List.Mem.tail _ (List.Mem.head _))))) (List.Mem.tail _ (List.Mem.tail _ (List.Mem.tail _ (List.Mem.head _)))) rfl rfl rfl
          (fun W' hk => ⟨hk.below HD.out (Nat.le_refl _) (Nat.le_refl _), .inr ⟨he, rfl⟩⟩)
end Go.Proofs.YtjpfmbffiagjgaaGreatDoor
