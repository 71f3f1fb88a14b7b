import Derived.Test.YtccdnokddkpmgaaCost
import Derived.Test.YtccdnokddkpmgaaP3
import Derived.Test.YtccdnokddkpmgaaKs
/- append(out, xs...): both rows of lines that cost something -/
set_option linter.all false
set_option maxRecDepth 100000
namespace Go.Proofs.Ytccdnokddkpmgaa
open Go.RowKit
section
variable {ops : Array Oper} {rest : List Oper} {o : Oper} {a : Act} {Q : Exit → Act → World → Prop}
theorem costCells_app (l m : List Cost) : costCells (l ++ m) = costCells l ++ costCells m := by simp [costCells]
theorem costCells_int {l : List Cost} {u : Value} (h : u ∈ costCells l) : ∃ z : Int, u = .int .i64 z := by
  unfold costCells at h
  obtain ⟨p, _, hp⟩ := List.mem_flatMap.1 h
  simp at hp
  rcases hp with e | e | e <;> exact ⟨_, e⟩
theorem hp_appCs (W : World) (s x : Operand) (t : TypeId) (ht : Try.prog.underlying t = some (.slice 37)) (hgd : o.guard = none)
    (ho : o.op = .call { callee := .builtin .append, args := #[s, x], argTypes := #[t, t] })
    {B c : Nat} {A : Option Addr} {L1 L2 : List It} {v : Value} {l m : List Cost} (h : HP W B (L1 ++ .fl (owC v l) :: L2)) (hr : ReadsC W W.heap.size A m) (hs : a.eval s = v) (hx : a.eval x = .slice A m.length c)
    (hlen : l.length + m.length < 1000000000) (hB : B ≤ W.heap.size)
    (hk : ∀ v' w', HP w' B (L1 ++ .fl (owC v' (l ++ m)) :: L2) → Below B W w' → wpList Try.prog ops Q rest (a.put o.dst v') w') :
    wpList Try.prog ops Q (o :: rest) a W := by
  obtain ⟨i0, hi0, hz0, hz1, hz2⟩ := info_parts cost_info
  obtain ⟨M1, M2, h1, h2⟩ := h.getAt
  have hown : W.ownsRow B 37 3 v l.length (costCells l) := h1.get (o := owC v l) (by simp)
  rcases A with _ | ad
  · have hm : m = [] := by
      rcases Nat.eq_zero_or_pos m.length with h0 | h0
      · exact List.eq_nil_of_length_eq_zero h0
      · obtain ⟨b, oo, e, _⟩ := hr.2 h0; cases e
    subst hm
    refine wpList_plain hgd fun K hK => ?_
    have hrun := append_nil_run W (ty := o.type) ht hi0 hown c
    unfold Oper.wp execOp
    simp only [ho, resolve, invoke, builtin, Sem.run_bind, Sem.run_pure, Result.andThen_ok, List.map_toArray, List.map_cons, List.map_nil, hs, hx, List.length_nil, hrun]
    refine hK _ _ (hk v W ?_ (Below.refl _ _))
    rw [List.append_nil]; exact h
  · refine wpList_append_own_at W hgd s x t ho B 37 i0 _ 3 24 ht hi0 hz0 hz1 hz2 rfl (by omega) v l.length (costCells l) hs hown ad m.length c (costCells m) hx (by rw [costCells_len]) ?_ ?_ (by unfold maxLen; omega) (by omega) hB ?_
    · intro j u hu
      have hj : j < (costCells m).length := (List.getElem?_eq_some_iff.1 hu).1
      rw [costCells_len] at hj
      obtain ⟨b, oo, e, _, hc⟩ := hr.2 (by omega)
      cases e
      rw [Go.WideShapes.add_plain]; exact hc j u hu
    · intro u hu
      obtain ⟨z, rfl⟩ := costCells_int hu
      rfl
    · intro v' w' hown' hg _ hblk
      refine hk v' w' (h2 w' _ (h1.upd hg ?_ ?_)) ((Below.refl _ _).grown hg hB fun k hk' => (hown.lt k hk').1)
      · show w'.ownsRow B 37 3 v' (l ++ m).length (costCells (l ++ m))
        rw [List.length_append, costCells_app]; exact hown'
      · rcases hblk with e | e
        · exact .inl e
        · exact .inr ⟨_, e, Nat.le_refl _⟩
end
end Go.Proofs.Ytccdnokddkpmgaa
set_option linter.all false
set_option maxRecDepth 100000
namespace Go.Proofs.Ytccdnokddkpmgaa
open Go.RowKit
def L3_SpanMore_L1 (F : Nat) (v1 : List (Int × Int × Int)) (v5 : List Bool) (v9 : List Bool) : Nat → (Int) → (Int) → Option ((Int × Int) ⊕ (Bool))
  | 0, _, _ => none
  | g+1, v11, v12 => if v12 < ((v1).length : Int) then (((ix v5 v12).bind fun y11 => if y11 = true then (ix v9 v12).bind fun y12 => if y12 = true then some false else some true else some false).bind fun b10 => if b10 = true then (((ix v5 v12).bind fun y14 => if y14 = true then some false else (ix v9 v12).bind fun y15 => if y15 = true then some true else some false).bind fun b13 => if b13 = true then some (.inr (false)) else L3_SpanMore_L1 F v1 v5 v9 g ((wrap64 (v11 + 1))) ((wrap64 (v12 + 1)))) else (((ix v5 v12).bind fun y17 => if y17 = true then some false else (ix v9 v12).bind fun y18 => if y18 = true then some true else some false).bind fun b16 => if b16 = true then some (.inr (false)) else L3_SpanMore_L1 F v1 v5 v9 g (v11) ((wrap64 (v12 + 1))))) else some (.inl (v11, v12))
theorem L3_SpanMore_L1_0 (F : Nat) (v1 : List (Int × Int × Int)) (v5 : List Bool) (v9 : List Bool) (v11 : Int) (v12 : Int) : L3_SpanMore_L1 F v1 v5 v9 0 v11 v12 = none := by rw [L3_SpanMore_L1]
theorem L3_SpanMore_L1_s (F g : Nat) (v1 : List (Int × Int × Int)) (v5 : List Bool) (v9 : List Bool) (v11 : Int) (v12 : Int) : L3_SpanMore_L1 F v1 v5 v9 (g+1) v11 v12 = (if v12 < ((v1).length : Int) then (((ix v5 v12).bind fun y11 => if y11 = true then (ix v9 v12).bind fun y12 => if y12 = true then some false else some true else some false).bind fun b10 => if b10 = true then (((ix v5 v12).bind fun y14 => if y14 = true then some false else (ix v9 v12).bind fun y15 => if y15 = true then some true else some false).bind fun b13 => if b13 = true then some (.inr (false)) else L3_SpanMore_L1 F v1 v5 v9 g ((wrap64 (v11 + 1))) ((wrap64 (v12 + 1)))) else (((ix v5 v12).bind fun y17 => if y17 = true then some false else (ix v9 v12).bind fun y18 => if y18 = true then some true else some false).bind fun b16 => if b16 = true then some (.inr (false)) else L3_SpanMore_L1 F v1 v5 v9 g (v11) ((wrap64 (v12 + 1))))) else some (.inl (v11, v12))) := by rw [L3_SpanMore_L1]
def L3_SpanMore (F : Nat) (v0 : Int) (v1 : List (Int × Int × Int)) (v2 : Int × Int × Int) : Option (Bool) := (L3_spanFact F ).bind fun y1 => (if y1 = true then (span_Least F (v0) (v1)).bind fun y2 => ((if (y2.2.2 != 0) = true then some true else if (((v1).length : Int) == 24) = true then some true else some false).bind fun b3 => if b3 = true then (if (y2.2.2 == 0) = true then some true else if (((y2.1).length : Int) == 0) = true then some true else some false).bind fun b4 => some (b4) else (appL [] v1).bind fun y5 => (app y5 v2).bind fun y6 => (span_Least F (v0) (y6)).bind fun y7 => (if (y7.2.2 != 0) = true then (if (((y7.1).length : Int) == 0) = true then some true else some false).bind fun b8 => some (b8) else ((if (((y2.1).length : Int) != ((v1).length : Int)) = true then some true else if (((y7.1).length : Int) != (wrap64 (((v1).length : Int) + 1))) = true then some true else some false).bind fun b9 => if b9 = true then some (false) else (L3_SpanMore_L1 F (v1) (y2.1) (y7.1) F (0) (0)).bind fun o19 => match o19 with | .inr r => some (r) | .inl o19 => ((if y7.2.1 ≤ y2.2.1 then (if (o19.1 == 1) = true then some true else some false).bind fun b22 => (ix y7.1 ((v1).length : Int)).bind fun y23 => if (b22 == y23) = true then some true else some false else some false).bind fun b21 => if b21 = true then if o19.1 ≤ 1 then some true else some false else some false).bind fun b20 => some (b20)))) else some (false))
set_option maxRecDepth 100000 in
set_option maxHeartbeats 4000000 in
theorem L3_SpanMore_ok {F : Nat} {v0 : Int} {v1 : List (Int × Int × Int)} {A1 : Option Addr} {v2 : Int × Int × Int} {r : Bool} (w : World) (cap1 : Nat) (hr1 : ReadsC w w.heap.size A1 v1) (h : L3_SpanMore F v0 v1 v2 = some r) :
    Calls Try.prog 6 #[.int .i64 v0, .slice A1 v1.length cap1, .agg #[.int .i64 v2.1, .int .i64 v2.2.1, .int .i64 v2.2.2]] w fun e w' => e = .returned (.bool r) ∧ Below w.heap.size w w' := by
  have HR1 := Lib.hid hr1; clear hr1
  have HD := Lib.hid (Below.refl w.heap.size w)
  have HOA := Lib.hid (HP.nil (W := w) (B := w.heap.size))
  unfold L3_SpanMore at h
  have HM := Lib.hid h; clear h
  go_enter Try.func6, Try.ntmps6
  go_upto_region 1 with (fail)
  go_upto_region 1 with (fail)
  have hd : Below w.heap.size w (w.alloc (.cells #[Value.int .i64 v2.1, Value.int .i64 v2.2.1, Value.int .i64 v2.2.2] 37)) := (Below.refl _ _).alloc (Nat.le_refl _) _
  have ho := boxRC w v2
  generalize hW : World.alloc w _ = W1 at *
  clear hW
  replace HOA := Lib.hid (HOA.out.call hd HD.out.size ho); clear ho
  replace HD := Lib.hid (HD.out.trans (hd.mono HD.out.size))
  clear hd
  obtain ⟨y6, hy4, hm⟩ := obind HM.out
  replace HM := Lib.hid hm; clear hm
  have HC5 := L3_spanFact_ok W1  hy4
  clear hy4
  replace HC5 := Lib.hid HC5
  go_wp2_with fail
  refine HC5.out.mono ?_; rintro e W7 ⟨rfl, hd⟩
  replace HOA := Lib.hid (HOA.out.below hd)
  replace HD := Lib.hid (HD.out.trans (hd.mono HD.out.size))
  clear hd
  cases y6
  · replace HM := Lib.hid (ifF Bool.false_ne_true HM.out)
    obtain rfl := Option.some.inj HM.out
    go_wp2_with fail
    go_ret
    exact ⟨rfl, HD.out⟩
  · replace HM := Lib.hid (ifT rfl HM.out)
    obtain ⟨⟨y10, y11, y12⟩, hy8, hm⟩ := obind HM.out
    dsimp only at hm
    replace HM := Lib.hid hm; clear hm
    have HC9 := span_Least_ok W7 cap1 (rdC HD.out HR1.out) hy8
    clear hy8
    replace HC9 := Lib.hid HC9
    go_wp2_with fail
    refine HC9.out.mono ?_; rintro e W13 ⟨V14, rfl, ho, hd⟩
    replace HOA := Lib.hid (HOA.out.call hd HD.out.size ho); clear ho
    replace HD := Lib.hid (HD.out.trans (hd.mono HD.out.size))
    clear hd
    go_upto_region 5 with (fail)
    obtain ⟨b16, hb, hm⟩ := obind HM.out
    replace HM := Lib.hid hm; have HB17 := Lib.hid hb; clear hm hb
    go_cut [32] (fun uq wr => uq = .bool b16 ∧ Hid (Below W13.heap.size W13 wr))
    case first =>
      have HWC18 := Lib.hid (Below.refl W13.heap.size W13)
      by_cases hz19 : y12 = 0
      · subst hz19
        try simp only [errV_zero]
        replace HB17 := Lib.hid (ifF (by decide) HB17.out)
        rcases Bool.eq_false_or_eq_true (((v1).length : Int) == 24) with hc21 | hc21
        · replace HB17 := Lib.hid (ifT hc21 HB17.out)
          have HK22 := Lib.hid hc21
          cases Option.some.inj HB17.out
          try go_wp2_with fail
          go_meet
          case rel => exact ⟨rfl, HWC18⟩
        · replace HB17 := Lib.hid (ifF (bF hc21) HB17.out)
          have HK22 := Lib.hid hc21
          cases Option.some.inj HB17.out
          try go_wp2_with fail
          go_meet
          case rel => exact ⟨rfl, HWC18⟩
      · try rw [errV_pos _ hz19]
        have HZ20 := Lib.hid hz19; clear hz19
        replace HB17 := Lib.hid (ifT (bne_iff_ne.2 HZ20.out) HB17.out)
        cases Option.some.inj HB17.out
        try go_wp2_with fail
        try simp only [← errV_pos _ HZ20.out]
        go_meet
        case rel => exact ⟨rfl, HWC18⟩
    case rest =>
      obtain ⟨rfl, HWC18⟩ := hcut
      rename World => W23
      have hd := HWC18.out
      replace HOA := Lib.hid (HOA.out.below hd)
      replace HD := Lib.hid (HD.out.trans (hd.mono HD.out.size))
      clear hd
      cases b16
      · replace HM := Lib.hid (ifF Bool.false_ne_true HM.out)
        replace HOA := Lib.hid (show HP _ _ (.fl (owC (.slice none 0 0) ([])) :: _) from HOA.out.pushNil _ _)
        obtain ⟨y25, hy26, hm⟩ := obind HM.out
        replace HM := Lib.hid hm; clear hm
        obtain ⟨f27, hy26⟩ := appL_some hy26; subst hy26
        have HF30 := Lib.hid f27; clear f27
        go_upto_region 9 with (at_builtin; refine hp_appCs _ (.tmp 40) (.tmp 41) 22 Try.underlying22 rfl rfl (L1 := []) HOA.out (rdC HD.out HR1.out) rfl rfl HF30.out HD.out.size ?_; intro V28 W29 hoa hd)
        replace HOA := Lib.hid (show HP W29 w.heap.size [.fl (owC V28 (([] ++ v1))), .fl (owB V14 (y10)), .fl (owC (.slice (some ⟨w.heap.size, 0, none⟩) 1 1) ([v2]))] from hoa); clear hoa
        replace HD := Lib.hid (HD.out.trans hd); clear hd
        obtain ⟨f31, f32, f33⟩ := boxC (HP.rd_C HOA.out (List.Mem.tail _ (List.Mem.tail _ (List.Mem.head _))))
        obtain ⟨y34, hy35, hm⟩ := obind HM.out
        replace HM := Lib.hid hm; clear hm
        obtain ⟨f36, hy35⟩ := app_some hy35; subst hy35
        have HF39 := Lib.hid f36; clear f36
        go_wp2_with (at_builtin; refine hp_appC _ (.tmp 45) (.tmp 47) 22 Try.underlying22 rfl rfl (L1 := []) HOA.out rfl rfl HF39.out HD.out.size ?_; intro V37 W38 hoa hd)
        try clear f31 f32 f33
        replace HOA := Lib.hid (show HP W38 w.heap.size [.fl (owC V37 ((([] ++ v1) ++ [v2]))), .fl (owB V14 (y10)), .fl (owC (.slice (some ⟨w.heap.size, 0, none⟩) 1 1) ([v2]))] from hoa); clear hoa
        replace HD := Lib.hid (HD.out.trans hd); clear hd
        generalize (([] ++ v1) ++ [v2]) = xl40 at HOA HM
        obtain ⟨⟨y43, y44, y45⟩, hy41, hm⟩ := obind HM.out
        dsimp only at hm
        replace HM := Lib.hid hm; clear hm
        obtain ⟨A46, cap47, he, _⟩ := HP.open_C HOA.out (List.Mem.head _)
        subst he
        have HC42 := span_Least_ok W38 cap47 (HP.rd_C HOA.out (List.Mem.head _)) hy41
        clear hy41
        replace HC42 := Lib.hid HC42
        go_wp2_with fail
        refine HC42.out.mono ?_; rintro e W48 ⟨V49, rfl, ho, hd⟩
        replace HOA := Lib.hid (HOA.out.call hd HD.out.size ho); clear ho
        replace HD := Lib.hid (HD.out.trans (hd.mono HD.out.size))
        clear hd
        by_cases hz51 : y45 = 0
        · subst hz51
          try simp only [errV_zero]
          replace HM := Lib.hid (ifF (by decide) HM.out)
          go_upto_region 12 with (fail)
          obtain ⟨b53, hb, hm⟩ := obind HM.out
          replace HM := Lib.hid hm; have HB54 := Lib.hid hb; clear hm hb
          go_cut [70] (fun uq wr => uq = .bool b53 ∧ Hid (Below W48.heap.size W48 wr))
          case first =>
            have HWC55 := Lib.hid (Below.refl W48.heap.size W48)
            obtain ⟨A56, cap57, he, _⟩ := HP.open_B HOA.out (List.Mem.tail _ (List.Mem.tail _ (List.Mem.head _)))
            subst he
            rcases Bool.eq_false_or_eq_true (((y10).length : Int) != ((v1).length : Int)) with hc58 | hc58
            · replace HB54 := Lib.hid (ifT hc58 HB54.out)
              have HK59 := Lib.hid hc58
              cases Option.some.inj HB54.out
              try go_wp2_with fail
              go_meet
              case rel => exact ⟨rfl, HWC55⟩
            · replace HB54 := Lib.hid (ifF (bF hc58) HB54.out)
              have HK59 := Lib.hid hc58
              obtain ⟨A60, cap61, he, _⟩ := HP.open_B HOA.out (List.Mem.head _)
              subst he
              rcases Bool.eq_false_or_eq_true (((y43).length : Int) != (wrap64 (((v1).length : Int) + 1))) with hc62 | hc62
              · replace HB54 := Lib.hid (ifT hc62 HB54.out)
                have HK63 := Lib.hid hc62
                cases Option.some.inj HB54.out
                try go_wp2_with fail
                go_meet
                case rel => exact ⟨rfl, HWC55⟩
              · replace HB54 := Lib.hid (ifF (bF hc62) HB54.out)
                have HK63 := Lib.hid hc62
                cases Option.some.inj HB54.out
                try go_wp2_with fail
                go_meet
                case rel => exact ⟨rfl, HWC55⟩
          case rest =>
            obtain ⟨rfl, HWC55⟩ := hcut
            rename World => W64
            have hd := HWC55.out
            replace HOA := Lib.hid (HOA.out.below hd)
            replace HD := Lib.hid (HD.out.trans (hd.mono HD.out.size))
            clear hd
            cases b53
            · replace HM := Lib.hid (ifF Bool.false_ne_true HM.out)
              go_wp2_with fail
              obtain ⟨o65, ho, hm⟩ := obind HM.out
              replace HM := Lib.hid hm; have HL1 := Lib.hid ho; clear hm ho
              go_loopg [14, 15] F (fun gg ux68 ux69 wr => ∃ (x66 : Int) (x67 : Int), ux68 = .int .i64 x66 ∧ ux69 = .int .i64 x67 ∧ Hid (Below W64.heap.size W64 wr) ∧ Hid (L3_SpanMore_L1 F (v1) (y10) (y43) gg x66 x67 = some o65))
              case atStart => exact ⟨0, 0, rfl, rfl, (Lib.hid (Below.refl _ _)), HL1⟩
              case round =>
                obtain ⟨x66, x67, rfl, rfl, HW1, HL1⟩ := hrel
                rename World => W70
                have hd := HW1.out
                replace HOA := Lib.hid (HOA.out.below hd)
                replace HD := Lib.hid (HD.out.trans (hd.mono HD.out.size))
                clear hd
                cases gk with
                | zero => exact absurd ((L3_SpanMore_L1_0 ..).symm.trans HL1.out) (by intro h; cases h)
                | succ g1 =>
                  replace HL1 := Lib.hid ((L3_SpanMore_L1_s ..).symm.trans HL1.out)
                  by_cases hc71 : x67 < ((v1).length : Int)
                  · replace HL1 := Lib.hid (ifT hc71 HL1.out)
                    have HK72 := Lib.hid hc71
                    obtain ⟨b73, hb, hm⟩ := obind HL1.out
                    replace HL1 := Lib.hid hm; have HB74 := Lib.hid hb; clear hm hb
                    obtain ⟨A77, cap78, he, _⟩ := HP.open_B HOA.out (List.Mem.tail _ (List.Mem.tail _ (List.Mem.head _)))
                    subst he
                    obtain ⟨y75, hy76, hm⟩ := obind HB74.out
                    replace HB74 := Lib.hid hm; clear hm
                    obtain ⟨b79, o80, ea81, _, f82, f83, f84⟩ := ReadsB.ix (HP.rd_B HOA.out (List.Mem.tail _ (List.Mem.tail _ (List.Mem.head _)))) hy76
                    cases ea81
                    try simp only [Nat.zero_add, Nat.add_zero, Int.toNat_natCast, Int.toNat_zero, Int.toNat_one] at f84
                    try rw [← HP.len_B HOA.out (List.Mem.tail _ (List.Mem.tail _ (List.Mem.head _)))] at f83
                    have HY86 := Lib.hid hy76; clear hy76
                    cases y75
                    · replace HB74 := Lib.hid (ifF Bool.false_ne_true HB74.out)
                      obtain rfl := Option.some.inj HB74.out
                      replace HL1 := Lib.hid (ifF (by first | exact Bool.false_ne_true | exact not_false) HL1.out)
                      obtain ⟨b87, hb, hm⟩ := obind HL1.out
                      replace HL1 := Lib.hid hm; have HB88 := Lib.hid hb; clear hm hb
                      obtain ⟨y89, hy90, hm⟩ := obind HB88.out
                      replace HB88 := Lib.hid hm; clear hm
                      obtain rfl := Option.some.inj (HY86.out.symm.trans hy90)
                      clear hy90
                      replace HB88 := Lib.hid (ifF (by first | exact Bool.false_ne_true | exact not_false) HB88.out)
                      obtain ⟨A93, cap94, he, _⟩ := HP.open_B HOA.out (List.Mem.head _)
                      subst he
                      obtain ⟨y91, hy92, hm⟩ := obind HB88.out
                      replace HB88 := Lib.hid hm; clear hm
                      obtain ⟨b95, o96, ea97, _, f98, f99, f100⟩ := ReadsB.ix (HP.rd_B HOA.out (List.Mem.head _)) hy92
                      cases ea97
                      try simp only [Nat.zero_add, Nat.add_zero, Int.toNat_natCast, Int.toNat_zero, Int.toNat_one] at f100
                      try rw [← HP.len_B HOA.out (List.Mem.head _)] at f99
                      have HY102 := Lib.hid hy92; clear hy92
                      cases y91
                      · replace HB88 := Lib.hid (ifF Bool.false_ne_true HB88.out)
                        obtain rfl := Option.some.inj HB88.out
                        replace HL1 := Lib.hid (ifF (by first | exact Bool.false_ne_true | exact not_false) HL1.out)
                        go_wp2_with fail
                        try clear hc71 f82 f83 f84 f98 f99 f100
                        go_roundg g1
                        case measure => omega
                        case rel => exact ⟨x66, (wrap64 (x67 + 1)), rfl, rfl, HW1, HL1⟩
                      · replace HB88 := Lib.hid (ifT rfl HB88.out)
                        obtain rfl := Option.some.inj HB88.out
                        replace HL1 := Lib.hid (ifT (by first | rfl | trivial) HL1.out)
                        obtain rfl := Option.some.inj HL1.out
                        have hm := HM.out; try dsimp only at hm
                        replace HM := Lib.hid hm; clear hm
                        obtain rfl := Option.some.inj HM.out
                        go_wp2_with fail
                        try clear f82 f83 f84 f98 f99 f100
                        go_ret
                        exact ⟨(by first | rfl | (refine congrArg (fun b => Ending.returned (Value.bool b)) ?_; first | (exact decide_eq_true (by omega)) | (exact decide_eq_false (by omega)) | (have q := hc71; rw [bne_iff_ne] at q ⊢; omega) | (have q := hc71; rw [bne_eq_false_iff_eq] at q ⊢; omega) | (have q := hc71; rw [beq_iff_eq] at q ⊢; omega) | (have q := hc71; rw [beq_eq_false_iff_ne] at q ⊢; omega))), HD.out⟩
                    · replace HB74 := Lib.hid (ifT rfl HB74.out)
                      obtain ⟨A105, cap106, he, _⟩ := HP.open_B HOA.out (List.Mem.head _)
                      subst he
                      obtain ⟨y103, hy104, hm⟩ := obind HB74.out
                      replace HB74 := Lib.hid hm; clear hm
                      obtain ⟨b107, o108, ea109, _, f110, f111, f112⟩ := ReadsB.ix (HP.rd_B HOA.out (List.Mem.head _)) hy104
                      cases ea109
                      try simp only [Nat.zero_add, Nat.add_zero, Int.toNat_natCast, Int.toNat_zero, Int.toNat_one] at f112
                      try rw [← HP.len_B HOA.out (List.Mem.head _)] at f111
                      have HY114 := Lib.hid hy104; clear hy104
                      cases y103
                      · replace HB74 := Lib.hid (ifF Bool.false_ne_true HB74.out)
                        obtain rfl := Option.some.inj HB74.out
                        replace HL1 := Lib.hid (ifT (by first | rfl | trivial) HL1.out)
                        obtain ⟨b115, hb, hm⟩ := obind HL1.out
                        replace HL1 := Lib.hid hm; have HB116 := Lib.hid hb; clear hm hb
                        obtain ⟨y117, hy118, hm⟩ := obind HB116.out
                        replace HB116 := Lib.hid hm; clear hm
                        obtain rfl := Option.some.inj (HY86.out.symm.trans hy118)
                        clear hy118
                        replace HB116 := Lib.hid (ifT (by first | rfl | trivial) HB116.out)
                        obtain rfl := Option.some.inj HB116.out
                        replace HL1 := Lib.hid (ifF (by first | exact Bool.false_ne_true | exact not_false) HL1.out)
                        go_wp2_with fail
                        try clear hc71 f82 f83 f84 f110 f111 f112
                        go_roundg g1
                        case measure => omega
                        case rel => exact ⟨(wrap64 (x66 + 1)), (wrap64 (x67 + 1)), rfl, rfl, HW1, HL1⟩
                      · replace HB74 := Lib.hid (ifT rfl HB74.out)
                        obtain rfl := Option.some.inj HB74.out
                        replace HL1 := Lib.hid (ifF (by first | exact Bool.false_ne_true | exact not_false) HL1.out)
                        obtain ⟨b119, hb, hm⟩ := obind HL1.out
                        replace HL1 := Lib.hid hm; have HB120 := Lib.hid hb; clear hm hb
                        obtain ⟨y121, hy122, hm⟩ := obind HB120.out
                        replace HB120 := Lib.hid hm; clear hm
                        obtain rfl := Option.some.inj (HY86.out.symm.trans hy122)
                        clear hy122
                        replace HB120 := Lib.hid (ifT (by first | rfl | trivial) HB120.out)
                        obtain rfl := Option.some.inj HB120.out
                        replace HL1 := Lib.hid (ifF (by first | exact Bool.false_ne_true | exact not_false) HL1.out)
                        go_wp2_with fail
                        try clear hc71 f82 f83 f84 f110 f111 f112
                        go_roundg g1
                        case measure => omega
                        case rel => exact ⟨x66, (wrap64 (x67 + 1)), rfl, rfl, HW1, HL1⟩
                  · replace HL1 := Lib.hid (ifF hc71 HL1.out)
                    have hc71d := decide_eq_false hc71
                    have HK72 := Lib.hid hc71
                    obtain rfl := Option.some.inj HL1.out
                    have hm := HM.out; try dsimp only at hm
                    replace HM := Lib.hid hm; clear hm
                    obtain ⟨b123, hb, hm⟩ := obind HM.out
                    replace HM := Lib.hid hm; have HB124 := Lib.hid hb; clear hm hb
                    obtain ⟨b125, hb, hm⟩ := obind HB124.out
                    replace HB124 := Lib.hid hm; have HB126 := Lib.hid hb; clear hm hb
                    by_cases hc127 : y44 ≤ y11
                    · replace HB126 := Lib.hid (ifT hc127 HB126.out)
                      have HK128 := Lib.hid hc127
                      obtain ⟨b129, hb, hm⟩ := obind HB126.out
                      replace HB126 := Lib.hid hm; have HB130 := Lib.hid hb; clear hm hb
                      rcases Bool.eq_false_or_eq_true (x66 == 1) with hc131 | hc131
                      · replace HB130 := Lib.hid (ifT hc131 HB130.out)
                        have HK132 := Lib.hid hc131
                        obtain rfl := Option.some.inj HB130.out
                        obtain ⟨A135, cap136, he, _⟩ := HP.open_B HOA.out (List.Mem.head _)
                        subst he
                        obtain ⟨y133, hy134, hm⟩ := obind HB126.out
                        replace HB126 := Lib.hid hm; clear hm
                        obtain ⟨b137, o138, ea139, _, f140, f141, f142⟩ := ReadsB.ix (HP.rd_B HOA.out (List.Mem.head _)) hy134
                        cases ea139
                        try simp only [Nat.zero_add, Nat.add_zero, Int.toNat_natCast, Int.toNat_zero, Int.toNat_one] at f142
                        try rw [← HP.len_B HOA.out (List.Mem.head _)] at f141
                        have HY144 := Lib.hid hy134; clear hy134
                        cases y133
                        · replace HB126 := Lib.hid (ifF (by decide) HB126.out)
                          obtain rfl := Option.some.inj HB126.out
                          replace HB124 := Lib.hid (ifF (by first | exact Bool.false_ne_true | exact not_false) HB124.out)
                          obtain rfl := Option.some.inj HB124.out
                          obtain rfl := Option.some.inj HM.out
                          go_wp2_with fail
                          try clear f140 f141 f142
                          go_ret
                          exact ⟨(by first | rfl | (refine congrArg (fun b => Ending.returned (Value.bool b)) ?_; first | (exact decide_eq_true (by omega)) | (exact decide_eq_false (by omega)) | (have q := hc127; rw [bne_iff_ne] at q ⊢; omega) | (have q := hc127; rw [bne_eq_false_iff_eq] at q ⊢; omega) | (have q := hc127; rw [beq_iff_eq] at q ⊢; omega) | (have q := hc127; rw [beq_eq_false_iff_ne] at q ⊢; omega) | (have q := hc131; rw [bne_iff_ne] at q ⊢; omega) | (have q := hc131; rw [bne_eq_false_iff_eq] at q ⊢; omega) | (have q := hc131; rw [beq_iff_eq] at q ⊢; omega) | (have q := hc131; rw [beq_eq_false_iff_ne] at q ⊢; omega))), HD.out⟩
                        · replace HB126 := Lib.hid (ifT (by decide) HB126.out)
                          obtain rfl := Option.some.inj HB126.out
                          replace HB124 := Lib.hid (ifT (by first | rfl | trivial) HB124.out)
                          by_cases hc145 : x66 ≤ 1
                          · replace HB124 := Lib.hid (ifT hc145 HB124.out)
                            have HK146 := Lib.hid hc145
                            obtain rfl := Option.some.inj HB124.out
                            obtain rfl := Option.some.inj HM.out
                            go_wp2_with fail
                            try clear f140 f141 f142
                            go_ret
                            exact ⟨(by first | rfl | (refine congrArg (fun b => Ending.returned (Value.bool b)) ?_; first | (exact decide_eq_true (by omega)) | (exact decide_eq_false (by omega)) | (have q := hc131; rw [bne_iff_ne] at q ⊢; omega) | (have q := hc131; rw [bne_eq_false_iff_eq] at q ⊢; omega) | (have q := hc131; rw [beq_iff_eq] at q ⊢; omega) | (have q := hc131; rw [beq_eq_false_iff_ne] at q ⊢; omega) | (have q := hc145; rw [bne_iff_ne] at q ⊢; omega) | (have q := hc145; rw [bne_eq_false_iff_eq] at q ⊢; omega) | (have q := hc145; rw [beq_iff_eq] at q ⊢; omega) | (have q := hc145; rw [beq_eq_false_iff_ne] at q ⊢; omega))), HD.out⟩
                          · replace HB124 := Lib.hid (ifF hc145 HB124.out)
                            have hc145d := decide_eq_false hc145
                            have HK146 := Lib.hid hc145
                            obtain rfl := Option.some.inj HB124.out
                            obtain rfl := Option.some.inj HM.out
                            go_wp2_with fail
                            try clear f140 f141 f142
                            go_ret
                            exact ⟨(by first | rfl | (refine congrArg (fun b => Ending.returned (Value.bool b)) ?_; first | (exact decide_eq_true (by omega)) | (exact decide_eq_false (by omega)) | (have q := hc145; rw [bne_iff_ne] at q ⊢; omega) | (have q := hc145; rw [bne_eq_false_iff_eq] at q ⊢; omega) | (have q := hc145; rw [beq_iff_eq] at q ⊢; omega) | (have q := hc145; rw [beq_eq_false_iff_ne] at q ⊢; omega) | (have q := hc145d; rw [bne_iff_ne] at q ⊢; omega) | (have q := hc145d; rw [bne_eq_false_iff_eq] at q ⊢; omega) | (have q := hc145d; rw [beq_iff_eq] at q ⊢; omega) | (have q := hc145d; rw [beq_eq_false_iff_ne] at q ⊢; omega))), HD.out⟩
                      · replace HB130 := Lib.hid (ifF (bF hc131) HB130.out)
                        have HK132 := Lib.hid hc131
                        obtain rfl := Option.some.inj HB130.out
                        obtain ⟨A149, cap150, he, _⟩ := HP.open_B HOA.out (List.Mem.head _)
                        subst he
                        obtain ⟨y147, hy148, hm⟩ := obind HB126.out
                        replace HB126 := Lib.hid hm; clear hm
                        obtain ⟨b151, o152, ea153, _, f154, f155, f156⟩ := ReadsB.ix (HP.rd_B HOA.out (List.Mem.head _)) hy148
                        cases ea153
                        try simp only [Nat.zero_add, Nat.add_zero, Int.toNat_natCast, Int.toNat_zero, Int.toNat_one] at f156
                        try rw [← HP.len_B HOA.out (List.Mem.head _)] at f155
                        have HY158 := Lib.hid hy148; clear hy148
                        cases y147
                        · replace HB126 := Lib.hid (ifT (by decide) HB126.out)
                          obtain rfl := Option.some.inj HB126.out
                          replace HB124 := Lib.hid (ifT (by first | rfl | trivial) HB124.out)
                          by_cases hc159 : x66 ≤ 1
                          · replace HB124 := Lib.hid (ifT hc159 HB124.out)
                            have HK160 := Lib.hid hc159
                            obtain rfl := Option.some.inj HB124.out
                            obtain rfl := Option.some.inj HM.out
                            go_wp2_with fail
                            try clear f154 f155 f156
                            go_ret
                            exact ⟨(by first | rfl | (refine congrArg (fun b => Ending.returned (Value.bool b)) ?_; first | (exact decide_eq_true (by omega)) | (exact decide_eq_false (by omega)) | (have q := hc131; rw [bne_iff_ne] at q ⊢; omega) | (have q := hc131; rw [bne_eq_false_iff_eq] at q ⊢; omega) | (have q := hc131; rw [beq_iff_eq] at q ⊢; omega) | (have q := hc131; rw [beq_eq_false_iff_ne] at q ⊢; omega) | (have q := hc159; rw [bne_iff_ne] at q ⊢; omega) | (have q := hc159; rw [bne_eq_false_iff_eq] at q ⊢; omega) | (have q := hc159; rw [beq_iff_eq] at q ⊢; omega) | (have q := hc159; rw [beq_eq_false_iff_ne] at q ⊢; omega))), HD.out⟩
                          · replace HB124 := Lib.hid (ifF hc159 HB124.out)
                            have hc159d := decide_eq_false hc159
                            have HK160 := Lib.hid hc159
                            obtain rfl := Option.some.inj HB124.out
                            obtain rfl := Option.some.inj HM.out
                            go_wp2_with fail
                            try clear f154 f155 f156
                            go_ret
                            exact ⟨(by first | rfl | (refine congrArg (fun b => Ending.returned (Value.bool b)) ?_; first | (exact decide_eq_true (by omega)) | (exact decide_eq_false (by omega)) | (have q := hc159; rw [bne_iff_ne] at q ⊢; omega) | (have q := hc159; rw [bne_eq_false_iff_eq] at q ⊢; omega) | (have q := hc159; rw [beq_iff_eq] at q ⊢; omega) | (have q := hc159; rw [beq_eq_false_iff_ne] at q ⊢; omega) | (have q := hc159d; rw [bne_iff_ne] at q ⊢; omega) | (have q := hc159d; rw [bne_eq_false_iff_eq] at q ⊢; omega) | (have q := hc159d; rw [beq_iff_eq] at q ⊢; omega) | (have q := hc159d; rw [beq_eq_false_iff_ne] at q ⊢; omega))), HD.out⟩
                        · replace HB126 := Lib.hid (ifF (by decide) HB126.out)
                          obtain rfl := Option.some.inj HB126.out
                          replace HB124 := Lib.hid (ifF (by first | exact Bool.false_ne_true | exact not_false) HB124.out)
                          obtain rfl := Option.some.inj HB124.out
                          obtain rfl := Option.some.inj HM.out
                          go_wp2_with fail
                          try clear f154 f155 f156
                          go_ret
                          exact ⟨(by first | rfl | (refine congrArg (fun b => Ending.returned (Value.bool b)) ?_; first | (exact decide_eq_true (by omega)) | (exact decide_eq_false (by omega)) | (have q := hc127; rw [bne_iff_ne] at q ⊢; omega) | (have q := hc127; rw [bne_eq_false_iff_eq] at q ⊢; omega) | (have q := hc127; rw [beq_iff_eq] at q ⊢; omega) | (have q := hc127; rw [beq_eq_false_iff_ne] at q ⊢; omega) | (have q := hc131; rw [bne_iff_ne] at q ⊢; omega) | (have q := hc131; rw [bne_eq_false_iff_eq] at q ⊢; omega) | (have q := hc131; rw [beq_iff_eq] at q ⊢; omega) | (have q := hc131; rw [beq_eq_false_iff_ne] at q ⊢; omega))), HD.out⟩
                    · replace HB126 := Lib.hid (ifF hc127 HB126.out)
                      have hc127d := decide_eq_false hc127
                      have HK128 := Lib.hid hc127
                      obtain rfl := Option.some.inj HB126.out
                      replace HB124 := Lib.hid (ifF (by first | exact Bool.false_ne_true | exact not_false) HB124.out)
                      obtain rfl := Option.some.inj HB124.out
                      obtain rfl := Option.some.inj HM.out
                      go_wp2_with fail
                      go_ret
                      exact ⟨(by first | rfl | (refine congrArg (fun b => Ending.returned (Value.bool b)) ?_; first | (exact decide_eq_true (by omega)) | (exact decide_eq_false (by omega)) | (have q := hc127; rw [bne_iff_ne] at q ⊢; omega) | (have q := hc127; rw [bne_eq_false_iff_eq] at q ⊢; omega) | (have q := hc127; rw [beq_iff_eq] at q ⊢; omega) | (have q := hc127; rw [beq_eq_false_iff_ne] at q ⊢; omega) | (have q := hc127d; rw [bne_iff_ne] at q ⊢; omega) | (have q := hc127d; rw [bne_eq_false_iff_eq] at q ⊢; omega) | (have q := hc127d; rw [beq_iff_eq] at q ⊢; omega) | (have q := hc127d; rw [beq_eq_false_iff_ne] at q ⊢; omega))), HD.out⟩
            · replace HM := Lib.hid (ifT rfl HM.out)
              obtain rfl := Option.some.inj HM.out
              go_wp2_with fail
              go_ret
              exact ⟨rfl, HD.out⟩
        · try rw [errV_pos _ hz51]
          have HZ52 := Lib.hid hz51; clear hz51
          replace HM := Lib.hid (ifT (bne_iff_ne.2 HZ52.out) HM.out)
          obtain ⟨b161, hb, hm⟩ := obind HM.out
          replace HM := Lib.hid hm; have HB162 := Lib.hid hb; clear hm hb
          obtain ⟨A163, cap164, he, _⟩ := HP.open_B HOA.out (List.Mem.head _)
          subst he
          rcases Bool.eq_false_or_eq_true (((y43).length : Int) == 0) with hc165 | hc165
          · replace HB162 := Lib.hid (ifT hc165 HB162.out)
            have HK166 := Lib.hid hc165
            obtain rfl := Option.some.inj HB162.out
            obtain rfl := Option.some.inj HM.out
            go_wp2_with fail
            go_ret
            exact ⟨(by first | rfl | (refine congrArg (fun b => Ending.returned (Value.bool b)) ?_; first | (exact decide_eq_true (by omega)) | (exact decide_eq_false (by omega)) | (have q := hc165; rw [bne_iff_ne] at q ⊢; omega) | (have q := hc165; rw [bne_eq_false_iff_eq] at q ⊢; omega) | (have q := hc165; rw [beq_iff_eq] at q ⊢; omega) | (have q := hc165; rw [beq_eq_false_iff_ne] at q ⊢; omega))), HD.out⟩
          · replace HB162 := Lib.hid (ifF (bF hc165) HB162.out)
            have HK166 := Lib.hid hc165
            obtain rfl := Option.some.inj HB162.out
            obtain rfl := Option.some.inj HM.out
            go_wp2_with fail
            go_ret
            exact ⟨(by first | rfl | (refine congrArg (fun b => Ending.returned (Value.bool b)) ?_; first | (exact decide_eq_true (by omega)) | (exact decide_eq_false (by omega)) | (have q := hc165; rw [bne_iff_ne] at q ⊢; omega) | (have q := hc165; rw [bne_eq_false_iff_eq] at q ⊢; omega) | (have q := hc165; rw [beq_iff_eq] at q ⊢; omega) | (have q := hc165; rw [beq_eq_false_iff_ne] at q ⊢; omega))), HD.out⟩
      · replace HM := Lib.hid (ifT rfl HM.out)
        obtain ⟨b167, hb, hm⟩ := obind HM.out
        replace HM := Lib.hid hm; have HB168 := Lib.hid hb; clear hm hb
        by_cases hz169 : y12 = 0
        · subst hz169
          try simp only [errV_zero]
          replace HB168 := Lib.hid (ifT (by decide) HB168.out)
          obtain rfl := Option.some.inj HB168.out
          obtain rfl := Option.some.inj HM.out
          go_wp2_with fail
          go_ret
          exact ⟨rfl, HD.out⟩
        · try rw [errV_pos _ hz169]
          have HZ170 := Lib.hid hz169; clear hz169
          replace HB168 := Lib.hid (ifF (fun h => HZ170.out (eq_of_beq h)) HB168.out)
          obtain ⟨A171, cap172, he, _⟩ := HP.open_B HOA.out (List.Mem.head _)
          subst he
          rcases Bool.eq_false_or_eq_true (((y10).length : Int) == 0) with hc173 | hc173
          · replace HB168 := Lib.hid (ifT hc173 HB168.out)
            have HK174 := Lib.hid hc173
            obtain rfl := Option.some.inj HB168.out
            obtain rfl := Option.some.inj HM.out
            go_wp2_with fail
            go_ret
            exact ⟨(by first | rfl | (refine congrArg (fun b => Ending.returned (Value.bool b)) ?_; first | (exact decide_eq_true (by omega)) | (exact decide_eq_false (by omega)) | (have q := hc173; rw [bne_iff_ne] at q ⊢; omega) | (have q := hc173; rw [bne_eq_false_iff_eq] at q ⊢; omega) | (have q := hc173; rw [beq_iff_eq] at q ⊢; omega) | (have q := hc173; rw [beq_eq_false_iff_ne] at q ⊢; omega))), HD.out⟩
          · replace HB168 := Lib.hid (ifF (bF hc173) HB168.out)
            have HK174 := Lib.hid hc173
            obtain rfl := Option.some.inj HB168.out
            obtain rfl := Option.some.inj HM.out
            go_wp2_with fail
            go_ret
            exact ⟨(by first | rfl | (refine congrArg (fun b => Ending.returned (Value.bool b)) ?_; first | (exact decide_eq_true (by omega)) | (exact decide_eq_false (by omega)) | (have q := hc173; rw [bne_iff_ne] at q ⊢; omega) | (have q := hc173; rw [bne_eq_false_iff_eq] at q ⊢; omega) | (have q := hc173; rw [beq_iff_eq] at q ⊢; omega) | (have q := hc173; rw [beq_eq_false_iff_ne] at q ⊢; omega))), HD.out⟩
end Go.Proofs.Ytccdnokddkpmgaa
/- SpanMore -/
set_option linter.all false
set_option maxRecDepth 100000
namespace Go.Proofs.Ytccdnokddkpmgaa
open Go.RowKit Pl
section
variable {k : Nat} {l : List (Int × Int × Int)}
theorem Cn.congr {l' : List (Int × Int × Int)} {T : List Nat} (h : ∀ i ∈ T, pA l i = pA l' i ∧ pB l i = pB l' i) {a b : Nat} (hc : Cn l T a b) : Cn l' T a b := by
  induction hc with
  | refl => exact .refl _
  | step _ hi hj ih =>
    obtain ⟨h1, h2⟩ := h _ hi
    rw [h1, h2] at hj
    exact .step ih hi hj
theorem getD_app {e : Int × Int × Int} {i : Nat} (hi : i < l.length) : (l ++ [e]).getD i (0, 0, 0) = l.getD i (0, 0, 0) := by
  rw [List.getD_eq_getElem?_getD, List.getElem?_append_left hi, ← List.getD_eq_getElem?_getD]
theorem ends_app {e : Int × Int × Int} {i : Nat} (hi : i < l.length) : pA l i = pA (l ++ [e]) i ∧ pB l i = pB (l ++ [e]) i ∧ cs l i = cs (l ++ [e]) i := by
  unfold pA pB cs; rw [getD_app hi]; exact ⟨rfl, rfl, rfl⟩
/-- a line more: what is taken of the others was taken before -/
theorem taken_less {e : Int × Int × Int} (hk : k ≤ 8) (hin : InC k l) (hin' : InC k (l ++ [e])) {ord ord' : List Nat} (hn : ord.Nodup) (hord : ∀ x, x ∈ ord ↔ x < l.length) (hp : ord.Pairwise fun a b => cs l a < cs l b ∨ (cs l a = cs l b ∧ a < b))
    (hn' : ord'.Nodup) (hord' : ∀ x, x ∈ ord' ↔ x < (l ++ [e]).length) (hp' : ord'.Pairwise fun a b => cs (l ++ [e]) a < cs (l ++ [e]) b ∨ (cs (l ++ [e]) a = cs (l ++ [e]) b ∧ a < b)) {i : Nat} (hi : i < l.length)
    (ht : (ord'.foldl (krS (l ++ [e])) (st0 k (l ++ [e]).length)).2.1.getD i false = true) : (ord.foldl (krS l) (st0 k l.length)).2.1.getD i false = true := by
  have hl' : (l ++ [e]).length = l.length + 1 := by simp
  obtain ⟨P, Q, e1⟩ := List.append_of_mem ((hord i).2 hi)
  obtain ⟨P', Q', e2⟩ := List.append_of_mem ((hord' i).2 (by omega))
  have h1 := taken_iff (P := P) (Q := Q) hk hin (fun x hx => (hord x).1 (by rw [e1]; exact List.mem_append_left _ hx)) hi (by rw [← e1]; exact hn)
  have h2 := taken_iff (P := P') (Q := Q') hk hin' (fun x hx => (hord' x).1 (by rw [e2]; exact List.mem_append_left _ hx)) (show i < (l ++ [e]).length by omega) (by rw [← e2]; exact hn')
  rw [← e1] at h1
  rw [← e2] at h2
  refine h1.2 fun hc => h2.1 ht ?_
  obtain ⟨q1, q2, q3⟩ := ends_app (e := e) hi
  rw [← q1, ← q2]
  have hPl : ∀ x ∈ P, x < l.length := fun x hx => (hord x).1 (by rw [e1]; exact List.mem_append_left _ hx)
  have hc' : Cn (l ++ [e]) P (pA l i) (pB l i) := hc.congr fun x hx => ⟨(ends_app (hPl x hx)).1, (ends_app (hPl x hx)).2.1⟩
  refine hc'.mono fun x hx => (before_iff hn' hp' e2 x).2 ⟨(hord' x).2 (by have := hPl x hx; omega), ?_⟩
  have := ((before_iff hn hp e1 x).1 hx).2
  rw [← q3, ← (ends_app (hPl x hx)).2.2]; exact this
theorem mo_L1 (y z : List Bool) (hy : y.length = l.length) (hz : l.length ≤ z.length) (h24 : l.length ≤ 24) (hle : ∀ i, i < l.length → z.getD i false = true → y.getD i false = true) : ∀ (g j : Nat) (v : Int), l.length < j + g → j ≤ l.length → 0 ≤ v → v ≤ (j : Int) →
    ∃ x, L3_SpanMore_L1 300 l y z g v (j : Int) = some (.inl (v + (cnt (fun i => y.getD i false && !z.getD i false) (List.range' j (l.length - j)) : Int), x))
  | 0, j, v, h, hj, _, _ => by omega
  | g+1, j, v, h, hj, h0, hv => by
    rw [L3_SpanMore_L1_s]
    by_cases c : j < l.length
    · have hiy : ix y (j : Int) = some (y.getD j false) := ix_at false (by omega)
      have hiz : ix z (j : Int) = some (z.getD j false) := ix_at false (by omega)
      have hl := hle j c
      rw [if_pos (by omega), hiy, hiz, w64n (by omega), w64 (by omega) (by omega)]
      rw [show l.length - j = (l.length - (j+1)) + 1 by omega, List.range'_succ]
      obtain ⟨x1, ih1⟩ := mo_L1 y z hy hz h24 hle g (j+1) v (by omega) (by omega) h0 (by omega)
      obtain ⟨x2, ih2⟩ := mo_L1 y z hy hz h24 hle g (j+1) (v+1) (by omega) (by omega) (by omega) (by omega)
      cases e1 : y.getD j false <;> cases e2 : z.getD j false
      · refine ⟨x1, ?_⟩
        have : cnt (fun i => y.getD i false && !z.getD i false) (j :: List.range' (j+1) (l.length - (j+1))) = cnt (fun i => y.getD i false && !z.getD i false) (List.range' (j+1) (l.length - (j+1))) := by
          unfold cnt; rw [List.filter_cons_of_neg (by rw [e1]; simp)]
        rw [this, ← ih1]; rfl
      · rw [e2] at hl; have := hl rfl; rw [e1] at this; cases this
      · refine ⟨x2, ?_⟩
        have : cnt (fun i => y.getD i false && !z.getD i false) (j :: List.range' (j+1) (l.length - (j+1))) = cnt (fun i => y.getD i false && !z.getD i false) (List.range' (j+1) (l.length - (j+1))) + 1 := by
          unfold cnt; rw [List.filter_cons_of_pos (by rw [e1, e2]; decide), List.length_cons]
        have e3 : v + ((cnt (fun i => y.getD i false && !z.getD i false) (j :: List.range' (j+1) (l.length - (j+1))) : Nat) : Int) = v + 1 + ((cnt (fun i => y.getD i false && !z.getD i false) (List.range' (j+1) (l.length - (j+1))) : Nat) : Int) := by rw [this]; omega
        rw [e3, ← ih2]; rfl
      · refine ⟨x1, ?_⟩
        have : cnt (fun i => y.getD i false && !z.getD i false) (j :: List.range' (j+1) (l.length - (j+1))) = cnt (fun i => y.getD i false && !z.getD i false) (List.range' (j+1) (l.length - (j+1))) := by
          unfold cnt; rw [List.filter_cons_of_neg (by rw [e1, e2]; decide)]
        rw [this, ← ih1]; rfl
    · have : j = l.length := by omega
      subst this
      rw [if_neg (by omega), Nat.sub_self]
      exact ⟨(l.length : Int), by simp [cnt]⟩
theorem cnt_split (y z : Nat → Bool) : ∀ (o : List Nat), (∀ i ∈ o, z i = true → y i = true) → cnt y o = cnt z o + cnt (fun i => y i && !z i) o
  | [], _ => rfl
  | i :: o, h => by
    have ih := cnt_split y z o fun j hj => h j (List.mem_cons_of_mem _ hj)
    have hi := h i List.mem_cons_self
    unfold cnt at ih ⊢
    simp only [List.filter_cons]
    cases e1 : y i <;> cases e2 : z i
    · simpa using ih
    · rw [e2] at hi; have := hi rfl; rw [e1] at this; cases this
    · simp; omega
    · simp; omega
theorem sumL_congr {f g : Nat → Int} : ∀ (o : List Nat), (∀ i ∈ o, f i = g i) → sumL f o = sumL g o
  | [], _ => rfl
  | i :: o, h => by
    simp only [sumL]
    rw [h i List.mem_cons_self, sumL_congr o fun j hj => h j (List.mem_cons_of_mem _ hj)]
theorem more_ev (n : Int) (l : List (Int × Int × Int)) (e : Int × Int × Int) : L3_SpanMore 300 n l e = some true := by
  unfold L3_SpanMore
  rw [fact_ev, Option.bind_some, if_pos rfl]
  by_cases h : errC n l = 0
  · obtain ⟨k, rfl, h1, hk, h24, hin⟩ := errC_zero h
    have hch : span_Check 300 (k : Int) l = some 0 := by rw [spanck_ev, h]
    obtain ⟨ord, o1, o2, o3, o4⟩ := least_ev' h1 hk hin h24 hch
    rw [o4, Option.bind_some]
    by_cases c : (ord.foldl (krS l) (st0 k l.length)).1.getD 0 0 = 2 ^ k - 1
    · have hlen : (ord.foldl (krS l) (st0 k l.length)).2.1.length = l.length := by rw [fold_len]; simp [st0]
      have G := span_tree h1 hk h24 hin o1 o2 c
      have hlt : ∀ x ∈ ord, x < l.length := fun x hx => (o2 x).1 hx
      obtain ⟨hsum, _, _⟩ := taken_row hk hin ord [] 0 (st0 k l.length) hlt (fun x h => by cases h) o1 (fun x hx => by
        have := hlt x hx
        simp [st0, List.getD, this]) (ok0 hk) (iv0 hk)
      have hz0 : (st0 k l.length).2.2 = 0 := rfl
      rw [hz0, Int.zero_add, sumL_perm _ (ord_perm o1 o2)] at hsum
      rw [if_pos c]
      dsimp only
      by_cases c24 : l.length = 24
      · rw [if_neg (by decide), if_pos (by rw [beq_iff_eq]; omega), Option.bind_some, if_pos rfl, if_pos (by decide)]; rfl
      · have ha1 : appL ([] : List (Int × Int × Int)) l = some l := by unfold appL; rw [if_pos (by simp; omega)]; rfl
        have ha2 : app l e = some (l ++ [e]) := by unfold app; rw [if_pos (by omega)]
        rw [if_neg (by decide), if_neg (by rw [beq_iff_eq]; omega), Option.bind_some, if_neg (by decide), ha1, Option.bind_some, ha2, Option.bind_some]
        have hl' : (l ++ [e]).length = l.length + 1 := by simp
        by_cases h' : errC (k : Int) (l ++ [e]) = 0
        · obtain ⟨k', hk', _, _, h24', hin'⟩ := errC_zero h'
          obtain rfl : k = k' := by omega
          have hch' : span_Check 300 (k : Int) (l ++ [e]) = some 0 := by rw [spanck_ev, h']
          obtain ⟨ord', p1, p2, p3, p4⟩ := least_ev' h1 hk hin' h24' hch'
          rw [p4, Option.bind_some]
          by_cases c' : (ord'.foldl (krS (l ++ [e])) (st0 k (l ++ [e]).length)).1.getD 0 0 = 2 ^ k - 1
          · have hlen' : (ord'.foldl (krS (l ++ [e])) (st0 k (l ++ [e]).length)).2.1.length = l.length + 1 := by rw [fold_len]; simp [st0]
            have G' := span_tree h1 hk h24' hin' p1 p2 c'
            have hless : ∀ i, i < l.length → (ord'.foldl (krS (l ++ [e])) (st0 k (l ++ [e]).length)).2.1.getD i false = true → (ord.foldl (krS l) (st0 k l.length)).2.1.getD i false = true :=
              fun i hi ht => taken_less hk hin hin' o1 o2 o3 p1 p2 p3 hi ht
            have hkr := fun y hcon => kruskal hk hin' p1 p2 (p3.imp fun h => by omega) y hcon h1
            rw [if_pos c']
            obtain ⟨R, hR⟩ : ∃ R, ord.foldl (krS l) (st0 k l.length) = R := ⟨_, rfl⟩
            obtain ⟨R', hR'⟩ : ∃ R', ord'.foldl (krS (l ++ [e])) (st0 k (l ++ [e]).length) = R' := ⟨_, rfl⟩
            rw [hR] at hlen G hless hsum ⊢
            rw [hR'] at hlen' G' hless hkr ⊢
            dsimp only
            have e4 : ((R'.2.1.length : Int) != (l.length : Int) + 1) = false := by rw [hlen']; simp
            rw [if_neg (by decide), hlen, if_neg (by simp), w64 (by omega) (by omega), if_neg (by rw [e4]; decide), Option.bind_some, if_neg (by decide)]
            obtain ⟨x, m1⟩ := mo_L1 R.2.1 R'.2.1 hlen (by omega) h24 hless 300 0 0 (by omega) (Nat.zero_le _) (Int.le_refl _) (Int.le_refl _)
            rw [show L3_SpanMore_L1 300 l R.2.1 R'.2.1 300 0 0 = _ from m1, Option.bind_some]
            dsimp only
            rw [Nat.sub_zero, ← List.range_eq_range', Int.zero_add]
            -- the sum
            have hle : R'.2.2 ≤ R.2.2 := by
              have hcon : ∀ v, v < k → Cn (l ++ [e]) ((List.range (l ++ [e]).length).filter fun i => R.2.1.getD i false) 0 v := fun v hv => by
                have := (ch_conn hin R.2.1).1 G.conn v hv
                refine (this.congr fun x hx => ⟨(ends_app (tkl_lt hx)).1, (ends_app (tkl_lt hx)).2.1⟩).mono fun x hx => ?_
                have hx1 := tkl_lt hx
                exact List.mem_filter.2 ⟨List.mem_range.2 (by omega), (List.mem_filter.1 hx).2⟩
              have hq := hkr (fun i => R.2.1.getD i false) hcon
              rw [sumL_perm _ (ord_perm p1 p2), hl', List.range_succ, sumL_app] at hq
              have ef : R.2.1.getD l.length false = false := by rw [List.getD_eq_getElem?_getD, List.getElem?_eq_none (by omega)]; rfl
              have e0 : sumL (fun i => if R.2.1.getD i false = true then cs (l ++ [e]) i else 0) [l.length] = 0 := by
                simp only [sumL]; rw [ef]; rfl
              have e1 : sumL (fun i => if R.2.1.getD i false = true then cs (l ++ [e]) i else 0) (List.range l.length) = sumL (fun i => if R.2.1.getD i false = true then cs l i else 0) (List.range l.length) :=
                sumL_congr _ fun i hi => by rw [← (ends_app (List.mem_range.1 hi)).2.2]
              rw [e0, e1, ← hsum] at hq
              omega
            -- the counts
            have k1 : cnt (fun i => R.2.1.getD i false) (List.range l.length) + 1 = k := by
              have := G.len; unfold chM tkl at this; rw [List.length_map] at this; exact this
            have k2 : cnt (fun i => R'.2.1.getD i false) (List.range (l.length + 1)) + 1 = k := by
              have := G'.len; unfold chM tkl at this; rw [List.length_map, hl'] at this; exact this
            have k3 := cnt_split (fun i => R.2.1.getD i false) (fun i => R'.2.1.getD i false) (List.range l.length) fun i hi => hless i (List.mem_range.1 hi)
            have k4 : cnt (fun i => R'.2.1.getD i false) (List.range (l.length + 1)) = cnt (fun i => R'.2.1.getD i false) (List.range l.length) + (if R'.2.1.getD l.length false = true then 1 else 0) := by
              unfold cnt
              rw [List.range_succ, List.filter_append, List.length_append]
              congr 1
              cases e3 : R'.2.1.getD l.length false
              · rw [List.filter_cons_of_neg (by rw [e3]; decide)]; rfl
              · rw [List.filter_cons_of_pos (by rw [e3])]; rfl
            have hiN : ix R'.2.1 (l.length : Int) = some (R'.2.1.getD l.length false) := ix_at false (by omega)
            obtain ⟨d, hd⟩ : ∃ d, cnt (fun i => R.2.1.getD i false && !R'.2.1.getD i false) (List.range l.length) = d := ⟨_, rfl⟩
            rw [hd] at k3 ⊢
            rw [if_pos hle, hiN]
            cases e3 : R'.2.1.getD l.length false
            · rw [e3] at k4
              have hd0 : d = 0 := by rw [if_neg (by decide)] at k4; omega
              subst hd0; rfl
            · rw [e3] at k4
              have hd1 : d = 1 := by rw [if_pos rfl] at k4; omega
              subst hd1; rfl
          · rw [if_neg c']; rfl
        · rw [least_bad h', Option.bind_some]
          dsimp only
          rw [if_pos (by rw [bne_iff_ne]; exact h')]; rfl
    · rw [if_neg c]; rfl
  · rw [least_bad h, Option.bind_some]
    dsimp only
    have hne : ¬ ((errC n l == 0) = true) := by rw [beq_iff_eq]; exact h
    rw [if_pos (by rw [bne_iff_ne]; exact h), Option.bind_some, if_pos rfl, if_neg hne]; rfl
end
theorem spanMore_any (w : World) (n : Int) (hn : (Lit.int .i64 n).wf = true) (A : Option Addr) (cap : Nat) (l : List (Int × Int × Int)) (hr : ReadsC w w.heap.size A l) (hl : l.length ≤ maxLen) (x y z : Int) :
    Calls Try.prog 6 #[.int .i64 n, .slice A l.length cap, .agg #[.int .i64 x, .int .i64 y, .int .i64 z]] w fun e w' => e = .returned (.bool true) ∧ Below w.heap.size w w' :=
  L3_SpanMore_ok (v2 := (x, y, z)) w cap hr (more_ev n l (x, y, z))
end Go.Proofs.Ytccdnokddkpmgaa
