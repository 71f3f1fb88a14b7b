import Derived.Test.YtfokhmkimckdnaaCL
set_option linter.all false
set_option maxRecDepth 100000
namespace Go.Proofs.Ytfokhmkimckdnaa
open Go.RowKit Pl
theorem commonUps_any (w : World) (n : Int) (hn : (Lit.int .i64 n).wf = true) (A : Option Addr) (cap : Nat) (l : List (Int × Int)) (hr : ReadsL w w.heap.size A l) (hl : l.length ≤ maxLen) (a : Int) (_ : (Lit.int .i64 a).wf = true) :
    Calls Try.prog 5 #[.int .i64 n, .slice A l.length cap, .int .i64 a] w fun e w' => e = .returned (.bool true) ∧ Below w.heap.size w w' :=
  L3_CommonUps_ok w cap hr (ups_law ⟨hn, hl⟩)
theorem commonThree_any (w : World) (n : Int) (hn : (Lit.int .i64 n).wf = true) (A : Option Addr) (cap : Nat) (l : List (Int × Int)) (hr : ReadsL w w.heap.size A l) (hl : l.length ≤ maxLen) (a : Int) (_ : (Lit.int .i64 a).wf = true) (b : Int) (_ : (Lit.int .i64 b).wf = true) (c : Int) (_ : (Lit.int .i64 c).wf = true) :
    Calls Try.prog 4 #[.int .i64 n, .slice A l.length cap, .int .i64 a, .int .i64 b, .int .i64 c] w fun e w' => e = .returned (.bool true) ∧ Below w.heap.size w w' :=
  L3_CommonThree_ok w cap hr (three_law ⟨hn, hl⟩)
end Go.Proofs.Ytfokhmkimckdnaa
