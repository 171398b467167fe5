-- Written for this claim by a program of this session, over the kit's print.
import Derived.Test.YtcphjcggnblnkaaP09Ex0
namespace Go.Proofs.Ytcphjcggnblnkaa.P09E
open Go.RowKit Go.Proofs.YtcphjcggnblnkaaW.PrintWords Go.Proofs.YtcphjcggnblnkaaW.PrintLast Go.Proofs.YtcphjcggnblnkaaW.PrintMore
attribute [local go_sem] max2_int min2_int max_two min_two max_three min_three max_four min_four   -- for this text's walks alone
set_option linter.unusedVariables false
set_option linter.unusedSimpArgs false

def binderylaw09_CodesBack.Pure : Prop := True
theorem binderylaw09_CodesBack.walk (_P : binderylaw09_CodesBack.Pure) (a0 : Option Addr) (len0 cap0 : Nat) (z0 : List Int) (a1 : Option Addr) (len1 cap1 : Nat) (z1 : List Int) (w : World) (w0 : (a0 = none ∧ len0 = 0 ∧ cap0 = 0 ∧ z0 = []) ∨ ∃ x, a0 = some x ∧ len0 ≤ cap0 ∧ cap0 ≤ maxLen ∧ z0.length = cap0 ∧ (∀ i, i < z0.length → w.cell? (x.add i) = some (.int .i64 (z0.getD i 0))) ∧ ∀ n ∈ z0, (Lit.int .i64 n).wf = true) (y0 : len0 * 8 ≤ 140737488351232) (w1 : (a1 = none ∧ len1 = 0 ∧ cap1 = 0 ∧ z1 = []) ∨ ∃ x, a1 = some x ∧ len1 ≤ cap1 ∧ cap1 ≤ maxLen ∧ z1.length = cap1 ∧ (∀ i, i < z1.length → w.cell? (x.add i) = some (.int .i64 (z1.getD i 0))) ∧ ∀ n ∈ z1, (Lit.int .i64 n).wf = true) (y1 : len1 * 8 ≤ 140737488351232) :
    Calls Try.prog 10 #[.slice a0 len0 cap0, .slice a1 len1 cap1] w fun e w' => e = .returned (.bool true) ∧ Below w.heap.size w w' :=
  Go.Proofs.Ytcphjcggnblnkaa.Hand.codesBack_walk a0 len0 cap0 z0 a1 len1 cap1 z1 w w0 y0 w1 y1

-- GIVEN by hand: function 10 (binderylaw09_CodesBack)

end Go.Proofs.Ytcphjcggnblnkaa.P09E
