-- Written for this claim by a program of this session, over the kit's print.
import Derived.Test.YtcphjcggnblnkaaP09Cx0
namespace Go.Proofs.Ytcphjcggnblnkaa.P09C
open Go.RowKit Go.Proofs.YtcphjcggnblnkaaW.PrintWords Go.Proofs.YtcphjcggnblnkaaW.PrintLast Go.Proofs.YtcphjcggnblnkaaW.PrintMore
attribute [local go_sem] max2_int min2_int max_two min_two max_three min_three max_four min_four   -- for this text's walks alone
set_option linter.unusedVariables false
set_option linter.unusedSimpArgs false

def binderylaw09_CodesReads.Pure : Prop := True
theorem binderylaw09_CodesReads.walk (_P : binderylaw09_CodesReads.Pure) (a0 : Option Addr) (len0 cap0 : Nat) (z0 : List Int) (a1 : ByteArray) (w : World) (w0 : (a0 = none ∧ len0 = 0 ∧ cap0 = 0 ∧ z0 = []) ∨ ∃ x, a0 = some x ∧ len0 ≤ cap0 ∧ cap0 ≤ maxLen ∧ z0.length = cap0 ∧ (∀ i, i < z0.length → w.cell? (x.add i) = some (.int .i64 (z0.getD i 0))) ∧ ∀ n ∈ z0, (Lit.int .i64 n).wf = true) (y0 : len0 * 8 ≤ 140737488351232) (w1 : a1.size ≤ 140737488351232) :
    Calls Try.prog 8 #[.slice a0 len0 cap0, .string a1] w fun e w' => e = .returned (.bool true) ∧ Below w.heap.size w w' :=
  Go.Proofs.Ytcphjcggnblnkaa.Hand.codesReads_walk a0 len0 cap0 z0 a1 w w0 y0 w1

-- GIVEN by hand: function 8 (binderylaw09_CodesReads)

end Go.Proofs.Ytcphjcggnblnkaa.P09C
