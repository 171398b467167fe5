/- Codes: a tree of lengths; what it reads. -/
import Derived.Test.YtfoicjlkbkjfjaaHand09n
import Derived.Test.YtfoicjlkbkjfjaaCodesR
import Derived.Handy
namespace Go.Proofs.Ytfoicjlkbkjfjaa.Hand
open Go.RowKit Go.Proofs.YtfoicjlkbkjfjaaW.PrintWords Go.Proofs.YtfoicjlkbkjfjaaW.PrintLast Go.Proofs.YtfoicjlkbkjfjaaW.PrintMore Go.Proofs.Ytfoicjlkbkjfjaa.Num Go.Proofs.Ytfoicjlkbkjfjaa.Bits
set_option linter.unusedVariables false
set_option linter.unusedSimpArgs false
theorem TreeAt.below {w w1 : World} {B tb : Nat} {ls cs many syms : List Int} {lg : Int} (hT : TreeAt w B tb ls cs many syms lg) (hb : Below w.heap.size w w1) : TreeAt w1 B tb ls cs many syms lg := by
  obtain ⟨⟨vl, vc, vs, h, h1, h2, h3⟩, hm⟩ := hT
  exact ⟨⟨vl, vc, vs, blk_below h hb, h1.below hb, h2.below hb, h3.below hb⟩, hm⟩
theorem TreeAt.drawn {w w1 : World} {B tb : Nat} {ls cs many syms : List Int} {lg : Int} (hT : TreeAt w B tb ls cs many syms lg) (hd : Drawn0 w w1) : TreeAt w1 B tb ls cs many syms lg := by
  obtain ⟨n, rfl⟩ := hd.out; exact ⟨hT.open_, hT.ml⟩
theorem TreeAt.lower {w : World} {B B' tb : Nat} {ls cs many syms : List Int} {lg : Int} (hT : TreeAt w B tb ls cs many syms lg) (hb : B' ≤ B) : TreeAt w B' tb ls cs many syms lg := by
  obtain ⟨⟨vl, vc, vs, h, h1, h2, h3⟩, hm⟩ := hT
  exact ⟨⟨vl, vc, vs, h, h1.lower hb, h2.lower hb, h3.lower hb⟩, hm⟩
/-- A tree of these lengths, in memory. -/
def Tr (w : World) (B tb : Nat) (l : List Int) : Prop := TreeAt w B tb l (codesF l) (cntL l) (symA l 16) (lgA l 16)
theorem tread_calls (w : World) (B tb g : Nat) (l : List Int) (s : ByteArray) (p : Nat) (hm : mayF l = 0) (hT : Tr w B tb l) (hR : RdAt w g s p) (hs : s.size ≤ 1000000) :
    Calls Try.prog 90 #[.pointer (some ⟨tb, 0, none⟩), .pointer (some ⟨g, 0, none⟩)] w fun e w' =>
      e = .returned (.tuple #[.int .i64 (rdS s l p).1, .int .i64 (rdS s l p).2.1]) ∧ RdAt w' g s (rdS s l p).2.2 ∧ Fr w w' (· = g) := by
  obtain ⟨lg, hlg, h15⟩ := lgA_nat l
  have hl := (may_zero hm).1
  have hsy := symA_small l
  unfold Tr at hT
  rw [hlg] at hT
  unfold rdS
  rw [hlg, Int.toNat_natCast]
  exact read_calls w B tb g l (codesF l) (cntL l) (symA l 16) lg s p hT hR hs h15 (cntL_range l) (fun n hn => sumM_le (may_cnt hm) n (by omega)) (by omega)
end Go.Proofs.Ytfoicjlkbkjfjaa.Hand
