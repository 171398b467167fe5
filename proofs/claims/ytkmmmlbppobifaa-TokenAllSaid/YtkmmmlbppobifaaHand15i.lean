/- The iterator token.All: its contract. -/
import Derived.RangeFuncNested
import Derived.RangeFuncBound
import Derived.RangeFuncCalls
import Derived.RangeFuncLeaves
import Derived.RangeFuncWrites
import Derived.RangeFuncBox
import Derived.Shelf.Abstract
import Derived.Shelf.RegionOpen
import Derived.WalkKit
import Derived.OwnWalkIn
import Derived.TacticsInMore
import Derived.LoopNIn
import Derived.LoopIn
import Derived.Test.YtkmmmlbppobifaaLem15a
namespace Go.Proofs.Ytkmmmlbppobifaa.Hand
open Go.RowKit Go.Shelf Go.Proofs.YtkmmmlbppobifaaW.PrintWords Go.Proofs.YtkmmmlbppobifaaW.PrintLast Go.Proofs.YtkmmmlbppobifaaW.PrintMore Go.Proofs.Ytkmmmlbppobifaa.Num Go.Proofs.Ytkmmmlbppobifaa.P01a
set_option linter.unusedVariables false
set_option linter.unusedSimpArgs false
attribute [local go_sem] Oper.semAt_some
def toksFrom (s : ByteArray) : Nat → Nat → List (Int × Tok)
 | 0, _ => []
 | f + 1, i => nextF s (i : Int) :: (if (nextF s (i : Int)).1 = 0 ∧ (nextF s (i : Int)).2.kind ≠ 0 then toksFrom s f (nextF s (i : Int)).2.end_.toNat else [])
def toksN (s : ByteArray) : List (Int × Tok) := toksFrom s (s.size + 2) 0
def KeepS (Bn : Nat) (s : ByteArray) (A B : World) : Prop := A.cell? ⟨Bn, 0, none⟩ = some (.string s) → B.cell? ⟨Bn, 0, none⟩ = some (.string s)
theorem keepS_t {Bn : Nat} {s : ByteArray} {A B C : World} (h : KeepS Bn s A B) (k : KeepS Bn s B C) : KeepS Bn s A C := fun e => k (h e)
theorem keepS_b {Bn : Nat} {s : ByteArray} {w : World} (W : World) (l : Nat) (o o' : Obj) (_ : w.heap.size ≤ l) (h : W.heap[l]? = some o) (ho : o.isCells = false) (_ : o.isWalk = false) : KeepS Bn s W (W.putObj l o') := fun e =>
 cell_kept e (grownBy_putObj' W l o') (fun r er => by cases er; exact ⟨o, h, ho⟩)
theorem cell_lt {W : World} {b : Nat} {v : Value} (h : W.cell? ⟨b, 0, none⟩ = some v) : b < W.heap.size := by
 rcases Nat.lt_or_ge b W.heap.size with h2 | h2
 ·exact h2
 ·exfalso
  simp [World.cell?, Array.getElem?_eq_none h2] at h
def KeepT (Bn : Nat) (s : ByteArray) (A B : World) : Prop := KeepS Bn s A B ∧ ∀ (k : Nat) (cs : Array Value), cs.size = 5 → A.heap[k]? = some (.cells cs 24 (0, 0)) → B.heap[k]? = some (.cells cs 24 (0, 0))
theorem keepT_t {Bn : Nat} {s : ByteArray} {A B C : World} (h : KeepT Bn s A B) (k : KeepT Bn s B C) : KeepT Bn s A C := ⟨keepS_t h.1 k.1, fun j cs hc e => k.2 j cs hc (h.2 j cs hc e)⟩
theorem keepT_b {Bn : Nat} {s : ByteArray} {w : World} (W : World) (l : Nat) (o o' : Obj) (hl : w.heap.size ≤ l) (h : W.heap[l]? = some o) (ho : o.isCells = false) (ho2 : o.isWalk = false) : KeepT Bn s W (W.putObj l o') :=
 ⟨keepS_b (w := w) W l o o' hl h ho ho2, fun k cs _ e => by
  by_cases hk : k = l
  ·subst hk
   rw [h] at e
   injection e with e
   subst e
   exact absurd ho (by simp [Obj.isCells])
  ·rw [← e]
   exact (grownBy_putObj' W l o').block k (by
    rcases Nat.lt_or_ge k W.heap.size with h2 | h2
    ·exact h2
    ·rw [Array.getElem?_eq_none h2] at e; cases e) (fun h3 => hk (by injection h3))⟩
abbrev yArgs (x : Int × Tok) : Array Value := #[.agg x.2.cells, .int .i64 x.1]
theorem below_grown {W W' : World} (h : Below W.heap.size W W') : W.grownBy W' none := ⟨h.os, h.tape, h.output, h.size, fun k hk _ => h.block k hk⟩
set_option maxRecDepth 100000 in
set_option maxHeartbeats 2000000 in
theorem all1_in (n : Nat) (hn : 1 ≤ n) (l Bn : Nat) (s : ByteArray) (hs : s.size ≤ 60000) (J Jx : List (Int × Tok) → World → Prop) (hJd : ∀ pre W W', Below W.heap.size W W' → J pre W → J pre W')
  (hY : ∀ pre x W, J pre W → pre.length < s.size + 2 → YieldAt Fence.wide (n - 1) Try.prog l (yArgs x) W fun e W' =>
   (e = .returned (.bool true) ∧ J (pre ++ [x]) W' ∧ KeepT Bn s W W') ∨ (e = .returned (.bool false) ∧ Jx (pre ++ [x]) W'))
  (W : World) (hBn : W.cell? ⟨Bn, 0, none⟩ = some (.string s)) (h0 : J [] W) :
  CallsIn Fence.wide n Try.prog 26 #[.func (.yield l) #[] #[], .pointer (some ⟨Bn, 0, none⟩)] W fun e W' => (∃ v, e = .returned v) ∧
   ((∃ ys, ys = toksN s ∧ J ys W') ∨ (∃ pre, pre <+: toksN s ∧ Jx pre W')) := by
 refine callsIn_of_wp Try.func26 rfl trivial ?_ rfl
 simp only [Try.ntmps26, List.size_toArray, List.length_cons, List.length_nil, Nat.reduceAdd, Nat.reduceSub, Array.replicate_succ, Array.replicate_zero, List.push_toArray, List.append_toArray, List.nil_append, List.cons_append]
 gi_wp2
 gi_loopw [3] (fun v3 wr => ∃ (pre : List (Int × Tok)) (i f : Nat), i ≤ s.size ∧ v3 = .int .i64 (i : Int) ∧ Aside0 (toksN s = pre ++ toksFrom s f i) ∧ Aside0 (s.size + 2 ≤ f + i) ∧ Aside0 (pre.length ≤ i) ∧ J pre wr ∧ wr.cell? ⟨Bn, 0, none⟩ = some (.string s)) (fun v3 _ => s.size - (intOf v3).toNat)
 case atStart => exact ⟨[], 0, s.size + 2, Nat.zero_le _, rfl, ⟨rfl⟩, ⟨by omega⟩, ⟨Nat.le_refl _⟩, h0, hBn⟩
 case round =>
  clear hBn h0
  obtain ⟨pre, i, f, hi, rfl, HL, HF, HP, hJ, hBn⟩ := hrel
  obtain ⟨f, rfl⟩ : ∃ m, f = m + 1 := ⟨f - 1, by have := HF.out; omega⟩
  have KN := Aside0.mk (fun W => Next_calls W s (i : Int) hs)
  have hl := HL.out
  have hok := nextF_ok s (i : Int)
  have hge := skipN_ge s (i : Int)
  rw [clampN_nat s i hi] at hge
  rw [toksFrom] at hl
  generalize skipN s (i : Int) = q at hok hge
  generalize nextF s (i : Int) = x at hl KN hok
  obtain ⟨c, tk⟩ := x
  dsimp only at hok
  have HY := Aside0.mk (hY pre (c, tk))
  have HL2 := Aside0.mk hl
  have HOK := Aside0.mk hok
  clear hl HL hok
  gi_wp2_with (first | (refine ⟨trivial, ?_⟩; gi_at_call 8; refine callsIn_wide.2 ((KN.out _).mono ?_); rintro e9 w1 ⟨rfl, hb1⟩; have hJ1 := hJd _ _ _ hb1 hJ; have hB1 : w1.cell? ⟨Bn, 0, none⟩ = some (.string s) := (World.cell?_of_block (hb1.block Bn (cell_lt hBn))).trans hBn; have hB2 : (w1.alloc (.cells tk.cells 24)).cell? ⟨Bn, 0, none⟩ = some (.string s) := (World.cell?_of_block ((below_alloc (Below.refl w1.heap.size w1) (.cells tk.cells 24)).block Bn (cell_lt hB1))).trans hB1; have t2 := heap_alloc_new w1 (.cells tk.cells 24); obtain ⟨fn, tmps, assign, body, hy, hR⟩ := HY.out _ (hJd _ _ _ (below_alloc (Below.refl w1.heap.size w1) (.cells tk.cells 24)) hJ1) (by have := HP.out; omega); clear hBn hB1 hJ hJ1 hb1))
  refine hR.mono ?_
  clear hR hy HY KN
  rintro e W3 (⟨rfl, hJ3, hk3⟩ | ⟨rfl, hJx3⟩)
  ·have hB3 := hk3.1 hB2
   have t3 := hk3.2 w1.heap.size tk.cells rfl t2
   have x0 : W3.cell? ⟨w1.heap.size, 0, none⟩ = some (.int .i64 tk.kind) := blk_cell t3 0
   clear hk3 hB2 t2
   by_cases h0 : c = 0
   ·subst h0
    obtain ⟨o1, o2, o3, o4⟩ := HOK.out rfl
    by_cases hkd : tk.kind = 0
    ·have hl : toksN s = pre ++ [((0 : Int), tk)] := by rw [HL2.out, if_neg (fun h => h.2 hkd)]
     rw [hkd] at x0
     clear HOK HL2 o1 o2 o3 o4
     gi_wp2
     refine bodyPost_ret (results_none (by rfl) _ _ _) rfl ?_
     exact ⟨⟨_, rfl⟩, .inl ⟨_, hl.symm, hJ3⟩⟩
    ·have tk0 : (tk.kind == 0) = false := beq_false_of_ne hkd
     obtain ⟨z, hz, hz1, hz2⟩ := o3 hkd
     have hl := HL2.out
     rw [if_pos ⟨rfl, hkd⟩, hz, Int.toNat_natCast] at hl
     have x4 : W3.cell? ⟨w1.heap.size, 4, none⟩ = some (.int .i64 (z : Int)) := by rw [← hz]; exact blk_cell t3 4
     have HL3 := Aside0.mk hl
     have HZ := Aside0.mk (And.intro hz1 hz2)
     clear HOK HL2 o1 o2 o3 o4 hl hz hz1 hz2
     gi_wp2
     have hz1 := HZ.out
     exact ⟨⟨pre ++ [((0 : Int), tk)], z, f, hz1.2, rfl, ⟨by rw [HL3.out, List.append_assoc]; rfl⟩, ⟨by have := HF.out; omega⟩, ⟨by rw [List.length_append, List.length_singleton]; have := HP.out; omega⟩, hJ3, hB3⟩, by simp [intOf]; omega⟩
   ·have t0 : (c != 0) = true := bne_iff_ne.2 h0
    have hl : toksN s = pre ++ [(c, tk)] := by rw [HL2.out, if_neg (fun h => h0 h.1)]
    clear HOK HL2
    gi_wp2
    refine bodyPost_ret (results_none (by rfl) _ _ _) rfl ?_
    exact ⟨⟨_, rfl⟩, .inl ⟨_, hl.symm, hJ3⟩⟩
  ·gi_wp2
   refine bodyPost_ret (results_none (by rfl) _ _ _) rfl ?_
   have hl := HL2.out
   exact ⟨⟨_, rfl⟩, .inr ⟨pre ++ [(c, tk)], ⟨_, by rw [hl, List.append_assoc]; rfl⟩, hJx3⟩⟩
theorem all_stops (n : Nat) (hn : 1 ≤ n) (Bn : Nat) (s : ByteArray) (hs : s.size ≤ 60000) (w : World) (hBn : Bn < w.heap.size) (hc : w.cell? ⟨Bn, 0, none⟩ = some (.string s)) :
  SeqStopsK Fence.wide n Try.prog 26 #[.pointer (some ⟨Bn, 0, none⟩)] (fun x : Int × Tok => yArgs x) (KeepT Bn s) (fun ys => ys = toksN s) (fun pre => pre <+: toksN s) (s.size + 2) w := fun l J Jx W hW hJ _ hY h0 =>
 all1_in n hn l Bn s hs J Jx (fun pre W W' hb h => hJ pre W _ none h (below_grown hb) (fun r e => by cases e)) hY W ((hW.cell (p := ⟨Bn, 0, none⟩) hBn).trans hc) h0
theorem All_calls (s : ByteArray) (w : World) :
  Calls Try.prog 12 #[.string s] w fun e w' => e = .returned (.func (.func 26) #[] #[.pointer (some ⟨w.heap.size, 0, none⟩)]) ∧ w' = w.alloc (.cells #[.string s] 9) := by
 go_enter Try.func12, Try.ntmps12
 go_wp2
 go_ret
 exact ⟨rfl, rfl⟩
end Go.Proofs.Ytkmmmlbppobifaa.Hand
