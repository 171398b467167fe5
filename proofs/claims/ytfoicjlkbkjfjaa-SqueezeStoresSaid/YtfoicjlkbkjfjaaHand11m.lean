/- A map from numbers to numbers from 0 on, of the call's own: what it answers. -/
import Derived.Test.YtfoicjlkbkjfjaaHandBase
import Derived.Maps.OwnOps
import Derived.Maps.Views
import Derived.Handy
namespace Go.Proofs.Ytfoicjlkbkjfjaa.Hand
open Go.RowKit Go.Proofs.YtfoicjlkbkjfjaaW.PrintWords Go.Proofs.YtfoicjlkbkjfjaaW.PrintLast Go.Proofs.YtfoicjlkbkjfjaaW.PrintMore
open Go.Maps (Keyed)
set_option linter.unusedVariables false
set_option linter.unusedSimpArgs false
/-- Block mb is a map of at most n numbers: where F is below 0 there is nothing. -/
structure MapAt (w : World) (B mb n : Nat) (F : Int → Int) : Prop where
  low : B ≤ mb
  open_ : ∃ D : DataW Unit, w.ownsMap Try.prog 3 (plainElem Try.prog 3) mb n D ∧ ∀ k, (Lit.int .i64 k).wf = true → ∀ z, D.atKey (.int .i64 k) z = if F k < 0 then z else .lit (.int .i64 (F k))
theorem MapAt.lt {w : World} {B mb n : Nat} {F : Int → Int} (h : MapAt w B mb n F) : mb < w.heap.size := by obtain ⟨D, h1, _⟩ := h.open_; exact h1.lt
theorem MapAt.blk {w : World} {B mb n : Nat} {F : Int → Int} (h : MapAt w B mb n F) : ∃ es c, w.heap[mb]? = some (.map es c) := by
  obtain ⟨D, ⟨es, c, hb, _⟩, _⟩ := h.open_; exact ⟨es, c, hb⟩
theorem MapAt.ne {w : World} {B mb n : Nat} {F : Int → Int} (h : MapAt w B mb n F) {g : Nat} {cs : Array Value} {t : TypeId} {fr : Nat × Nat} (hb : w.heap[g]? = some (.cells cs t fr)) : mb ≠ g := by
  obtain ⟨es, c, hm⟩ := h.blk
  rintro rfl
  rw [hm] at hb; cases hb
theorem MapAt.same {w w' : World} {B mb n : Nat} {F : Int → Int} (h : MapAt w B mb n F) (hb : w'.heap[mb]? = w.heap[mb]?) : MapAt w' B mb n F := by
  obtain ⟨D, ⟨es, c, h1, h2⟩, h3⟩ := h.open_
  exact ⟨h.low, D, ⟨es, c, hb.trans h1, h2⟩, h3⟩
theorem MapAt.fr {w w' : World} {B mb n : Nat} {F : Int → Int} {S : Nat → Prop} (h : MapAt w B mb n F) (hf : Fr w w' S) (hn : ¬ S mb) : MapAt w' B mb n F := h.same (hf.block mb h.lt hn)
theorem MapAt.mono {w : World} {B mb n n' : Nat} {F : Int → Int} (h : MapAt w B mb n F) (hn : n ≤ n') : MapAt w B mb n' F := by
  obtain ⟨D, h1, h2⟩ := h.open_; exact ⟨h.low, D, h1.mono hn, h2⟩
theorem MapAt.drawn {w w' : World} {B mb n : Nat} {F : Int → Int} (h : MapAt w B mb n F) (hd : Drawn0 w w') : MapAt w' B mb n F := by
  obtain ⟨⟨k, rfl⟩⟩ := hd; exact ⟨h.low, h.open_⟩
theorem MapAt.made (w : World) (B : Nat) (hB : B ≤ w.heap.size) : MapAt (w.alloc (.map #[] 0)) B w.heap.size 0 (fun _ => -1) :=
  ⟨hB, .map [], World.ownsMap_made w _ _ _, fun k _ z => by rw [if_pos (by decide)]; rfl⟩
theorem ownsMap_isMap {w : World} {mb n : Nat} {D : DataW Unit} {P : Program} {k : TypeId} {R : Value → Option (DataW Unit × List MemPlace)} (h : w.ownsMap P k R mb n D) : Go.Maps.IsMap D := by
  obtain ⟨es, c, _, _, _, rfl⟩ := h
  exact ⟨_, rfl⟩
theorem zeroI (w : World) : (zeroValue 3).run Try.prog w = .ok (.int .i64 0) w := by kernel_rfl
set_option maxRecDepth 100000 in
/-- 'j, ok := m[k]'. -/
theorem MapAt.look {w : World} {B mb n : Nat} {F : Int → Int} (h : MapAt w B mb n F) (k : Int) (hk : (Lit.int .i64 k).wf = true) :
    (Instr.lookup 48 (.map (some mb)) (.int .i64 k) true).run Try.prog w = .ok (.tuple #[.int .i64 (if F k < 0 then 0 else F k), .bool (decide (0 ≤ F k))]) w := by
  obtain ⟨D, ⟨es, c, hb, hF, _, rfl⟩, hD⟩ := h.open_
  have hz := zeroI w
  rcases Go.Maps.fit_look true (Go.Maps.int_keyed Try.underlying3) Try.underlying48 hz hb hF (Go.Maps.keyOf_int_mk Try.underlying3 hk) with ⟨hr, _, hat⟩ | ⟨e0, y, _, _, hr, hR, hat, _⟩
  · have hneg : F k < 0 := by
      rcases Int.lt_or_le (F k) 0 with hlt | hge
      · exact hlt
      · have h1 := hD k hk (.lit (.bool true))
        rw [hat, if_neg (by omega)] at h1
        cases h1
    rw [hr, if_pos hneg, decide_eq_false (show ¬ 0 ≤ F k by omega)]
    simp
  · obtain ⟨a, ha, rfl, _⟩ := plainElem_int_inv Try.underlying3 hR
    have hge : ¬ F k < 0 := by
      intro hlt
      have h1 := hD k hk (.lit (.bool true))
      rw [hat, if_pos hlt] at h1
      cases h1
    have h1 := hD k hk (.lit (.bool true))
    rw [hat, if_neg hge] at h1
    injection h1 with h1
    injection h1 with _ h1
    rw [hr, ha, if_neg hge, decide_eq_true (show 0 ≤ F k by omega), h1]
    simp
/-- 'm[k] = v'. -/
theorem MapAt.put {w : World} {B mb n : Nat} {F : Int → Int} (h : MapAt w B mb n F) (hn : n < maxLen) (k v : Int) (hk : (Lit.int .i64 k).wf = true) (hv : (Lit.int .i64 v).wf = true) (hv0 : 0 ≤ v) :
    ∃ w', (Instr.mapUpdate 48 (.map (some mb)) (.int .i64 k) (.int .i64 v)).run Try.prog w = .ok () w' ∧ MapAt w' B mb (n + 1) (fun x => if x = k then v else F x) ∧ w.grownBy w' (some mb) := by
  obtain ⟨D, h1, hD⟩ := h.open_
  obtain ⟨w', hr, h2, h3⟩ := h1.update (Go.Maps.int_keyed Try.underlying3) Try.underlying48 hn (Go.Maps.keyOf_int_mk Try.underlying3 hk) (plainElem_int Try.underlying3 hv)
  refine ⟨w', hr, ⟨h.low, _, h2, fun x hx z => ?_⟩, h3⟩
  by_cases hxk : x = k
  · subst hxk
    rw [Go.Maps.atKey_put_same (ownsMap_isMap h1) (show WideAt.IsKeyLit (.int .i64 x) from trivial)]
    simp only [if_true]
    rw [if_neg (by omega)]
  · rw [Go.Maps.atKey_put_other (by intro he; injection he with _ he; exact hxk he), hD x hx]
    simp only [if_neg hxk]
end Go.Proofs.Ytfoicjlkbkjfjaa.Hand
