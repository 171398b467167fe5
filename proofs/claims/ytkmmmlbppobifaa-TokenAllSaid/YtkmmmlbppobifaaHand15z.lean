/- binderylaw15.TokenAll answers true: walked by hand over the contracts of told, Many, All, and the document's. -/
import Derived.Test.YtkmmmlbppobifaaHand15g
import Derived.Test.YtkmmmlbppobifaaHand15o
import Derived.Test.YtkmmmlbppobifaaLem15A
namespace Go.Proofs.Ytkmmmlbppobifaa.Hand
open Go.RowKit Go.Proofs.YtkmmmlbppobifaaW.PrintWords Go.Proofs.YtkmmmlbppobifaaW.PrintLast Go.Proofs.YtkmmmlbppobifaaW.PrintMore Go.Proofs.Ytkmmmlbppobifaa.Num Go.Proofs.Ytkmmmlbppobifaa.P01a
set_option linter.unusedVariables false
set_option linter.unusedSimpArgs false
theorem func_nnil (k : Nat) (cap : Array Value) (W : World) : (Go.binOp .neq 33 (.func (.func k) #[] cap) .nilFunc).run Try.prog W = .ok (.bool true) W := by
 have h := func_nil0 9999 k cap W
 have e : Go.Op.equal 33 (.func (.func k) #[] cap) .nilFunc = Go.Op.equalIn (9999 + 1) 33 (.func (.func k) #[] cap) .nilFunc := rfl
 simp only [go_sem, Go.binOp, e]
 simp [go_sem, h]
theorem tokCells_get : ∀ (l : List Tok) (i : Nat) (h : i < l.length) (j : Nat), j < 5 → (tokCells l)[i * 5 + j]? = (l[i]).cells[j]?
 | t :: l, 0, _, j, hj => by
  show (t.cells.toList ++ tokCells l)[0 * 5 + j]? = _
  rw [Nat.zero_mul, Nat.zero_add, List.getElem?_append_left (by simpa [Tok.cells, tokC] using hj), Array.getElem?_toList]
  rfl
 | t :: l, i + 1, h, j, hj => by
  have ih := tokCells_get l i (by simpa using h) j hj
  show (t.cells.toList ++ tokCells l)[(i + 1) * 5 + j]? = _
  rw [show (i + 1) * 5 + j = 5 + (i * 5 + j) by omega, List.getElem?_append_right (by simp [Tok.cells, tokC])]
  rw [show 5 + (i * 5 + j) - t.cells.toList.length = i * 5 + j by simp [Tok.cells, tokC]]
  simpa using ih
theorem tok_at {w : World} {B : Nat} {A : Option Addr} {k c : Nat} {l : List Tok} (h : w.ownsRow B 24 5 (.slice A k c) l.length (tokCells l)) (i : Nat) (hi : i < l.length) :
  ∃ ad : Addr, A = some ad ∧ ∀ W, Below w.heap.size w W → W.cell? (ad.add (i * 5)) = some (.int .i64 (l[i]).kind) ∧ W.cell? ⟨(ad.add (i * 5)).block, (ad.add (i * 5)).off + 1, none⟩ = some (.int .i64 (l[i]).n) ∧ W.cell? ⟨(ad.add (i * 5)).block, (ad.add (i * 5)).off + 2, none⟩ = some (.string (l[i]).s) ∧ W.cell? ⟨(ad.add (i * 5)).block, (ad.add (i * 5)).off + 3, none⟩ = some (.int .i64 (l[i]).at_) ∧ W.cell? ⟨(ad.add (i * 5)).block, (ad.add (i * 5)).off + 4, none⟩ = some (.int .i64 (l[i]).end_) := by
 rcases h.2 with ⟨h0, h1⟩ | ⟨g, cap, cur, h0, _, hg, _⟩
 ·omega
 ·injection h0 with h0 h01 h02
  subst h0
  refine ⟨⟨g, 0, none⟩, rfl, fun W hb => ?_⟩
  have hlt : g < w.heap.size := by
   rcases Nat.lt_or_ge g w.heap.size with h2 | h2
   ·exact h2
   ·rw [Array.getElem?_eq_none h2] at hg; cases hg
  have key : ∀ (j : Nat) (u : Value), j < 5 → (l[i]).cells[j]? = some u → W.cell? ⟨g, 0 + i * 5 + j, none⟩ = some u := fun j u hj hu => by
   have h3 := h.cells (g := g) rfl (i * 5 + j) u ((tokCells_get l i hi j hj).trans hu)
   rw [Addr.add_mid, ← Nat.add_assoc] at h3
   exact (hb.cell (p := ⟨g, 0 + i * 5 + j, none⟩) hlt).trans h3
  rw [Addr.add_mid]
  exact ⟨key 0 _ (by omega) rfl, key 1 _ (by omega) rfl, key 2 _ (by omega) rfl, key 3 _ (by omega) rfl, key 4 _ (by omega) rfl⟩
theorem own_shape {w : World} {B : Nat} {v : Value} {k : Nat} {xs : List Value} (h : w.ownsRow B 24 5 v k xs) : ∃ A c, v = .slice A k c := by
 rcases h.2 with ⟨h0, h1⟩ | ⟨g, cap, cur, h0, _⟩
 ·subst h1; exact ⟨_, _, h0⟩
 ·exact ⟨_, _, h0⟩
theorem ends_len {l a : List (Int × Tok)} {x : Int × Tok} (h : Ends l a x) : (oksL l).length = if x.1 = 0 then a.length + 1 else a.length := by
 have ha : (oksL a).length = a.length := by
  have : ∀ b : List (Int × Tok), (∀ y ∈ b, y.1 = 0) → (oksL b).length = b.length := fun b => by
   induction b with
   | nil => intro _; rfl
   | cons y b ih =>
    intro hb
    have e : oksL (y :: b) = (if y.1 = 0 then [y.2] else []) ++ oksL b := rfl
    rw [e, if_pos (hb y (by simp)), List.length_append, ih (fun z hz => hb z (by simp [hz])), List.length_singleton, List.length_cons]
    omega
  exact this a (fun y hy => (h.ok y hy).1)
 rw [h.eq, oksL_snoc, List.length_append, ha]
 split <;> simp
theorem toks_length (s : ByteArray) : ∀ (f i : Nat), (toksFrom s f i).length ≤ f
 | 0, i => Nat.le_refl _
 | f + 1, i => by
  rw [toksFrom, List.length_cons]
  split
  ·have := toks_length s f (nextF s (i : Int)).2.end_.toNat
   omega
  ·simp
set_option maxRecDepth 100000 in
set_option maxHeartbeats 8000000 in
theorem tokenAll_walk (s : ByteArray) (w : World) (ws : s.size ≤ 140737488351232) :
  Calls Try.prog 4 #[.string s] w fun e w' => e = .returned (.bool true) ∧ Below w.heap.size w w' := by
 have SG := Aside0.mk (fun W => signs_calls W)
 have hfn := func_nil 26
 have hfn2 := func_nnil 26
 by_cases h1 : 500 < s.size
 ·have q1 : decide ((500 : Int) < (s.size : Int)) = true := decide_eq_true (by omega)
  go_enter Try.func4, Try.ntmps4
  go_wp2_with (first | (go_at_call 7; (with_reducible refine (SG.out _).mono ?_); rintro e w1 ⟨rfl, hb1⟩) | (go_at_call 12; (with_reducible refine (All_calls _ _).mono ?_); rintro e w6 ⟨rfl, rfl⟩))
  go_ret
  exact ⟨rfl, below_alloc hb1 _⟩
 ·have q1 : decide ((500 : Int) < (s.size : Int)) = false := decide_eq_false (by omega)
  have KL := Aside0.mk (fun W => ltold_calls s (by omega) W)
  have KR := Aside0.mk (fun W => rall_calls s (by omega) W)
  have KM := Aside0.mk (fun W => Many_calls s (by omega) W)
  obtain ⟨a, x, he⟩ := toksN_ends s
  rw [ends_cnt he] at KM
  rw [ends_last he] at KL KR
  have hle := ends_len he
  have hlm : a.length ≤ 1000000 := by
   have h2 := toks_length s (s.size + 2) 0
   have h3 := congrArg List.length he.eq
   unfold toksN at h3
   rw [List.length_append] at h3
   omega
  generalize oksL (toksN s) = L at *
  obtain ⟨m, hm⟩ : ∃ m, m = a.length := ⟨_, rfl⟩
  rw [← hm] at KM hle hlm
  obtain ⟨c, hc⟩ : ∃ c, c = x.1 := ⟨_, rfl⟩
  rw [← hc] at KM KL KR hle
  clear he hm hc
  obtain ⟨n, hn⟩ : ∃ n, n = L.length := ⟨_, rfl⟩
  rw [← hn] at hle
  have HN := Aside0.mk hn
  have HLE := Aside0.mk hle
  clear hle hn
  go_enter Try.func4, Try.ntmps4
  go_wp2_with (first | (go_at_call 7; (with_reducible refine (SG.out _).mono ?_); rintro e w1 ⟨rfl, hb1⟩) | (go_at_call 12; (with_reducible refine (All_calls _ _).mono ?_); rintro e w6 ⟨rfl, rfl⟩) | (go_at_call 13; (with_reducible refine (KL.out _).mono ?_); rintro e w2 ⟨v1, rfl, hv1, hb2⟩; obtain ⟨A1, c1, rfl⟩ := own_shape hv1; rw [← HN.out] at hv1 ⊢) | (go_at_call 14; (with_reducible refine (KR.out _).mono ?_); rintro e w3 ⟨v2, rfl, hv2, hb3⟩; obtain ⟨A2, c2, rfl⟩ := own_shape hv2; rw [← HN.out] at hv2 ⊢))
  have hln : n ≤ 1000001 := by have := HLE.out; split at this <;> omega
  have B2 := below_alloc hb1 (.cells #[.string s] 9)
  have B3 := Aside0.mk (B2.trans (hb2.mono B2.size))
  have D1 : Aside0 (∀ i, (hi : i < L.length) → ∃ ad : Addr, A1 = some ad ∧ ∀ W, Below w3.heap.size w3 W → _) := ⟨fun i hi => by
   obtain ⟨ad, h1, h2⟩ := tok_at (by rw [← HN.out]; exact hv1) i hi
   exact ⟨ad, h1, fun W hb => h2 W (hb3.trans (hb.mono hb3.size))⟩⟩
  have D2 : Aside0 (∀ i, (hi : i < L.length) → ∃ ad : Addr, A2 = some ad ∧ ∀ W, Below w3.heap.size w3 W → _) := ⟨fun i hi => tok_at (by rw [← HN.out]; exact hv2) i hi⟩
  have B4 := Aside0.mk (B3.out.trans (hb3.mono B3.out.size))
  clear hv1 hv2 hb1 hb2 hb3 B2 B3 KL KR SG
  go_loopw [7] (fun v7 wr => ∃ i : Nat, i ≤ n ∧ v7 = .int .i64 (i : Int) ∧ Aside0 (Below w3.heap.size w3 wr)) (fun v7 _ => n - (intOf v7).toNat)
  case atStart => exact ⟨0, Nat.zero_le _, rfl, ⟨Below.refl _ _⟩⟩
  case round =>
   obtain ⟨i, hi, rfl, HB⟩ := hrel
   by_cases hlt : i < n
   ·have r1 : decide ((i : Int) < (n : Int)) = true := decide_eq_true (by omega)
    obtain ⟨ad1, rfl, e1⟩ := D1.out i (by rw [← HN.out]; exact hlt)
    obtain ⟨ad2, rfl, e2⟩ := D2.out i (by rw [← HN.out]; exact hlt)
    obtain ⟨a0, a1, a2, a3, a4⟩ := e1 _ HB.out
    obtain ⟨b0, b1, b2, b3, b4⟩ := e2 _ HB.out
    clear e1 e2
    generalize L[i]'_ = t at a0 a1 a2 a3 a4 b0 b1 b2 b3 b4
    go_wp2_with fail
    go_region
    go_wp2_with fail
    go_roundw
    case rel => exact ⟨i + 1, by omega, by go_num, ⟨below_drew HB.out⟩⟩
    case measure => simp [intOf]; omega
   ·have r1 : decide ((i : Int) < (n : Int)) = false := decide_eq_false (by omega)
    obtain rfl : i = n := by omega
    have hle := HLE.out
    clear hlt hi
    by_cases h0 : c = 0
    ·rw [if_pos h0] at hle
     subst h0
     have w1 : (i : Int) - 1 = (m : Int) := by omega
     clear hle
     go_wp2_with (first | (go_at_call 15; (with_reducible refine (KM.out _).mono ?_); rintro e w5 ⟨rfl, hb5⟩))
     go_ret
     exact ⟨rfl, (B4.out.trans (HB.out.mono B4.out.size)).trans (hb5.mono (B4.out.trans (HB.out.mono B4.out.size)).size)⟩
    ·rw [if_neg h0] at hle
     have t0 : (c == 0) = false := beq_false_of_ne h0
     subst hle
     go_wp2_with (first | (go_at_call 15; (with_reducible refine (KM.out _).mono ?_); rintro e w5 ⟨rfl, hb5⟩))
     go_ret
     exact ⟨rfl, (B4.out.trans (HB.out.mono B4.out.size)).trans (hb5.mono (B4.out.trans (HB.out.mono B4.out.size)).size)⟩
end Go.Proofs.Ytkmmmlbppobifaa.Hand
