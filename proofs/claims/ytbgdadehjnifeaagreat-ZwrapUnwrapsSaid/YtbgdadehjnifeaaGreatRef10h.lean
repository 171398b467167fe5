/- The document's inflate: far, own; walked by hand. -/
import Derived.Test.YtbgdadehjnifeaaGreatRef10d
import Derived.Test.YtbgdadehjnifeaaGreatRef10e
import Derived.Test.YtbgdadehjnifeaaGreatRef10g
namespace Go.Proofs.YtbgdadehjnifeaaGreat.Hand
open Go.RowKit Go.Proofs.YtbgdadehjnifeaaGreatW.PrintWords Go.Proofs.YtbgdadehjnifeaaGreatW.PrintLast Go.Proofs.YtbgdadehjnifeaaGreatW.PrintMore Go.Proofs.YtbgdadehjnifeaaGreat.Num Go.Proofs.YtbgdadehjnifeaaGreat.Bits Go.Proofs.YtbgdadehjnifeaaGreat.P08 Go.Proofs.YtbgdadehjnifeaaGreat.P09r Go.Proofs.YtbgdadehjnifeaaGreat.P10n
set_option linter.unusedVariables false
set_option linter.unusedSimpArgs false
def farB (l : List Int) : Bool := decide (chkF l = 0) || decide (chkF l = 12) || (decide (chkF l = 5) && decide (sumL l = 1))
theorem far_l0 (l : List Int) (e : Int) (hl : l.length ≤ 1000) (hx : ∀ x ∈ l, 0 ≤ x ∧ x ≤ 320) : ∀ (t : List Int) (i : Nat) (S : Int), l.drop i = t → i ≤ l.length → 0 ≤ S → S ≤ 320 * i → Ev (fun k => binderyref10_far.l0 k l e S i) (if e = 5 then decide (S + sumL t = 1) else false)
 | [], i, S, hd, hi, h0, h1 => by
  have h2 : l.length ≤ i := by have := congrArg List.length hd; rw [List.length_drop] at this; simp at this; omega
  refine ev_now (fun k => ?_)
  simp only [binderyref10_far.l0]
  rw [if_neg (by omega)]
  by_cases h5 : e = 5
  ·rw [if_pos h5, if_pos h5, sumL, Int.add_zero]; rfl
  ·rw [if_neg h5, if_neg h5]
 | n :: t, i, S, hd, hi, h0, h1 => by
  obtain ⟨h2, h3, h4⟩ := nat_ne9 hd
  have hn := hx n (by rw [← h3, List.getD_eq_getElem?_getD, List.getElem?_eq_getElem h2]; exact List.getElem_mem _)
  have ih := far_l0 l e hl hx t (i + 1) (S + n) h4 (by omega) (by omega) (by omega)
  rw [sumL, show S + (n + sumL t) = S + n + sumL t by omega]
  refine ev_step ih (fun k => ?_)
  simp only [binderyref10_far.l0]
  rw [if_pos (by omega), if_pos (by omega), rd_nat, h3, w64 (by omega) (by omega), w64 (by omega) (by omega)]
  rfl
theorem far_ev (l : List Int) (hl : l.length ≤ 1000) (hx : ∀ x ∈ l, 0 ≤ x ∧ x ≤ 320) : Ev (fun k => binderyref10_far.f k l) (farB l) := by
 unfold binderyref10_far.f
 refine Ev.bind (check_ev l) ?_
 have j0 : ∀ b, Ev (fun k => binderyref10_far.j0 k l (chkF l) b) (b || (decide (chkF l = 5) && decide (sumL l = 1))) := fun b => by
  cases b with
  | true => exact ev_now (fun k => by simp only [binderyref10_far.j0]; rw [if_pos trivial]; rfl)
  | false =>
   have h := far_l0 l (chkF l) hl hx l 0 0 rfl (by omega) (by omega) (by omega)
   refine ev_step (r := _) ?_ (fun k => by simp only [binderyref10_far.j0]; rw [if_neg (by decide)])
   have e : (if chkF l = 5 then decide (0 + sumL l = 1) else false) = (false || (decide (chkF l = 5) && decide (sumL l = 1))) := by
    by_cases h5 : chkF l = 5
    ·rw [if_pos h5, decide_eq_true h5, Int.zero_add]; rfl
    ·rw [if_neg h5, decide_eq_false h5]; rfl
   rw [← e]
   exact h
 unfold farB
 by_cases h0 : chkF l = 0
 ·refine Ev.congr (fun k => if_pos h0) ?_
  have := j0 true
  rw [decide_eq_true h0]
  exact this
 ·refine Ev.congr (fun k => if_neg h0) ?_
  have := j0 (chkF l == 12)
  rw [decide_eq_false h0, Bool.false_or]
  exact this
theorem rfar_calls (A : Option Addr) (c : Nat) (l : List Int) (w : World) (hr : ReadsInt w .i64 A l.length l) (hc : l.length ≤ c) (hl : l.length ≤ 1000) (hx : ∀ x ∈ l, 0 ≤ x ∧ x ≤ 320) :
  Calls Tryz.prog 52 #[.slice A l.length c] w fun e w' => e = .returned (.bool (farB l)) ∧ Drawn0 w w' := by
 obtain ⟨k, hk⟩ := (far_ev l hl hx).rounds
 exact binderyref10_far.calls k A c l _ w (kdC_reads hr) hc hk
theorem rcheck_calls (A : Option Addr) (c : Nat) (l : List Int) (w : World) (hr : ReadsInt w .i64 A l.length l) (hc : l.length ≤ c) :
  Calls Tryz.prog 50 #[.slice A l.length c] w fun e w' => e = .returned (.int .i64 (chkF l)) ∧ Drawn0 w w' := by
 obtain ⟨k, hk⟩ := (check_ev l).rounds
 exact binderyref09_Check.calls k A c l _ w (kdC_reads hr) hc hk
def ownBad (row : List Int) (near : Nat) : Bool := (chkF (row.take near) != 0) || (row.getD 256 0 == 0) || !farB (row.drop near)
def rown (s : ByteArray) (m : Int) (p : Nat) (o : List Int) : Nat × List Int × Int :=
 let a := rbits s p 0 5
 let b := rbits s a.1 a.2.1 5
 let c := rbits s b.1 b.2.1 4
 let c1 := rfail c.2.1 (decide (29 < a.2.2 ∨ 29 < b.2.2)) 4
 if c1 ≠ 0 then (c.1, o, c1) else
  let h := rheads s (c.2.2.toNat + 4) c.1
  let c2 := rfail h.2.1 (chkF h.2.2 != 0) 4
  if c2 ≠ 0 then (h.1, o, c2) else
   let r := rrowL s h.2.2 (a.2.2.toNat + b.2.2.toNat + 258) 400 h.1 []
   if r.2.1 ≠ 0 then (r.1, o, r.2.1) else
    if ownBad r.2.2 (a.2.2.toNat + 257) = true then (r.1, o, 4) else
     rcoded s m (r.2.2.take (a.2.2.toNat + 257)) (r.2.2.drop (a.2.2.toNat + 257)) bigK r.1 o
theorem rheadsL_p (s : ByteArray) (many : Nat) : ∀ (j i p : Nat) (c : Int) (l : List Int), p ≤ 8 * s.size → (rheadsL s many j i p c l).1 ≤ 8 * s.size
 | 0, _, p, _, _, h => h
 | j + 1, i, p, c, l, h => by
  rw [rheadsL]
  split
  ·exact rheadsL_p s many j (i + 1) _ _ _ (rbits_range s p c 3 h).1
  ·exact h
theorem rrowL_range (s : ByteArray) (l : List Int) (many : Nat) (hll : l.length ≤ 320) : ∀ (k p : Nat) (row : List Int), p ≤ 8 * s.size → row.length ≤ many → many < row.length + k → (∀ x ∈ row, 0 ≤ x ∧ x ≤ 320) →
  (rrowL s l many k p row).1 ≤ 8 * s.size ∧ (∀ x ∈ (rrowL s l many k p row).2.2, 0 ≤ x ∧ x ≤ 320) ∧ (rrowL s l many k p row).2.2.length ≤ many ∧ ((rrowL s l many k p row).2.1 = 0 → (rrowL s l many k p row).2.2.length = many)
 | 0, p, row, hp, h1, h2, h3 => absurd h2 (by omega)
 | k + 1, p, row, hp, h1, h2, h3 => by
  rw [rrowL]
  by_cases hlt : row.length < many
  ·rw [if_pos hlt]
   dsimp only
   have g := rsym_range s p 0 l hp
   have gb : (rsym s p 0 l).2.2 ≤ 320 := by unfold rsym; rw [if_pos rfl]; exact rdS_big s l p hll
   generalize rsym s p 0 l = b at g gb ⊢
   have gw := rsw_range s row b.1 b.2.1 b.2.2 g.1
   have gx : 0 ≤ (rsw s row b.1 b.2.1 b.2.2).2.2.2 ∧ (rsw s row b.1 b.2.1 b.2.2).2.2.2 ≤ 320 := by
    unfold rsw
    split
    ·dsimp only
     split
     ·omega
     ·rename_i hne
      refine h3 _ ?_
      rw [List.getD_eq_getElem?_getD, List.getElem?_eq_getElem (by omega)]
      exact List.getElem_mem _
    ·split
     ·exact ⟨Int.le_refl _, by dsimp only; omega⟩
     ·split
      ·exact ⟨Int.le_refl _, by dsimp only; omega⟩
      ·exact ⟨g.2, gb⟩
   generalize rsw s row b.1 b.2.1 b.2.2 = t at gw gx ⊢
   by_cases hc : rfail t.2.1 (decide ((many : Int) < (row.length : Int) + t.2.2.1)) 4 = 0
   ·rw [if_pos hc]
    have hT : (row.length : Int) + t.2.2.1 ≤ many := by
     by_cases h9 : (many : Int) < (row.length : Int) + t.2.2.1
     ·rw [decide_eq_true h9] at hc
      unfold rfail at hc
      split at hc
      ·cases hc
      ·rename_i hn; exact absurd ⟨rfl, hc⟩ hn
     ·omega
    have hlen : (row ++ List.replicate t.2.2.1.toNat t.2.2.2).length = row.length + t.2.2.1.toNat := by rw [List.length_append, List.length_replicate]
    exact rrowL_range s l many hll k t.1 _ gw.1 (by omega) (by omega) (fun x hx => by
     rcases List.mem_append.1 hx with hx | hx
     ·exact h3 x hx
     ·rw [List.eq_of_mem_replicate hx]; exact gx)
   ·rw [if_neg hc]
    exact ⟨gw.1, h3, h1, fun h => absurd h hc⟩
  ·rw [if_neg hlt]
   exact ⟨hp, h3, h1, fun _ => by dsimp only; omega⟩
end Go.Proofs.YtbgdadehjnifeaaGreat.Hand
