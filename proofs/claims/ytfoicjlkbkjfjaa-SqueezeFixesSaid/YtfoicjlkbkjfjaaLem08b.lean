/- Layer 8: the document's texts of bits. -/
import Derived.Test.YtfoicjlkbkjfjaaHand08p
namespace Go.Proofs.Ytfoicjlkbkjfjaa.Hand
open Go.RowKit Go.Proofs.YtfoicjlkbkjfjaaW.PrintWords Go.Proofs.YtfoicjlkbkjfjaaW.PrintLast Go.Proofs.Ytfoicjlkbkjfjaa.Num Go.Proofs.Ytfoicjlkbkjfjaa.Bits Go.Proofs.Ytfoicjlkbkjfjaa.P08
set_option linter.unusedVariables false

theorem align_l (L : List Int) (hL : L.length ≤ 10000000) : ∀ (d : Nat) (xs : List Int), xs.length + d ≤ 10000010 → d = (8 - xs.length % 8) % 8 → Ev (fun k => binderyref08_Align.l0 k xs) (xs ++ List.replicate d 0)
  | 0, xs, hx, hd => ev_now fun k => by
    simp only [binderyref08_Align.l0]
    rw [if_neg (by omega), List.replicate_zero, List.append_nil]
  | d + 1, xs, hx, hd => by
    have h := align_l L hL d (xs ++ [0]) (by rw [List.length_append, List.length_singleton]; omega) (by rw [List.length_append, List.length_singleton]; omega)
    rw [List.append_assoc, List.singleton_append, ← List.replicate_succ] at h
    refine ev_step h (fun k => ?_)
    simp only [binderyref08_Align.l0]
    rw [if_pos (by omega), if_pos (by omega)]
theorem align_f (L : List Int) (hL : L.length ≤ 10000000) : Ev (fun k => binderyref08_Align.f k L) (alignL L) := by
  have h := align_l L hL _ L (by omega) rfl
  refine ⟨h.choose, fun k hk => ?_⟩
  have := h.choose_spec k hk
  dsimp only at this ⊢
  unfold binderyref08_Align.f
  rw [Option.bind_some, if_pos (by simp; omega), List.nil_append]
  exact this
theorem rdG (xs : List Int) (i : Nat) : rd xs (i : Int) = xs.getD i 0 := by unfold rd; rw [Int.toNat_natCast]
theorem text_l1 (ys : List Int) (hy : ∀ y ∈ ys, 0 ≤ y ∧ y < 256) (hl : ys.length ≤ 1300000) (out : List Int) (ho : out.length ≤ 1300000) (q : Nat) (hq : q < ys.length) (r : ByteArray) (hr : Ev (fun k => binderyref08_Text.l0 k (flat ys) (out ++ [ys.getD q 0]) ((8 * (q + 1) : Nat) : Int)) r) : ∀ j : Nat, j ≤ 8 →
    Ev (fun k => binderyref08_Text.l1 k (flat ys) out ((8 * q : Nat) : Int) (ys.getD q 0 / 2 ^ j) ((j : Int) - 1)) r
  | 0, _ => by
    have h0 := hy (ys.getD q 0) (by rw [List.getD_eq_getElem?_getD, List.getElem?_eq_getElem hq]; exact List.getElem_mem _)
    refine ev_step hr (fun k => ?_)
    simp only [binderyref08_Text.l1]
    rw [if_neg (by omega), if_pos (by omega), Int.pow_zero, Int.ediv_one, Int.emod_eq_of_lt h0.1 h0.2, w64 (by omega) (by omega), show ((8 * q : Nat) : Int) + 8 = ((8 * (q + 1) : Nat) : Int) by omega]
  | j + 1, hj => by
    have h0 := hy (ys.getD q 0) (by rw [List.getD_eq_getElem?_getD, List.getElem?_eq_getElem hq]; exact List.getElem_mem _)
    have ih := text_l1 ys hy hl out ho q hq r hr j (by omega)
    refine ev_step ih (fun k => ?_)
    simp only [binderyref08_Text.l1]
    have e1 : ((j + 1 : Nat) : Int) - 1 = (j : Int) := by omega
    have e2 : ((8 * q : Nat) : Int) + (j : Int) = ((8 * q + j : Nat) : Int) := by omega
    have hfl := flat_length ys
    have hd0 : 0 ≤ ys.getD q 0 / 2 ^ (j + 1) := Int.ediv_nonneg h0.1 (Int.le_of_lt (pow_pos' _))
    have hd1 : ys.getD q 0 / 2 ^ (j + 1) ≤ ys.getD q 0 := Int.ediv_le_self _ h0.1
    have hg := flat_getD ys hy (8 * q + j) (by omega)
    rw [show (8 * q + j) / 8 = q by omega, show (8 * q + j) % 8 = j by omega] at hg
    have hs : 2 * (ys.getD q 0 / 2 ^ (j + 1)) + ys.getD q 0 / 2 ^ j % 2 = ys.getD q 0 / 2 ^ j := by
      have h3 : ys.getD q 0 / 2 ^ (j + 1) = ys.getD q 0 / 2 ^ j / 2 := by rw [Int.ediv_ediv_of_nonneg (Int.le_of_lt (pow_pos' j)), Int.pow_succ]
      rw [h3]; omega
    rw [e1, if_pos (by omega), e2, w64 (x := ((8 * q + j : Nat) : Int)) (by omega) (by omega), if_pos (by omega), if_pos (by omega), rdG, hg, w64 (x := 2 * (ys.getD q 0 / 2 ^ (j + 1))) (by omega) (by omega), hs, w64 (by omega) (by omega), w64 (by omega) (by omega)]
theorem text_l0 (ys : List Int) (hy : ∀ y ∈ ys, 0 ≤ y ∧ y < 256) (hl : ys.length ≤ 1300000) : ∀ (d q : Nat) (out : List Int), q + d = ys.length → out = ys.take q → Ev (fun k => binderyref08_Text.l0 k (flat ys) out ((8 * q : Nat) : Int)) (strOfNums ys)
  | 0, q, out, hd, ho => ev_now fun k => by
    have hfl := flat_length ys
    simp only [binderyref08_Text.l0]
    rw [if_neg (by omega), ho, List.take_of_length_le (by omega)]
  | d + 1, q, out, hd, ho => by
    have hfl := flat_length ys
    have hq : q < ys.length := by omega
    have h0 := hy (ys.getD q 0) (by rw [List.getD_eq_getElem?_getD, List.getElem?_eq_getElem hq]; exact List.getElem_mem _)
    have ih := text_l0 ys hy hl d (q + 1) (out ++ [ys.getD q 0]) (by omega) (by rw [ho, List.take_succ_eq_append_getElem hq, List.getD_eq_getElem?_getD, List.getElem?_eq_getElem hq]; rfl)
    have h1 := text_l1 ys hy hl out (by rw [ho, List.length_take]; omega) q hq _ ih 8 (Nat.le_refl _)
    have e : ys.getD q 0 / 2 ^ 8 = 0 := Int.ediv_eq_zero_of_lt h0.1 h0.2
    rw [e] at h1
    refine ev_step h1 (fun k => ?_)
    simp only [binderyref08_Text.l0]
    rw [if_pos (by omega)]
    rfl
/-- The document's text of bits that are held is the writer's. -/
theorem text_f {L xs : List Int} {x : Int} {m : Nat} (h : Held L xs x m) (hL : L.length ≤ 10000000) : ∃ k, binderyref08_Text.f k L = some (strOfNums (packL xs x m)) := by
  have ha := align_f L hL
  have hp : alignL L = flat (packL xs x m) := by
    unfold alignL
    rw [h.pack, h.length]
    have := h.lt
    rw [show (8 * xs.length + m) % 8 = m by omega]
  have hl := h.pack_length
  have ht := text_l0 (packL xs x m) h.pack_range (by omega) _ 0 [] (Nat.zero_add _) rfl
  rw [hp] at ha
  obtain ⟨K1, h1⟩ := ha
  obtain ⟨K2, h2⟩ := ht
  refine ⟨K1 + K2, ?_⟩
  have h1 := h1 (K1 + K2) (by omega)
  have h2 := h2 (K1 + K2) (by omega)
  dsimp only at h1 h2
  unfold binderyref08_Text.f
  rw [h1, Option.bind_some]
  exact h2
end Go.Proofs.Ytfoicjlkbkjfjaa.Hand
