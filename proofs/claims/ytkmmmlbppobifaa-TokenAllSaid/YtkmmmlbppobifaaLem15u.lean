/- Tokens in plain numbers: the document's Kind, Hex, Span and Skip say the same. Tokens in plain numbers: the document's names and texts of digits say the same. Tokens in plain numbers: the document's texts of digits, and numbers, say the same. Tokens in plain numbers: the document's numbers and words say the same. -/
import Derived.Test.YtkmmmlbppobifaaLem15a
import Derived.Test.YtkmmmlbppobifaaHand15e
import Derived.Test.YtkmmmlbppobifaaP15rx1
import Derived.Test.YtkmmmlbppobifaaP15rx2
import Derived.Test.YtkmmmlbppobifaaP15rx4
import Derived.Test.YtkmmmlbppobifaaP15rx5
namespace Go.Proofs.Ytkmmmlbppobifaa.Hand
open Go.RowKit Go.Proofs.YtkmmmlbppobifaaW.PrintWords Go.Proofs.YtkmmmlbppobifaaW.PrintLast Go.Proofs.YtkmmmlbppobifaaW.PrintMore Go.Proofs.Ytkmmmlbppobifaa.Num Go.Proofs.Ytkmmmlbppobifaa.P01b Go.Proofs.Ytkmmmlbppobifaa.P15r
set_option linter.unusedVariables false
set_option linter.unusedSimpArgs false
theorem kref_all : ∀ c : Fin 256, binderyref01_Kind.f 20 ((c.val : Nat) : Int) = some (kF ((c.val : Nat) : Int)) := by decide +kernel
theorem kref (s : ByteArray) (i : Int) : ∀ k, 20 ≤ k → binderyref01_Kind.f k (bt s i) = some (kF (bt s i)) := by
 have h := bt_range s i
 obtain ⟨m, hm⟩ := Int.eq_ofNat_of_zero_le h.1
 have h0 := kref_all ⟨m, by omega⟩
 rw [hm]
 have h1 : ∀ d, binderyref01_Kind.f (20 + d) (m : Int) = some (kF (m : Int)) := by
  intro d
  induction d with
  | zero => exact h0
  | succ d ih => exact binderyref01_Kind.mono _ _ _ ih
 intro k hk
 obtain ⟨d, rfl⟩ : ∃ d, k = 20 + d := ⟨k - 20, by omega⟩
 exact h1 d
theorem ev20 {α : Type} {g f : Nat → Option α} {r : α} (h : Ev f r) (hs : ∀ k, 20 ≤ k → g (k + 1) = f k) : Ev g r := by
 obtain ⟨K, h⟩ := h
 exact ⟨K + 21, fun k hk => by
  obtain ⟨k, rfl⟩ : ∃ m, k = m + 1 := ⟨k - 1, by omega⟩
  rw [hs k (by omega)]
  exact h k (by omega)⟩
theorem span_inner (s : ByteArray) (ks : List Int) (hs : s.size ≤ 2000) (hk : ks.length ≤ 20) (p x : Nat) (hp : p < s.size) (hx : x ≤ p) (r : Int) : ∀ (d j : Nat) (found : Bool), j + d = ks.length →
  ((found || (ks.drop j).contains (kF (bt s (p : Int)))) = true → Ev (fun k => binderyref01_Span.l0 k s ks ((x : Int) + 1) ((p : Int) + 1)) r) →
  ((found || (ks.drop j).contains (kF (bt s (p : Int)))) = false → r = (x : Int)) → Ev (fun k => binderyref01_Span.l1 k s ks x p found j) r := by
 intro d
 induction d with
 | zero =>
  intro j found hj h1 h2
  have ej : j = ks.length := by omega
  rw [ej, List.drop_length, List.contains_nil, Bool.or_false] at h1 h2
  rw [ej]
  cases found with
  | true =>
   refine ev20 (h1 rfl) (fun k _ => ?_)
   simp only [binderyref01_Span.l1]
   rw [if_neg (by omega), if_pos trivial, w64 (by omega) (by omega), w64 (by omega) (by omega)]
  | false =>
   refine ⟨1, fun k hk => ?_⟩
   obtain ⟨k, rfl⟩ : ∃ m, k = m + 1 := ⟨k - 1, by omega⟩
   simp only [binderyref01_Span.l1]
   rw [if_neg (by omega), if_neg (by decide), h2 rfl]
 | succ d ih =>
  intro j found hj h1 h2
  have hd : ks.drop j = rd ks (j : Int) :: ks.drop (j + 1) := by
   rw [List.drop_eq_getElem_cons (show j < ks.length by omega), rd, Int.toNat_natCast, List.getD_eq_getElem?_getD, List.getElem?_eq_getElem (show j < ks.length by omega)]; rfl
  rw [hd, List.contains_cons, ← Bool.or_assoc] at h1 h2
  have ew : (j : Int) + 1 = ((j + 1 : Nat) : Int) := by omega
  cases found with
  | true =>
   have e := ih (j + 1) true (by omega) (fun h => h1 (by simp)) (fun h => by simp at h)
   refine ev20 e (fun k _ => ?_)
   simp only [binderyref01_Span.l1]
   rw [if_pos (by omega), if_pos trivial, w64 (by omega) (by omega), ew]
  | false =>
   rw [Bool.false_or] at h1 h2
   have e := ih (j + 1) (kF (bt s (p : Int)) == rd ks (j : Int)) (by omega) h1 h2
   refine ev20 e (fun k hk2 => ?_)
   simp only [binderyref01_Span.l1]
   rw [if_pos (by omega), if_neg (by decide), if_pos (by omega), if_pos (by omega), kref s p k hk2, Option.bind_some, if_pos (by omega), w64 (by omega) (by omega), ew]
theorem span_outer (s : ByteArray) (ks : List Int) (hs : s.size ≤ 2000) (hk : ks.length ≤ 20) : ∀ (m p x : Nat), s.size - p ≤ m → p ≤ s.size → x ≤ p →
  Ev (fun k => binderyref01_Span.l0 k s ks x p) ((x + spanL ks ((bytesOf s).drop p) : Nat) : Int) := by
 intro m
 induction m with
 | zero =>
  intro p x hm hp hx
  refine ⟨1, fun k hk => ?_⟩
  obtain ⟨k, rfl⟩ : ∃ m, k = m + 1 := ⟨k - 1, by omega⟩
  simp only [binderyref01_Span.l0]
  rw [if_neg (by omega), List.drop_eq_nil_of_le (by rw [bytesOf_length]; omega), spanL, Nat.add_zero]
 | succ m ih =>
  intro p x hm hp hx
  by_cases hlt : p < s.size
  ·rw [drop_bytes s p hlt, spanL]
   have e := span_inner s ks hs hk p x hlt hx ((x + (if ks.contains (kF (bt s (p : Int))) = true then spanL ks ((bytesOf s).drop (p + 1)) + 1 else 0) : Nat) : Int) ks.length 0 false (by omega) (fun h => by
    rw [List.drop_zero, Bool.false_or] at h
    rw [if_pos h]
    have := ih (p + 1) (x + 1) (by omega) (by omega) (by omega)
    rw [show x + 1 + spanL ks ((bytesOf s).drop (p + 1)) = x + (spanL ks ((bytesOf s).drop (p + 1)) + 1) by omega] at this
    exact this) (fun h => by
    rw [List.drop_zero, Bool.false_or] at h
    rw [h, if_neg (by decide), Nat.add_zero])
   refine ev20 e (fun k _ => ?_)
   simp only [binderyref01_Span.l0]
   rw [if_pos (by omega)]
   rfl
  ·refine ⟨1, fun k hk => ?_⟩
   obtain ⟨k, rfl⟩ : ∃ m, k = m + 1 := ⟨k - 1, by omega⟩
   simp only [binderyref01_Span.l0]
   rw [if_neg (by omega), List.drop_eq_nil_of_le (by rw [bytesOf_length]; omega), spanL, Nat.add_zero]
theorem href_all : ∀ c : Fin 256, binderyref01_Hex.f 20 ((c.val : Nat) : Int) = some (hexF ((c.val : Nat) : Int)) := by decide +kernel
theorem href (s : ByteArray) (i : Int) : ∀ k, 20 ≤ k → binderyref01_Hex.f k (bt s i) = some (hexF (bt s i)) := by
 have h := bt_range s i
 obtain ⟨m, hm⟩ := Int.eq_ofNat_of_zero_le h.1
 have h0 := href_all ⟨m, by omega⟩
 rw [hm]
 have h1 : ∀ d, binderyref01_Hex.f (20 + d) (m : Int) = some (hexF (m : Int)) := by
  intro d
  induction d with
  | zero => exact h0
  | succ d ih => exact binderyref01_Hex.mono _ _ _ ih
 intro k hk
 obtain ⟨d, rfl⟩ : ∃ d, k = 20 + d := ⟨k - 20, by omega⟩
 exact h1 d
theorem ev40 {α : Type} {g f : Nat → Option α} {r : α} (h : Ev f r) (hs : ∀ k, 20 ≤ k → g (k + 2) = f k) : Ev g r := by
 obtain ⟨K, h⟩ := h
 exact ⟨K + 22, fun k hk => by
  obtain ⟨k, rfl⟩ : ∃ m, k = m + 2 := ⟨k - 2, by omega⟩
  rw [hs k (by omega)]
  exact h k (by omega)⟩
theorem evNow {α : Type} {g : Nat → Option α} {r : α} (K : Nat) (h : ∀ k, K ≤ k → g k = some r) : Ev g r := ⟨K, h⟩
def rsN (s : ByteArray) : Nat → Bool → Nat → Nat
 | 0, _, i => i
 | d + 1, b, i => if bt s (i : Int) = 10 ∨ bt s (i : Int) = 13 then rsN s d false (i + 1) else if bt s (i : Int) = 37 then rsN s d true (i + 1) else if b = true ∨ kF (bt s (i : Int)) = 0 then rsN s d b (i + 1) else i
theorem k_white : ∀ c : Int, c = 10 ∨ c = 13 → kF c = 0 := by
 intro c h
 rcases h with rfl | rfl <;> decide
theorem ends_pos (s : ByteArray) (i : Nat) (hi : i < s.size) (h : bt s (i : Int) = 10 ∨ bt s (i : Int) = 13) : endsN s i ≠ 0 := by
 unfold endsN
 rw [if_pos hi]
 by_cases h1 : bt s (i : Int) = 10
 ·rw [if_pos h1]; decide
 ·rw [if_neg h1, if_pos (h.resolve_left h1)]
  split <;> decide
theorem ends_zero (s : ByteArray) (i : Nat) (h : ¬ (bt s (i : Int) = 10 ∨ bt s (i : Int) = 13)) : endsN s i = 0 := by
 unfold endsN
 split
 ·rw [if_neg (fun h1 => h (.inl h1)), if_neg (fun h1 => h (.inr h1))]
 ·rfl
theorem rsN_note (s : ByteArray) : ∀ (d i : Nat), i + d = s.size → rsN s d true i = rsN s (s.size - noteL s d i) false (noteL s d i)
 | 0, i, h => by
  rw [noteL, rsN, show s.size - i = 0 by omega, rsN]
 | d + 1, i, h => by
  rw [noteL]
  by_cases hc : bt s (i : Int) = 10 ∨ bt s (i : Int) = 13
  ·rw [if_neg (fun h1 => ends_pos s i (by omega) hc h1.2), rsN, if_pos hc, show s.size - i = d + 1 by omega, rsN, if_pos hc]
  ·rw [if_pos ⟨by omega, ends_zero s i hc⟩, rsN, if_neg hc, ← rsN_note s d (i + 1) (by omega)]
   by_cases h37 : bt s (i : Int) = 37
   ·rw [if_pos h37]
   ·rw [if_neg h37, if_pos (.inl rfl)]
theorem spanN_white (s : ByteArray) (i : Nat) (hi : i < s.size) (h : kF (bt s (i : Int)) = 0) : spanN [0] s i = 1 + spanN [0] s (i + 1) := by
 unfold spanN
 rw [drop_bytes s i hi, spanL, if_pos (by rw [h]; rfl)]; omega
theorem spanN_none (s : ByteArray) (i : Nat) (hi : i < s.size) (h : kF (bt s (i : Int)) ≠ 0) : spanN [0] s i = 0 := by
 unfold spanN
 rw [drop_bytes s i hi, spanL, if_neg (by simpa using h)]
theorem rsN_skip (s : ByteArray) : ∀ (D d i k : Nat), d ≤ D → i + d = s.size → s.size < i + k → rsN s d false i = skipF s k i
 | _, _, i, 0, _, h, hk => absurd hk (by omega)
 | _, 0, i, k + 1, _, h, hk => by
  have hl := spanN_le [0] s i (by omega)
  rw [rsN, skipF, if_neg (fun h1 => by have := h1.1; omega)]; omega
 | 0, d + 1, i, k + 1, hD, h, hk => absurd hD (by omega)
 | D + 1, d + 1, i, k + 1, hD, h, hk => by
  have hi : i < s.size := by omega
  by_cases h0 : kF (bt s (i : Int)) = 0
  ·have e := rsN_skip s D d (i + 1) (k + 1) (by omega) (by omega) (by omega)
   have e1 : i + spanN [0] s i = i + 1 + spanN [0] s (i + 1) := by rw [spanN_white s i hi h0]; omega
   rw [skipF, e1, ← skipF, ← e, rsN]
   by_cases hc : bt s (i : Int) = 10 ∨ bt s (i : Int) = 13
   ·rw [if_pos hc]
   ·rw [if_neg hc]
    by_cases h37 : bt s (i : Int) = 37
    ·rw [h37] at h0; exact absurd h0 (by decide)
    ·rw [if_neg h37, if_pos (.inr h0)]
  ·have e1 := spanN_none s i hi h0
   have hc : ¬ (bt s (i : Int) = 10 ∨ bt s (i : Int) = 13) := fun h => h0 (k_white _ h)
   rw [skipF, e1, Nat.add_zero, rsN, if_neg hc]
   by_cases h37 : bt s (i : Int) = 37
   ·rw [if_pos h37, if_pos ⟨hi, h37⟩]
    have hn := noteL_le s s.size i (by omega)
    have hg := noteL_gt s (s.size - 1) i hi h37
    rw [show s.size - 1 + 1 = s.size by omega] at hg
    have e2 : noteL s s.size i = noteL s d (i + 1) := by
     obtain ⟨m, hm⟩ : ∃ m, s.size = m + 1 := ⟨s.size - 1, by omega⟩
     have hfu : ∀ (k k' p : Nat), p ≤ s.size → s.size ≤ p + k → s.size ≤ p + k' → noteL s k p = noteL s k' p := by
      intro k
      induction k with
      | zero =>
       intro k' p h1 h2 h3
       cases k' with
       | zero => rfl
       | succ k' => rw [noteL, noteL, if_neg (by omega)]
      | succ k ih =>
       intro k' p h1 h2 h3
       cases k' with
       | zero => rw [noteL, noteL, if_neg (by omega)]
       | succ k' =>
        rw [noteL, noteL]
        by_cases hp : p < s.size ∧ endsN s p = 0
        ·rw [if_pos hp, if_pos hp]; exact ih k' (p + 1) (by omega) (by omega) (by omega)
        ·rw [if_neg hp, if_neg hp]
     rw [hfu s.size (d + 1) i (by omega) (by omega) (by omega), noteL, if_pos ⟨hi, ends_zero s i hc⟩]
    rw [rsN_note s d (i + 1) (by omega), ← e2]
    exact rsN_skip s D _ _ k (by omega) (by omega) (by omega)
   ·rw [if_neg h37, if_neg (fun h => h.elim (by decide) h0), if_neg (fun h => h37 h.2)]; rfl
theorem skip_ref (s : ByteArray) (hs : s.size ≤ 2000) : ∀ (d i : Nat) (b : Bool), i + d = s.size → Ev (fun k => binderyref15_Skip.l0 k s b i) ((rsN s d b i : Nat) : Int)
 | 0, i, b, h => evNow 1 (fun k hk => by
  obtain ⟨k, rfl⟩ : ∃ m, k = m + 1 := ⟨k - 1, by omega⟩
  rw [binderyref15_Skip.l0, if_neg (by omega), rsN]
  congr 2; omega)
 | d + 1, i, b, h => by
  have ew : wrap64 ((i : Int) + 1) = ((i + 1 : Nat) : Int) := by rw [w64 (by omega) (by omega)]; omega
  have p1 : (i : Int) < (s.size : Int) := by omega
  have p0 : (0 : Int) ≤ (i : Int) := by omega
  rw [rsN]
  by_cases hc : bt s (i : Int) = 10 ∨ bt s (i : Int) = 13
  ·rw [if_pos hc]
   refine ev40 (skip_ref s hs d (i + 1) false (by omega)) (fun k hk => ?_)
   rw [binderyref15_Skip.l0, if_pos p1, if_pos p0]
   have e : (if bt s (i : Int) = 10 then binderyref15_Skip.j1 (k + 1) s b (i : Int) true else binderyref15_Skip.j1 (k + 1) s b (i : Int) (bt s (i : Int) == 13)) = binderyref15_Skip.j1 (k + 1) s b (i : Int) true := by
    rcases hc with h1 | h1
    ·rw [if_pos h1]
    ·rw [if_neg (by rw [h1]; decide), h1]; rfl
   rw [e, binderyref15_Skip.j1, if_pos rfl, if_pos p0, if_pos p1, kref s i k hk, Option.bind_some, if_pos (k_white _ hc), ew]
  ·rw [if_neg hc]
   have e : ∀ k, (if bt s (i : Int) = 10 then binderyref15_Skip.j1 (k + 1) s b (i : Int) true else binderyref15_Skip.j1 (k + 1) s b (i : Int) (bt s (i : Int) == 13)) = binderyref15_Skip.j1 (k + 1) s b (i : Int) false := fun k => by
    rw [if_neg (fun h => hc (.inl h)), beq_false_of_ne (fun h => hc (.inr h))]
   by_cases h37 : bt s (i : Int) = 37
   ·rw [if_pos h37]
    refine ev40 (skip_ref s hs d (i + 1) true (by omega)) (fun k hk => ?_)
    rw [binderyref15_Skip.l0, if_pos p1, if_pos p0, e, binderyref15_Skip.j1, if_neg (by decide), if_pos p0, if_pos p1, if_pos h37, ew]
   ·rw [if_neg h37]
    cases b with
    | true =>
     rw [if_pos (.inl rfl)]
     refine ev40 (skip_ref s hs d (i + 1) true (by omega)) (fun k hk => ?_)
     rw [binderyref15_Skip.l0, if_pos p1, if_pos p0, e, binderyref15_Skip.j1, if_neg (by decide), if_pos p0, if_pos p1, if_neg h37, if_pos rfl, ew]
    | false =>
     by_cases h0 : kF (bt s (i : Int)) = 0
     ·rw [if_pos (.inr h0)]
      refine ev40 (skip_ref s hs d (i + 1) false (by omega)) (fun k hk => ?_)
      rw [binderyref15_Skip.l0, if_pos p1, if_pos p0, e, binderyref15_Skip.j1, if_neg (by decide), if_pos p0, if_pos p1, if_neg h37, if_neg (by decide), kref s i k hk, Option.bind_some, if_pos h0, ew]
     ·rw [if_neg (fun h => h.elim (by decide) h0)]
      refine evNow 22 (fun k hk => ?_)
      obtain ⟨k, rfl⟩ : ∃ m, k = m + 2 := ⟨k - 2, by omega⟩
      rw [binderyref15_Skip.l0, if_pos p1, if_pos p0, e, binderyref15_Skip.j1, if_neg (by decide), if_pos p0, if_pos p1, if_neg h37, if_neg (by decide), kref s i k (by omega), Option.bind_some, if_neg h0]
end Go.Proofs.Ytkmmmlbppobifaa.Hand
namespace Go.Proofs.Ytkmmmlbppobifaa.Hand
open Go.RowKit Go.Proofs.YtkmmmlbppobifaaW.PrintWords Go.Proofs.YtkmmmlbppobifaaW.PrintLast Go.Proofs.YtkmmmlbppobifaaW.PrintMore Go.Proofs.Ytkmmmlbppobifaa.Num Go.Proofs.Ytkmmmlbppobifaa.P01b Go.Proofs.Ytkmmmlbppobifaa.P15r
set_option linter.unusedVariables false
set_option linter.unusedSimpArgs false
theorem evS {α : Type} {g f : Nat → Option α} {r : α} (n : Nat) (h : Ev f r) (hs : ∀ k, 20 ≤ k → g (k + n) = f k) : Ev g r := by
 obtain ⟨K, h⟩ := h
 exact ⟨K + 20 + n, fun k hk => by
  obtain ⟨k, rfl⟩ : ∃ m, k = m + n := ⟨k - n, by omega⟩
  rw [hs k (by omega)]
  exact h k (by omega)⟩
theorem evE {α : Type} {g : Nat → Option α} {r : α} (n : Nat) (hs : ∀ k, 20 ≤ k → g (k + n) = some r) : Ev g r := evS n (Ev.now r) hs
def toR (r : Int × List Int × Nat) : ByteArray × Int × Int := if r.1 = 0 then (strOfNums r.2.1, (r.2.2 : Int), 0) else (⟨#[]⟩, 0, r.1)
theorem toR_bad {c : Int} (hc : c ≠ 0) (o : List Int) (p : Nat) : toR (c, o, p) = (⟨#[]⟩, 0, c) := if_neg hc
theorem toR_ok (o : List Int) (p : Nat) : toR (0, o, p) = (strOfNums o, (p : Int), 0) := if_pos rfl
theorem two48 (s : ByteArray) (p : Nat) (h : p + 1 < s.size) (a b : UInt8) : ((s.extract p (p + 2)).toList == [a, b]) = decide (bt s (p : Int) = (a.toNat : Int) ∧ bt s ((p + 1 : Nat) : Int) = (b.toNat : Int)) := by
 have e0 : bytesOf (s.extract p (p + 2)) = [bt s (p : Int), bt s ((p + 1 : Nat) : Int)] := by
  rw [bytesOf_extract, List.drop_take, show p + 2 - p = 2 by omega, drop_bytes s p (by omega), drop_bytes s (p + 1) h]
  rfl
 have e1 : ([a, b] : List UInt8) = (⟨#[a, b]⟩ : ByteArray).toList := by
  rw [ByteArray.toList_eq]
 have e2 : bytesOf (⟨#[a, b]⟩ : ByteArray) = [(a.toNat : Int), (b.toNat : Int)] := rfl
 rw [Bool.eq_iff_iff, beq_iff_eq, e1, toList_inj, decide_eq_true_eq]
 constructor
 ·intro h
  rw [h, e2] at e0
  injection e0 with a b
  injection b with b
  exact ⟨a.symm, b.symm⟩
 ·intro h
  apply bytes_ext
  rw [e0, e2, h.1, h.2]
theorem hexF_zero (c : Int) : hexF c = 0 ↔ c = 48 := by
 unfold hexF
 constructor
 ·intro h
  split at h
  ·omega
  ·split at h
   ·omega
   ·split at h <;> omega
 ·rintro rfl; decide
theorem name_ref (s : ByteArray) (hs : s.size ≤ 2000) : ∀ (k p : Nat) (o : List Int), p ≤ s.size → s.size < p + k → o.length ≤ 2000 → Ev (fun n => binderyref15_name.l0 n s (p : Int) o) (toR (nameF s k p o))
 | 0, p, o, hp, hk, _ => absurd hk (by omega)
 | k + 1, p, o, hp, hk, ho => by
  rw [nameF]
  by_cases hlt : p < s.size
  ·have p1 : (p : Int) < (s.size : Int) := by omega
   have p0 : (0 : Int) ≤ (p : Int) := by omega
   have w1 : wrap64 ((p : Int) + 1) = ((p + 1 : Nat) : Int) := by rw [w64 (by omega) (by omega)]; omega
   have w2 : wrap64 (((p + 1 : Nat) : Int) + 1) = ((p + 2 : Nat) : Int) := by rw [w64 (by omega) (by omega)]; omega
   have w3 : wrap64 (((p + 1 : Nat) : Int) + 2) = ((p + 3 : Nat) : Int) := by rw [w64 (by omega) (by omega)]; omega
   by_cases h2 : kF (bt s (p : Int)) = 2
   ·rw [if_pos ⟨hlt, h2⟩]
    have t2 : (kF (bt s (p : Int)) == 2) = true := beq_iff_eq.2 h2
    by_cases h35 : bt s (p : Int) = 35
    ·rw [if_pos h35]
     have r0 := hexF_range (bt s ((p + 1 : Nat) : Int))
     have r1 := hexF_range (bt s ((p + 1 + 1 : Nat) : Int))
     by_cases hin : p + 1 + 1 < s.size
     ·have q1 : ¬ ((p + 2 : Nat) : Int) ≥ (s.size : Int) := by omega
      have q2 : (0 : Int) ≤ ((p + 1 : Nat) : Int) := by omega
      have q3 : ((p + 1 : Nat) : Int) < (s.size : Int) := by omega
      have q4 : (0 : Int) ≤ ((p + 2 : Nat) : Int) := by omega
      have q5 : ((p + 2 : Nat) : Int) < (s.size : Int) := by omega
      have q6 : ((p + 1 : Nat) : Int) ≤ ((p + 3 : Nat) : Int) := by omega
      have q7 : ((p + 3 : Nat) : Int) ≤ (s.size : Int) := by omega
      by_cases hh : hexF (bt s ((p + 1 : Nat) : Int)) < 0
      ·have he : escF s (p + 1) = none := by unfold escF; rw [if_pos hin, if_pos (.inl hh)]
       rw [he]
       dsimp only
       rw [toR_bad (by decide)]
       refine evE 3 (fun n hn => ?_)
       rw [binderyref15_name.l0, if_pos p1, if_pos p0, kref s p _ (by omega), Option.bind_some, t2, binderyref15_name.j1, if_pos rfl, if_pos p0, if_pos p1, if_pos h35, w1, w2, if_neg q1, if_pos q2, if_pos q3, href s _ _ (by omega), Option.bind_some, if_pos hh, binderyref15_name.j2, if_pos rfl]
      ·by_cases hl : hexF (bt s ((p + 1 + 1 : Nat) : Int)) < 0
       ·have he : escF s (p + 1) = none := by unfold escF; rw [if_pos hin, if_pos (.inr (.inl hl))]
        rw [he]
        dsimp only
        rw [toR_bad (by decide)]
        refine evE 3 (fun n hn => ?_)
        rw [binderyref15_name.l0, if_pos p1, if_pos p0, kref s p _ (by omega), Option.bind_some, t2, binderyref15_name.j1, if_pos rfl, if_pos p0, if_pos p1, if_pos h35, w1, w2, if_neg q1, if_pos q2, if_pos q3, href s _ _ (by omega), Option.bind_some, if_neg hh, if_pos q4, if_pos q5, href s _ _ (by omega), Option.bind_some, if_pos hl, binderyref15_name.j2, if_pos rfl]
       ·have h48 := two48 s (p + 1) hin 48 48
        have hz : hexF (bt s ((p + 1 : Nat) : Int)) + hexF (bt s ((p + 1 + 1 : Nat) : Int)) = 0 ↔ (bt s ((p + 1 : Nat) : Int) = ((48 : UInt8).toNat : Int) ∧ bt s ((p + 1 + 1 : Nat) : Int) = ((48 : UInt8).toNat : Int)) := by
         rw [show ((48 : UInt8).toNat : Int) = 48 from rfl, ← hexF_zero, ← hexF_zero]; omega
        by_cases h0 : hexF (bt s ((p + 1 : Nat) : Int)) + hexF (bt s ((p + 1 + 1 : Nat) : Int)) = 0
        ·have he : escF s (p + 1) = none := by unfold escF; rw [if_pos hin, if_pos (.inr (.inr h0))]
         rw [decide_eq_true (hz.1 h0)] at h48
         rw [he]
         dsimp only
         rw [toR_bad (by decide)]
         refine evE 3 (fun n hn => ?_)
         rw [binderyref15_name.l0, if_pos p1, if_pos p0, kref s p _ (by omega), Option.bind_some, t2, binderyref15_name.j1, if_pos rfl, if_pos p0, if_pos p1, if_pos h35, w1, w2, if_neg q1, if_pos q2, if_pos q3, href s _ _ (by omega), Option.bind_some, if_neg hh, if_pos q4, if_pos q5, href s _ _ (by omega), Option.bind_some, if_neg hl, w3, if_pos q6, if_pos q7, Int.toNat_natCast, Int.toNat_natCast, show (p + 3 : Nat) = p + 1 + 2 from rfl, h48, binderyref15_name.j2, if_pos rfl]
        ·have he : escF s (p + 1) = some (16 * hexF (bt s ((p + 1 : Nat) : Int)) + hexF (bt s ((p + 1 + 1 : Nat) : Int))) := by
          unfold escF; rw [if_pos hin, if_neg (fun h => h.elim hh (fun h => h.elim hl h0))]
         rw [decide_eq_false (fun h => h0 (hz.2 h))] at h48
         have hval : (wrap64 ((wrap64 (16 * hexF (bt s ((p + 1 : Nat) : Int)))) + hexF (bt s ((p + 1 + 1 : Nat) : Int)))) % 256 = 16 * hexF (bt s ((p + 1 : Nat) : Int)) + hexF (bt s ((p + 1 + 1 : Nat) : Int)) := by
          rw [w64 (x := 16 * hexF (bt s ((p + 1 : Nat) : Int))) (by omega) (by omega), w64 (by omega) (by omega)]; omega
         have hstep : ∀ n, 20 ≤ n → binderyref15_name.l0 (n + 3) s (p : Int) o = if ((o ++ [16 * hexF (bt s ((p + 1 : Nat) : Int)) + hexF (bt s ((p + 1 + 1 : Nat) : Int))]).length : Int) > 127 then some ((⟨#[]⟩ : ByteArray), 0, 8) else binderyref15_name.l0 n s ((p + 3 : Nat) : Int) (o ++ [16 * hexF (bt s ((p + 1 : Nat) : Int)) + hexF (bt s ((p + 1 + 1 : Nat) : Int))]) := fun n hn => by
          rw [binderyref15_name.l0, if_pos p1, if_pos p0, kref s p _ (by omega), Option.bind_some, t2, binderyref15_name.j1, if_pos rfl, if_pos p0, if_pos p1, if_pos h35, w1, w2, if_neg q1, if_pos q2, if_pos q3, href s _ _ (by omega), Option.bind_some, if_neg hh, if_pos q4, if_pos q5, href s _ _ (by omega), Option.bind_some, if_neg hl, w3, if_pos q6, if_pos q7, Int.toNat_natCast, Int.toNat_natCast, show (p + 3 : Nat) = p + 1 + 2 from rfl, h48, binderyref15_name.j2, if_neg (by decide), if_pos q2, if_pos q3, href s _ _ (by omega), Option.bind_some, w2, if_pos q4, if_pos q5, href s _ _ (by omega), Option.bind_some, if_pos (by omega), hval, Option.bind_some, w3]
         rw [he]
         dsimp only
         by_cases hlen : 127 < o.length + 1
         ·rw [if_pos hlen, toR_bad (by decide)]
          refine evE 3 (fun n hn => ?_)
          rw [hstep n hn, if_pos (by rw [List.length_append, List.length_singleton]; omega)]
         ·rw [if_neg hlen]
          refine evS 3 (name_ref s hs k (p + 3) _ (by omega) (by omega) (by rw [List.length_append, List.length_singleton]; omega)) (fun n hn => ?_)
          rw [hstep n hn, if_neg (by rw [List.length_append, List.length_singleton]; omega)]
     ·have he : escF s (p + 1) = none := by unfold escF; rw [if_neg hin]
      have q1 : ((p + 2 : Nat) : Int) ≥ (s.size : Int) := by omega
      rw [he]
      dsimp only
      rw [toR_bad (by decide)]
      refine evE 3 (fun n hn => ?_)
      rw [binderyref15_name.l0, if_pos p1, if_pos p0, kref s p _ (by omega), Option.bind_some, t2, binderyref15_name.j1, if_pos rfl, if_pos p0, if_pos p1, if_pos h35, w1, w2, if_pos q1, binderyref15_name.j2, if_pos rfl]
    ·rw [if_neg h35]
     have hstep : ∀ n, 20 ≤ n → binderyref15_name.l0 (n + 2) s (p : Int) o = if ((o ++ [bt s (p : Int)]).length : Int) > 127 then some ((⟨#[]⟩ : ByteArray), 0, 8) else binderyref15_name.l0 n s ((p + 1 : Nat) : Int) (o ++ [bt s (p : Int)]) := fun n hn => by
      rw [binderyref15_name.l0, if_pos p1, if_pos p0, kref s p _ (by omega), Option.bind_some, t2, binderyref15_name.j1, if_pos rfl, if_pos p0, if_pos p1, if_neg h35, if_pos (by omega), Option.bind_some, w1]
     by_cases hlen : 127 < o.length + 1
     ·rw [if_pos hlen, toR_bad (by decide)]
      refine evE 2 (fun n hn => ?_)
      rw [hstep n hn, if_pos (by rw [List.length_append, List.length_singleton]; omega)]
     ·rw [if_neg hlen]
      refine evS 2 (name_ref s hs k (p + 1) _ (by omega) (by omega) (by rw [List.length_append, List.length_singleton]; omega)) (fun n hn => ?_)
      rw [hstep n hn, if_neg (by rw [List.length_append, List.length_singleton]; omega)]
   ·have t2 : (kF (bt s (p : Int)) == 2) = false := beq_false_of_ne h2
    rw [if_neg (fun h => h2 h.2), toR_ok]
    refine evE 2 (fun n hn => ?_)
    rw [binderyref15_name.l0, if_pos p1, if_pos p0, kref s p _ (by omega), Option.bind_some, t2, binderyref15_name.j1, if_neg (by decide)]
  ·rw [if_neg (fun h => hlt h.1), toR_ok]
   refine evE 2 (fun n hn => ?_)
   rw [binderyref15_name.l0, if_neg (by omega), binderyref15_name.j1, if_neg (by decide)]
end Go.Proofs.Ytkmmmlbppobifaa.Hand
namespace Go.Proofs.Ytkmmmlbppobifaa.Hand
open Go.RowKit Go.Proofs.YtkmmmlbppobifaaW.PrintWords Go.Proofs.YtkmmmlbppobifaaW.PrintLast Go.Proofs.YtkmmmlbppobifaaW.PrintMore Go.Proofs.Ytkmmmlbppobifaa.Num Go.Proofs.Ytkmmmlbppobifaa.P01b Go.Proofs.Ytkmmmlbppobifaa.P15r
set_option linter.unusedVariables false
set_option linter.unusedSimpArgs false
theorem hexl_ref (s : ByteArray) (hs : s.size ≤ 2000) : ∀ (k p : Nat) (o : List Int) (hf : Int), p ≤ s.size → s.size < p + k → o.length ≤ p → -1 ≤ hf → hf ≤ 15 → Ev (fun n => binderyref15_hex.l0 n s (p : Int) o hf) (toR (hexL s k p o hf))
 | 0, p, o, hf, hp, hk, _, _, _ => absurd hk (by omega)
 | k + 1, p, o, hf, hp, hk, ho, hf0, hf1 => by
  rw [hexL]
  by_cases hlt : p < s.size
  ·have p1 : (p : Int) < (s.size : Int) := by omega
   have p0 : (0 : Int) ≤ (p : Int) := by omega
   have w1 : wrap64 ((p : Int) + 1) = ((p + 1 : Nat) : Int) := by rw [w64 (by omega) (by omega)]; omega
   have hr := hexF_range (bt s (p : Int))
   rw [if_pos hlt]
   by_cases h62 : bt s (p : Int) = 62
   ·rw [if_pos h62, toR_ok]
    by_cases hh : hf < 0
    ·rw [if_pos hh]
     refine evE 2 (fun n hn => ?_)
     rw [binderyref15_hex.l0, if_pos p1, if_pos p0, href s p _ (by omega), Option.bind_some, if_pos h62, w1, decide_eq_true hh, binderyref15_hex.j1, if_pos rfl]
    ·rw [if_neg hh]
     refine evE 5 (fun n hn => ?_)
     have hval : (wrap64 ((wrap64 (16 * hf)) + 0)) % 256 = 16 * hf := by
      rw [w64 (x := 16 * hf) (by omega) (by omega), w64 (by omega) (by omega)]; omega
     rw [binderyref15_hex.l0, if_pos p1, if_pos p0, href s p _ (by omega), Option.bind_some, if_pos h62, w1, decide_eq_false hh, binderyref15_hex.j1, if_neg (by decide), if_pos h62, binderyref15_hex.j2, if_pos (by decide), decide_eq_false hh, binderyref15_hex.j3, if_neg (by decide), if_pos (by decide), if_pos (by omega), hval, binderyref15_hex.j4, if_neg (by rw [List.length_append, List.length_singleton]; omega), if_pos h62]
   ·rw [if_neg h62]
    by_cases hd : 0 ≤ hexF (bt s (p : Int))
    ·rw [if_pos hd]
     by_cases hh : hf < 0
     ·rw [if_pos hh]
      refine evS 5 (hexl_ref s hs k (p + 1) o (hexF (bt s (p : Int))) (by omega) (by omega) (by omega) (by omega) (by omega)) (fun n hn => ?_)
      rw [binderyref15_hex.l0, if_pos p1, if_pos p0, href s p _ (by omega), Option.bind_some, if_neg h62, w1, binderyref15_hex.j1, if_neg (by decide), if_neg h62, if_neg (by omega), binderyref15_hex.j2, if_pos (by omega), decide_eq_true hh, binderyref15_hex.j3, if_pos rfl, binderyref15_hex.j4, if_neg (by omega), if_neg h62]
     ·rw [if_neg hh]
      have hval : (wrap64 ((wrap64 (16 * hf)) + hexF (bt s (p : Int)))) % 256 = 16 * hf + hexF (bt s (p : Int)) := by
       rw [w64 (x := 16 * hf) (by omega) (by omega), w64 (by omega) (by omega)]; omega
      refine evS 5 (hexl_ref s hs k (p + 1) (o ++ [16 * hf + hexF (bt s (p : Int))]) (-1) (by omega) (by omega) (by rw [List.length_append, List.length_singleton]; omega) (by decide) (by decide)) (fun n hn => ?_)
      rw [binderyref15_hex.l0, if_pos p1, if_pos p0, href s p _ (by omega), Option.bind_some, if_neg h62, w1, binderyref15_hex.j1, if_neg (by decide), if_neg h62, if_neg (by omega), binderyref15_hex.j2, if_pos (by omega), decide_eq_false hh, binderyref15_hex.j3, if_neg (by decide), if_pos (by omega), if_pos (by omega), hval, binderyref15_hex.j4, if_neg (by rw [List.length_append, List.length_singleton]; omega), if_neg h62]
    ·rw [if_neg hd]
     by_cases h0 : kF (bt s (p : Int)) = 0
     ·rw [if_pos h0]
      refine evS 5 (hexl_ref s hs k (p + 1) o hf (by omega) (by omega) (by omega) hf0 hf1) (fun n hn => ?_)
      rw [binderyref15_hex.l0, if_pos p1, if_pos p0, href s p _ (by omega), Option.bind_some, if_neg h62, w1, binderyref15_hex.j1, if_neg (by decide), if_neg h62, if_pos (by omega), kref s p _ (by omega), Option.bind_some, if_pos h0, binderyref15_hex.j2, if_neg (by omega), binderyref15_hex.j3, if_neg (by decide), if_neg (by omega), binderyref15_hex.j4, if_neg (by omega), if_neg h62]
     ·rw [if_neg h0, toR_bad (by decide)]
      refine evE 2 (fun n hn => ?_)
      rw [binderyref15_hex.l0, if_pos p1, if_pos p0, href s p _ (by omega), Option.bind_some, if_neg h62, w1, binderyref15_hex.j1, if_neg (by decide), if_neg h62, if_pos (by omega), kref s p _ (by omega), Option.bind_some, if_neg h0]
  ·rw [if_neg hlt, toR_bad (by decide)]
   refine evE 1 (fun n hn => ?_)
   rw [binderyref15_hex.l0, if_neg (by omega)]
end Go.Proofs.Ytkmmmlbppobifaa.Hand
namespace Go.Proofs.Ytkmmmlbppobifaa.Hand
open Go.RowKit Go.Proofs.YtkmmmlbppobifaaW.PrintWords Go.Proofs.YtkmmmlbppobifaaW.PrintLast Go.Proofs.YtkmmmlbppobifaaW.PrintMore Go.Proofs.Ytkmmmlbppobifaa.Num Go.Proofs.Ytkmmmlbppobifaa.P01b Go.Proofs.Ytkmmmlbppobifaa.P15r
set_option linter.unusedVariables false
set_option linter.unusedSimpArgs false
theorem count_ref (s : ByteArray) (hs : s.size ≤ 2000) : ∀ (k i : Nat), i ≤ s.size → s.size < i + k → Ev (fun n => binderyref02_Count.l0 n s (i : Int)) ((cntF s k i : Nat) : Int)
 | 0, i, hi, hk => absurd hk (by omega)
 | k + 1, i, hi, hk => by
  rw [cntF]
  by_cases hlt : i < s.size
  ·have p1 : (i : Int) < (s.size : Int) := by omega
   have p0 : (0 : Int) ≤ (i : Int) := by omega
   have w1 : wrap64 ((i : Int) + 1) = ((i + 1 : Nat) : Int) := by rw [w64 (by omega) (by omega)]; omega
   by_cases h1 : 48 ≤ bt s (i : Int)
   ·by_cases h2 : bt s (i : Int) ≤ 57
    ·rw [if_pos ⟨hlt, h1, h2⟩]
     refine evS 1 (count_ref s hs k (i + 1) (by omega) (by omega)) (fun n hn => ?_)
     rw [binderyref02_Count.l0, if_pos p1, if_pos p0, if_pos h1, if_pos h2, w1]
    ·rw [if_neg (fun h => h2 h.2.2)]
     refine evE 1 (fun n hn => ?_)
     rw [binderyref02_Count.l0, if_pos p1, if_pos p0, if_pos h1, if_neg h2]
   ·rw [if_neg (fun h => h1 h.2.1)]
    refine evE 1 (fun n hn => ?_)
    rw [binderyref02_Count.l0, if_pos p1, if_pos p0, if_neg (by omega)]
  ·rw [if_neg (fun h => hlt h.1)]
   refine evE 1 (fun n hn => ?_)
   rw [binderyref02_Count.l0, if_neg (by omega)]
theorem fixl_ref (s : ByteArray) (hs : s.size ≤ 2000) (hd : ∀ j, j < s.size → 48 ≤ bt s (j : Int) ∧ bt s (j : Int) ≤ 57) : ∀ (k i : Nat) (v : Int), i ≤ s.size → s.size < i + k → 0 ≤ v → v ≤ 2147483647 → Ev (fun n => binderyref02_Fixed.l0 n s v (i : Int)) (fixL s k i v)
 | 0, i, v, hi, hk, _, _ => absurd hk (by omega)
 | k + 1, i, v, hi, hk, hv0, hv1 => by
  rw [fixL]
  by_cases hlt : i < s.size
  ·have p1 : (i : Int) < (s.size : Int) := by omega
   have p0 : (0 : Int) ≤ (i : Int) := by omega
   have hdi := hd i hlt
   have w1 : wrap64 ((i : Int) + 1) = ((i + 1 : Nat) : Int) := by rw [w64 (by omega) (by omega)]; omega
   have w2 : wrap64 ((wrap64 ((wrap64 (10 * v)) + (wrap64 (bt s (i : Int))))) - 48) = 10 * v + (bt s (i : Int) - 48) := by
    rw [w64 (x := 10 * v) (by omega) (by omega), w64 (x := bt s (i : Int)) (by omega) (by omega), w64 (x := 10 * v + bt s (i : Int)) (by omega) (by omega), w64 (by omega) (by omega)]; omega
   rw [if_pos hlt]
   by_cases hb : 2147483647 < 10 * v + (bt s (i : Int) - 48)
   ·rw [if_pos hb]
    refine evE 1 (fun n hn => ?_)
    rw [binderyref02_Fixed.l0, if_pos p1, if_pos p0, w2, if_pos hb]
   ·rw [if_neg hb]
    refine evS 1 (fixl_ref s hs hd k (i + 1) _ (by omega) (by omega) (by omega) (by omega)) (fun n hn => ?_)
    rw [binderyref02_Fixed.l0, if_pos p1, if_pos p0, w2, if_neg hb, w1]
  ·rw [if_neg hlt]
   refine evE 1 (fun n hn => ?_)
   rw [binderyref02_Fixed.l0, if_neg (by omega)]
theorem nil_size (s : ByteArray) : s.toList = ([] : List UInt8) ↔ s.size = 0 := by
 rw [ByteArray.toList_eq]
 constructor
 ·intro h
  have := congrArg List.length h
  rw [Array.length_toList] at this
  exact this
 ·intro h
  apply List.eq_nil_of_length_eq_zero
  rw [Array.length_toList]
  exact h
theorem fixed_ref (s : ByteArray) (hs : s.size ≤ 2000) : Ev (fun k => binderyref02_Fixed.f k s) (fixedF s) := by
 unfold fixedF
 by_cases h0 : s.size = 0
 ·rw [if_pos (.inl h0)]
  refine evE 1 (fun n hn => ?_)
  unfold binderyref02_Fixed.f
  rw [if_pos ((nil_size s).2 h0), binderyref02_Fixed.j0, if_pos rfl]
 ·have hnil : ¬ s.toList = ([] : List UInt8) := fun h => h0 ((nil_size s).1 h)
  have hc : Ev (fun n => binderyref02_Count.f n s) ((cntF s (s.size + 1) 0 : Nat) : Int) := count_ref s hs (s.size + 1) 0 (Nat.zero_le _) (by omega)
  refine Ev.congr (fun k => (by unfold binderyref02_Fixed.f; rw [if_neg hnil])) (Ev.bind (f := fun k t142 => binderyref02_Fixed.j0 k s (t142 != (s.size : Int))) hc ?_)
  by_cases he : cntF s (s.size + 1) 0 = s.size
  ·rw [if_neg (fun h => h.elim h0 (fun h => h he)), he]
   have hd := cntF_digits s (s.size + 1) 0 (by omega) (Nat.zero_le _) he
   refine evS 1 (fixl_ref s hs (fun j hj => hd j (Nat.zero_le _) hj) (s.size + 1) 0 0 (Nat.zero_le _) (by omega) (by decide) (by decide)) (fun n hn => ?_)
   rw [show (((s.size : Nat) : Int) != (s.size : Int)) = false from bne_self_eq_false _, binderyref02_Fixed.j0, if_neg (by decide)]
   rfl
  ·rw [if_pos (.inr he)]
   refine evE 1 (fun n hn => ?_)
   rw [show (((cntF s (s.size + 1) 0 : Nat) : Int) != (s.size : Int)) = true from bne_iff_ne.2 (by omega), binderyref02_Fixed.j0, if_pos rfl]
theorem loose_ref (s : ByteArray) (hs : s.size ≤ 2000) : Ev (fun k => binderyref02_Loose.f k s) (looseF s) := by
 have hr := fixedF_range (restF s)
 have hw : wrap64 (-(fixedF (restF s)).1) = -(fixedF (restF s)).1 := w64 (by omega) (by omega)
 have hf := fixed_ref (restF s) (Nat.le_trans (restF_size s) hs)
 unfold looseF
 by_cases h0 : s.size = 0
 ·have hnil := (nil_size s).2 h0
  have hm : minusF s = false := decide_eq_false (fun h => by omega)
  have hre : restF s = s := if_neg (fun h => by omega)
  rw [hm, if_neg (by decide), hre]
  rw [hre] at hf
  have e : Ev (fun k => (binderyref02_Fixed.f k s).bind fun b => some (b.1, b.2)) ((fixedF s).1, (fixedF s).2) := Ev.bind (f := fun _ b => some (b.1, b.2)) hf (Ev.now _)
  refine evS 2 e (fun n hn => ?_)
  unfold binderyref02_Loose.f
  rw [if_pos hnil, binderyref02_Loose.j0, if_pos hnil, binderyref02_Loose.j1, if_neg (by decide)]
  rfl
 ·have hnil : ¬ s.toList = ([] : List UInt8) := fun h => h0 ((nil_size s).1 h)
  have p0 : 0 < (s.size : Int) := by omega
  have p1 : 1 ≤ (s.size : Int) := by omega
  by_cases h45 : bt s 0 = 45
  ·have hm : minusF s = true := decide_eq_true ⟨by omega, h45⟩
   have hre : restF s = s.extract 1 s.size := if_pos ⟨by omega, .inr h45⟩
   rw [hm, if_pos rfl]
   have e : Ev (fun k => (binderyref02_Fixed.f k (restF s)).bind fun b => some (wrap64 (-b.1), b.2)) (-(fixedF (restF s)).1, (fixedF (restF s)).2) := Ev.bind (f := fun _ b => some (wrap64 (-b.1), b.2)) hf (by rw [hw]; exact Ev.now _)
   refine evS 2 e (fun n hn => ?_)
   unfold binderyref02_Loose.f
   rw [if_neg hnil, if_pos p0, show (bt s 0 == 45) = true from beq_iff_eq.2 h45, binderyref02_Loose.j0, if_neg hnil, if_pos p0, if_neg (by rw [h45]; decide), show (bt s 0 == 45) = true from beq_iff_eq.2 h45, binderyref02_Loose.j1, if_pos rfl, if_pos p1, hre]
   rfl
  ·have hm : minusF s = false := decide_eq_false (fun h => h45 h.2)
   have t45 : (bt s 0 == 45) = false := beq_false_of_ne h45
   rw [hm, if_neg (by decide)]
   have e : Ev (fun k => (binderyref02_Fixed.f k (restF s)).bind fun b => some (b.1, b.2)) ((fixedF (restF s)).1, (fixedF (restF s)).2) := Ev.bind (f := fun _ b => some (b.1, b.2)) hf (Ev.now _)
   by_cases h43 : bt s 0 = 43
   ·have hre : restF s = s.extract 1 s.size := if_pos ⟨by omega, .inl h43⟩
    refine evS 2 e (fun n hn => ?_)
    unfold binderyref02_Loose.f
    rw [if_neg hnil, if_pos p0, t45, binderyref02_Loose.j0, if_neg hnil, if_pos p0, if_pos h43, binderyref02_Loose.j1, if_pos rfl, if_pos p1, hre]
    rfl
   ·have hre : restF s = s := if_neg (fun h => h.2.elim h43 h45)
    refine evS 2 e (fun n hn => ?_)
    unfold binderyref02_Loose.f
    rw [if_neg hnil, if_pos p0, t45, binderyref02_Loose.j0, if_neg hnil, if_pos p0, if_neg h43, t45, binderyref02_Loose.j1, if_neg (by decide), hre]
    rfl
def toW (p : Nat) (r : Int × Int × Int × ByteArray × Nat) : Int × Int × ByteArray × Int × Int × Int := if r.1 = 0 then (r.2.1, r.2.2.1, r.2.2.2.1, (p : Int), (r.2.2.2.2 : Int), 0) else (0, 0, ⟨#[]⟩, 0, 0, r.1)
theorem span_ref (s : ByteArray) (hs : s.size ≤ 2000) (ks : List Int) (hk : ks.length ≤ 20) (p : Nat) (hp : p ≤ s.size) : Ev (fun k => binderyref01_Span.f k s (p : Int) ks) ((spanN ks s p : Nat) : Int) := by
 have h := span_outer s ks hs hk s.size p 0 (by omega) hp (Nat.zero_le _)
 rw [Nat.zero_add] at h
 refine Ev.congr (fun k => ?_) h
 unfold binderyref01_Span.f
 rw [if_neg (by omega)]; rfl
theorem word_ref (s : ByteArray) (hs : s.size ≤ 2000) (p : Nat) (hp : p ≤ s.size) : Ev (fun k => binderyref15_word.f k s (p : Int)) (toW p (wordF s p)) := by
 have hsp := spanN_le [2] s p hp
 have hd := wordF_def (s := s) (p := p) rfl rfl rfl rfl
 rw [hd]
 have hS := span_ref s hs [2] (by decide) p hp
 generalize spanN [2] s p = m at hsp hS ⊢
 have hts : (s.extract p (p + m)).size = m := by rw [ByteArray.size_extract]; omega
 have hL := loose_ref (s.extract p (p + m)) (by omega)
 have w1 : wrap64 ((p : Int) + (m : Int)) = ((p + m : Nat) : Int) := by rw [w64 (by omega) (by omega)]; omega
 have p0 : (0 : Int) ≤ (p : Int) := by omega
 have p1 : (p : Int) ≤ ((p + m : Nat) : Int) := by omega
 have p2 : ((p + m : Nat) : Int) ≤ (s.size : Int) := by omega
 generalize looseF (s.extract p (p + m)) = x at hL ⊢
 obtain ⟨n, c⟩ := x
 unfold binderyref15_word.f
 refine Ev.bind hS ?_
 dsimp only
 simp only [w1, if_pos p0, if_pos p1, if_pos p2, Int.toNat_natCast]
 refine Ev.bind hL ?_
 dsimp only
 by_cases h0 : c = 0
 ·subst h0
  simp only [if_true]
  exact Ev.now _
 ·by_cases h3 : c = 3
  ·subst h3
   simp only [if_neg h0, if_true]
   exact Ev.now _
  ·rw [if_neg h0, if_neg h3, hts]
   by_cases h8 : 127 < m
   ·rw [if_pos h8]
    refine Ev.congr (fun k => ?_) (Ev.now _)
    rw [if_neg h0, if_neg h3, if_pos (by omega)]; rfl
   ·rw [if_neg h8]
    refine Ev.congr (fun k => ?_) (Ev.now _)
    rw [if_neg h0, if_neg h3, if_neg (by omega)]; rfl
end Go.Proofs.Ytkmmmlbppobifaa.Hand
