/- How many bytes of any text are of any kinds, from any place on, and how long an end of a line is there: as the document says. -/
import Derived.Test.YthghjdajohcedaaP01sx
import Derived.Test.YthghjdajohcedaaNum
namespace Go.Proofs.Ythghjdajohcedaa.Pure
open Go.RowKit Go.Proofs.Ythghjdajohcedaa.P01s Go.Proofs.YthghjdajohcedaaW.PrintWords Go.Proofs.YthghjdajohcedaaW.PrintLast Go.Proofs.Ythghjdajohcedaa.Hand Go.Proofs.Ythghjdajohcedaa.Num
set_option linter.unusedVariables false

theorem kref_all : ∀ c : Fin 256, binderyref01_Kind.f 20 ((c.val : Nat) : Int) = some (kF ((c.val : Nat) : Int)) := by decide +kernel
theorem kref (s : ByteArray) (i : Int) : ∀ k, 20 ≤ k → binderyref01_Kind.f k (bt s i) = some (kF (bt s i)) := by
  have h := bt_range s i
  obtain ⟨m, hm⟩ := Int.eq_ofNat_of_zero_le h.1
  have h0 := kref_all ⟨m, by omega⟩
  rw [hm]
  have h1 : ∀ d, binderyref01_Kind.f (20 + d) (m : Int) = some (kF (m : Int)) := by
    intro d
    induction d with
    | zero => exact h0
    | succ d ih => exact binderyref01_Kind.mono _ _ _ ih
  intro k hk
  obtain ⟨d, rfl⟩ : ∃ d, k = 20 + d := ⟨k - 20, by omega⟩
  exact h1 d
theorem ev20 {α : Type} {g f : Nat → Option α} {r : α} (h : Ev f r) (hs : ∀ k, 20 ≤ k → g (k + 1) = f k) : Ev g r := by
  obtain ⟨K, h⟩ := h
  exact ⟨K + 21, fun k hk => by
    obtain ⟨k, rfl⟩ : ∃ m, k = m + 1 := ⟨k - 1, by omega⟩
    rw [hs k (by omega)]
    exact h k (by omega)⟩
theorem span_inner (s : ByteArray) (ks : List Int) (hs : s.size ≤ 2000) (hk : ks.length ≤ 20) (p x : Nat) (hp : p < s.size) (hx : x ≤ p) (r : Int) : ∀ (d j : Nat) (found : Bool), j + d = ks.length →
    ((found || (ks.drop j).contains (kF (bt s (p : Int)))) = true → Ev (fun k => binderyref01_Span.l0 k s ks ((x : Int) + 1) ((p : Int) + 1)) r) →
    ((found || (ks.drop j).contains (kF (bt s (p : Int)))) = false → r = (x : Int)) → Ev (fun k => binderyref01_Span.l1 k s ks x p found j) r := by
  intro d
  induction d with
  | zero =>
    intro j found hj h1 h2
    have ej : j = ks.length := by omega
    rw [ej, List.drop_length, List.contains_nil, Bool.or_false] at h1 h2
    rw [ej]
    cases found with
    | true =>
      refine ev20 (h1 rfl) (fun k _ => ?_)
      simp only [binderyref01_Span.l1]
      rw [if_neg (by omega), if_pos trivial, w64 (by omega) (by omega), w64 (by omega) (by omega)]
    | false =>
      refine ⟨1, fun k hk => ?_⟩
      obtain ⟨k, rfl⟩ : ∃ m, k = m + 1 := ⟨k - 1, by omega⟩
      simp only [binderyref01_Span.l1]
      rw [if_neg (by omega), if_neg (by decide), h2 rfl]
  | succ d ih =>
    intro j found hj h1 h2
    have hd : ks.drop j = rd ks (j : Int) :: ks.drop (j + 1) := by
      rw [List.drop_eq_getElem_cons (show j < ks.length by omega), rd, Int.toNat_natCast, List.getD_eq_getElem?_getD, List.getElem?_eq_getElem (show j < ks.length by omega)]; rfl
    rw [hd, List.contains_cons, ← Bool.or_assoc] at h1 h2
    have ew : (j : Int) + 1 = ((j + 1 : Nat) : Int) := by omega
    cases found with
    | true =>
      have e := ih (j + 1) true (by omega) (fun h => h1 (by simp)) (fun h => by simp at h)
      refine ev20 e (fun k _ => ?_)
      simp only [binderyref01_Span.l1]
      rw [if_pos (by omega), if_pos trivial, w64 (by omega) (by omega), ew]
    | false =>
      rw [Bool.false_or] at h1 h2
      have e := ih (j + 1) (kF (bt s (p : Int)) == rd ks (j : Int)) (by omega) h1 h2
      refine ev20 e (fun k hk2 => ?_)
      simp only [binderyref01_Span.l1]
      rw [if_pos (by omega), if_neg (by decide), if_pos (by omega), if_pos (by omega), kref s p k hk2, Option.bind_some, if_pos (by omega), w64 (by omega) (by omega), ew]
theorem span_outer (s : ByteArray) (ks : List Int) (hs : s.size ≤ 2000) (hk : ks.length ≤ 20) : ∀ (m p x : Nat), s.size - p ≤ m → p ≤ s.size → x ≤ p →
    Ev (fun k => binderyref01_Span.l0 k s ks x p) ((x + spanL ks ((bytesOf s).drop p) : Nat) : Int) := by
  intro m
  induction m with
  | zero =>
    intro p x hm hp hx
    refine ⟨1, fun k hk => ?_⟩
    obtain ⟨k, rfl⟩ : ∃ m, k = m + 1 := ⟨k - 1, by omega⟩
    simp only [binderyref01_Span.l0]
    rw [if_neg (by omega), List.drop_eq_nil_of_le (by rw [bytesOf_length]; omega), spanL, Nat.add_zero]
  | succ m ih =>
    intro p x hm hp hx
    by_cases hlt : p < s.size
    · rw [drop_bytes s p hlt, spanL]
      have e := span_inner s ks hs hk p x hlt hx ((x + (if ks.contains (kF (bt s (p : Int))) = true then spanL ks ((bytesOf s).drop (p + 1)) + 1 else 0) : Nat) : Int) ks.length 0 false (by omega) (fun h => by
        rw [List.drop_zero, Bool.false_or] at h
        rw [if_pos h]
        have := ih (p + 1) (x + 1) (by omega) (by omega) (by omega)
        rw [show x + 1 + spanL ks ((bytesOf s).drop (p + 1)) = x + (spanL ks ((bytesOf s).drop (p + 1)) + 1) by omega] at this
        exact this) (fun h => by
        rw [List.drop_zero, Bool.false_or] at h
        rw [h, if_neg (by decide), Nat.add_zero])
      refine ev20 e (fun k _ => ?_)
      simp only [binderyref01_Span.l0]
      rw [if_pos (by omega)]
      rfl
    · refine ⟨1, fun k hk => ?_⟩
      obtain ⟨k, rfl⟩ : ∃ m, k = m + 1 := ⟨k - 1, by omega⟩
      simp only [binderyref01_Span.l0]
      rw [if_neg (by omega), List.drop_eq_nil_of_le (by rw [bytesOf_length]; omega), spanL, Nat.add_zero]
theorem span_ev (s : ByteArray) (at_ : Int) (ks : List Int) (hs : s.size ≤ 2000) (hk : ks.length ≤ 20) : ∃ r, octet_Span.f s at_ ks = some r ∧ Ev (fun k => binderyref01_Span.f k s at_ ks) r := by
  unfold octet_Span.f binderyref01_Span.f
  rw [if_pos (by omega)]
  by_cases h0 : at_ < 0
  · rw [if_neg (by omega)]
    exact ⟨0, rfl, 0, fun k _ => by dsimp only; rw [if_pos h0]⟩
  · obtain ⟨p, rfl⟩ := Int.eq_ofNat_of_zero_le (show 0 ≤ at_ by omega)
    by_cases h1 : p < s.size
    · rw [if_pos (by omega), Int.toNat_natCast]
      obtain ⟨K, e⟩ := span_outer s ks hs hk (s.size - p) p 0 (by omega) (by omega) (by omega)
      refine ⟨_, rfl, K, fun k hk => ?_⟩
      have := e k hk
      dsimp only at this ⊢
      rw [if_neg h0]
      rw [Nat.zero_add] at this
      exact this
    · rw [if_neg (by omega)]
      refine ⟨0, rfl, 1, fun k hk => ?_⟩
      obtain ⟨k, rfl⟩ : ∃ m, k = m + 1 := ⟨k - 1, by omega⟩
      dsimp only
      rw [if_neg h0]
      simp only [binderyref01_Span.l0]
      rw [if_neg (by omega)]
theorem ends_eq (s : ByteArray) (at_ : Int) (hs : s.size ≤ 2000) : ∃ r, octet_Ends.f s at_ = some r ∧ binderyref01_Ends.f s at_ = some r := by
  unfold binderyref01_Ends.f
  rw [if_pos (by omega)]
  by_cases h : 0 ≤ at_ ∧ at_ < (s.size : Int)
  · rw [if_pos h]
    obtain ⟨p, rfl⟩ := Int.eq_ofNat_of_zero_le h.1
    exact ⟨_, ends_f s p (by omega) (by omega), rfl⟩
  · rw [if_neg h]
    refine ⟨0, ?_, rfl⟩
    unfold octet_Ends.f octet_within.f
    by_cases h0 : at_ ≥ 0
    · rw [if_pos h0, Option.bind_some, if_neg (by rw [decide_eq_true_eq]; omega)]
    · rw [if_neg h0, Option.bind_some, if_neg (by decide)]
theorem OctetSpans : binderylaw01_OctetSpans.Pure := by
  intro s at_ ks hs ha hk hk2 hkr
  unfold binderylaw01_OctetSpans.f
  by_cases h0 : (s.size : Int) > 2000
  · exact ⟨1, by rw [if_pos h0]; rfl⟩
  · by_cases h1 : (ks.length : Int) > 20
    · exact ⟨1, by rw [if_neg h0, decide_eq_true h1]; rfl⟩
    · obtain ⟨r, e1, K, e2⟩ := span_ev s at_ ks (by omega) (by omega)
      obtain ⟨q, e3, e4⟩ := ends_eq s at_ (by omega)
      dsimp only at e2
      refine ⟨K + 1, ?_⟩
      rw [if_neg h0, decide_eq_false h1]
      simp only [binderylaw01_OctetSpans.j0]
      have e5 : octet_Ends.f s at_ = some q := e3
      rw [if_neg (by decide), e1, Option.bind_some, e2 K (by omega), Option.bind_some, if_pos rfl, e5, Option.bind_some, e4, Option.bind_some, if_pos rfl]
      rfl
end Go.Proofs.Ythghjdajohcedaa.Pure
