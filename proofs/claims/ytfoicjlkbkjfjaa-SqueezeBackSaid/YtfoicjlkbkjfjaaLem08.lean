/- Layer 8: what the document's own functions tell, and the reader's contract at any question. -/
import Derived.Test.YtfoicjlkbkjfjaaHand08w
import Derived.Test.YtfoicjlkbkjfjaaP08x
namespace Go.Proofs.Ytfoicjlkbkjfjaa.Hand
open Go.RowKit Go.Proofs.YtfoicjlkbkjfjaaW.PrintWords Go.Proofs.YtfoicjlkbkjfjaaW.PrintLast Go.Proofs.Ytfoicjlkbkjfjaa.Num Go.Proofs.Ytfoicjlkbkjfjaa.Bits Go.Proofs.Ytfoicjlkbkjfjaa.P08
set_option linter.unusedVariables false

theorem ev_step {α : Type} {g f : Nat → Option α} {r : α} (h : Ev f r) (hs : ∀ k, g (k + 1) = f k) : Ev g r := by
  obtain ⟨K, h⟩ := h
  exact ⟨K + 1, fun k hk => by
    obtain ⟨k, rfl⟩ : ∃ m, k = m + 1 := ⟨k - 1, by omega⟩
    rw [hs k]
    exact h k (by omega)⟩
theorem ev_now {α : Type} {g : Nat → Option α} {r : α} (hs : ∀ k, g (k + 1) = some r) : Ev g r := ⟨1, fun k hk => by
  obtain ⟨k, rfl⟩ : ∃ m, k = m + 1 := ⟨k - 1, by omega⟩
  exact hs k⟩
theorem power_l (n : Nat) (hn : n ≤ 60) : ∀ (d i : Nat), i + d = n → ∀ k, d < k → binderyref08_power.l0 k n (2 ^ i) i = some (2 ^ n)
  | 0, i, hd, k, hk => by
    obtain ⟨k, rfl⟩ : ∃ m, k = m + 1 := ⟨k - 1, by omega⟩
    simp only [binderyref08_power.l0]
    rw [if_neg (by omega), show i = n by omega]
  | d + 1, i, hd, k, hk => by
    obtain ⟨k, rfl⟩ : ∃ m, k = m + 1 := ⟨k - 1, by omega⟩
    have hp := pow_le (show i ≤ 60 by omega)
    have hp0 := pow_pos' i
    simp only [binderyref08_power.l0]
    rw [if_pos (by omega), w64 (by omega) (by omega), w64 (by omega) (by omega), show (i : Int) + 1 = ((i + 1 : Nat) : Int) by omega, show (2 : Int) * 2 ^ i = 2 ^ (i + 1) by rw [Int.pow_succ, Int.mul_comm]]
    exact power_l n hn d (i + 1) (by omega) k (by omega)
theorem power_f (n : Nat) (hn : n ≤ 60) (k : Nat) (hk : n < k) : binderyref08_power.f k n = some (2 ^ n) := power_l n hn n 0 (by omega) k hk
theorem bit_f (s : ByteArray) (i : Nat) (hi : i < 8 * s.size) (hs : s.size ≤ 1000000) (k : Nat) (hk : 8 ≤ k) : binderyref08_Bit.f k s i = some (bitA s i) := by
  have hb := bt_range s ((i / 8 : Nat) : Int)
  have hp := pow_pos' (i % 8)
  have hp8 := pow_le (show i % 8 ≤ 8 by omega)
  unfold binderyref08_Bit.f
  have e1 : Int.tdiv (i : Int) 8 = ((i / 8 : Nat) : Int) := (td _ (by omega)).trans (by omega)
  have e2 : Int.tmod (i : Int) 8 = ((i % 8 : Nat) : Int) := (tm _ (by omega)).trans (by omega)
  rw [e1, e2, w64 (x := ((i / 8 : Nat) : Int)) (by omega) (by omega), if_pos (by omega), if_pos (by omega), power_f (i % 8) (by omega) k (by omega), Option.bind_some, if_neg (by omega), w64 (x := bt s _) (by omega) (by omega), td _ hb.1]
  have h1 : 0 ≤ bt s ((i / 8 : Nat) : Int) / 2 ^ (i % 8) := Int.ediv_nonneg hb.1 (Int.le_of_lt hp)
  have h2 : bt s ((i / 8 : Nat) : Int) / 2 ^ (i % 8) ≤ bt s ((i / 8 : Nat) : Int) := Int.ediv_le_self _ hb.1
  rw [w64 (by omega) (by omega), tm _ h1]
  rfl
theorem val_head (s : ByteArray) (p m : Nat) : val s p (m + 1) = bitA s p + 2 * val s (p + 1) m := by
  rw [Nat.add_comm m 1, val_add]
  simp [val]
theorem get_l (s : ByteArray) (hs : s.size ≤ 1000000) (p w : Nat) (hw : w ≤ 16) (hp : p + w ≤ 8 * s.size) : ∀ (i : Nat), i ≤ w →
    Ev (fun k => binderyref08_Get.l0 k s p w (val s (p + i) (w - i)) ((i : Int) - 1)) (val s p w, ((p + w : Nat) : Int), 0)
  | 0, hi => ev_now fun k => by
    simp only [binderyref08_Get.l0]
    rw [if_neg (by omega), w64 (by omega) (by omega)]
    simp
  | i + 1, hi => by
    obtain ⟨K, h⟩ := get_l s hs p w hw hp i (by omega)
    have hv := val_range s (p + (i + 1)) (w - (i + 1))
    have hp16 := pow_le (show w - (i + 1) ≤ 16 by omega)
    have hb := bitA_range s (p + i)
    refine ⟨K + 10, fun k hk => ?_⟩
    obtain ⟨k, rfl⟩ : ∃ m, k = m + 1 := ⟨k - 1, by omega⟩
    have h := h k (by omega)
    dsimp only at h ⊢
    simp only [binderyref08_Get.l0]
    have e1 : ((i + 1 : Nat) : Int) - 1 = (i : Int) := by omega
    have e2 : (p : Int) + (i : Int) = ((p + i : Nat) : Int) := by omega
    rw [e1, if_pos (by omega), e2, w64 (x := ((p + i : Nat) : Int)) (by omega) (by omega), bit_f s (p + i) (by omega) hs k (by omega), Option.bind_some, w64 (x := 2 * val s (p + (i + 1)) (w - (i + 1))) (by omega) (by omega), w64 (x := 2 * val s (p + (i + 1)) (w - (i + 1)) + bitA s (p + i)) (by omega) (by omega), w64 (by omega) (by omega)]
    rw [show w - i = (w - (i + 1)) + 1 by omega, val_head] at h
    rw [show 2 * val s (p + (i + 1)) (w - (i + 1)) + bitA s (p + i) = bitA s (p + i) + 2 * val s (p + i + 1) (w - (i + 1)) by rw [Nat.add_assoc]; omega]
    exact h
/-- What is got at any width: the document's answer, and the reader's. -/
theorem get_any (s : ByteArray) (hs : s.size ≤ 1000000) (p : Nat) (hp : p ≤ 8 * s.size) (N : Int) (hN : (Lit.int .i64 N).wf = true) : ∃ (m e : Int) (p' : Nat), p' ≤ 8 * s.size ∧ (∃ k, binderyref08_Get.f k s p N = some (m, (p' : Int), e)) ∧
    ∀ (W : World) (g : Nat), RdAt W g s p → Calls Try.prog 62 #[.pointer (some ⟨g, 0, none⟩), .int .i64 N] W fun e' w' => e' = .returned (.tuple #[.int .i64 m, .int .i64 e]) ∧ RdAt w' g s p' ∧ Fr W w' (· = g) := by
  have hwf := wf64 hN
  have hdr : ∀ {W w' : World} {g : Nat}, Drawn0 W w' → Fr W w' (· = g) := fun h => Fr.of_drawn h _
  by_cases h1 : N < 0 ∨ 16 < N
  · refine ⟨0, 2, p, hp, ⟨1, ?_⟩, fun W g h => (rd_get_arg W g N h1).mono fun e' w' hh => ⟨hh.1, h.drawn hh.2, hdr hh.2⟩⟩
    unfold binderyref08_Get.f
    by_cases h0 : N < 0
    · rw [if_pos h0]; simp only [binderyref08_Get.j0]; rw [if_pos trivial]
    · rw [if_neg h0, decide_eq_true (by omega)]; simp only [binderyref08_Get.j0]; rw [if_pos trivial]
  · obtain ⟨k, rfl⟩ := Int.eq_ofNat_of_zero_le (show 0 ≤ N by omega)
    by_cases h2 : p + k ≤ 8 * s.size
    · refine ⟨val s p k, 0, p + k, h2, ?_, fun W g h => rd_get W g s p k h (by omega) (by omega) h2⟩
      have h := get_l s hs p k (by omega) h2 k (Nat.le_refl _)
      rw [Nat.sub_self, val] at h
      have h3 : Ev (fun q => binderyref08_Get.f q s p k) (val s p k, ((p + k : Nat) : Int), 0) := by
        refine ev_step h (fun q => ?_)
        unfold binderyref08_Get.f
        rw [if_neg (by omega), decide_eq_false (by omega)]
        simp only [binderyref08_Get.j0]
        rw [if_neg (by decide), w64 (x := 8 * (s.size : Int)) (by omega) (by omega), w64 (x := 8 * (s.size : Int) - (p : Int)) (by omega) (by omega), if_neg (by omega), w64 (by omega) (by omega)]
      exact h3.rounds
    · refine ⟨0, 5, p, hp, ⟨1, ?_⟩, fun W g h => (rd_get_short W g s p k h (by omega) (by omega) (by omega)).mono fun e' w' hh => ⟨hh.1, h.drawn hh.2, hdr hh.2⟩⟩
      unfold binderyref08_Get.f
      rw [if_neg (by omega), decide_eq_false (by omega)]
      simp only [binderyref08_Get.j0]
      rw [if_neg (by decide), w64 (x := 8 * (s.size : Int)) (by omega) (by omega), w64 (x := 8 * (s.size : Int) - (p : Int)) (by omega) (by omega), if_pos (by omega)]
theorem whole_f (p : Nat) (hp : p ≤ 8000000) : binderyref08_Whole.f (p : Int) = some ((8 * rdAt p : Nat) : Int) := by
  unfold binderyref08_Whole.f rdAt
  rw [w64 (x := (p : Int) + 7) (by omega) (by omega), td _ (by omega), w64 (x := ((p : Int) + 7) / 8) (by omega) (by omega), w64 (by omega) (by omega)]
  congr 1; omega
theorem bytes_any (s : ByteArray) (hs : s.size ≤ 1000000) (p : Nat) (hp : p ≤ 8 * s.size) (N : Int) (hN : (Lit.int .i64 N).wf = true) : ∃ (m : ByteArray) (e : Int) (p' : Nat), p' ≤ 8 * s.size ∧ binderyref08_Bytes.f s p N = some (m, (p' : Int), e) ∧
    ∀ (W : World) (g : Nat), RdAt W g s p → Calls Try.prog 78 #[.pointer (some ⟨g, 0, none⟩), .int .i64 N] W fun e' w' => e' = .returned (.tuple #[.string m, .int .i64 e]) ∧ RdAt w' g s p' ∧ Fr W w' (· = g) := by
  have hwf := wf64 hN
  have hdr : ∀ {W w' : World} {g : Nat}, Drawn0 W w' → Fr W w' (· = g) := fun h => Fr.of_drawn h _
  have hra : rdAt p ≤ s.size := by unfold rdAt; omega
  unfold binderyref08_Bytes.f
  by_cases h0 : N < 0
  · exact ⟨⟨#[]⟩, 2, p, hp, by rw [if_pos h0], fun W g h => (rd_bytes_arg W g N h0).mono fun e' w' hh => ⟨hh.1, h.drawn hh.2, hdr hh.2⟩⟩
  · obtain ⟨n, rfl⟩ := Int.eq_ofNat_of_zero_le (show 0 ≤ N by omega)
    have e1 : Int.tdiv ((8 * rdAt p : Nat) : Int) 8 = (rdAt p : Int) := (td _ (by omega)).trans (by omega)
    rw [if_neg h0, whole_f p (by omega), Option.bind_some, e1, w64 (x := (rdAt p : Int)) (by omega) (by omega), w64 (x := (s.size : Int) - (rdAt p : Int)) (by omega) (by omega)]
    by_cases h2 : rdAt p + n ≤ s.size
    · refine ⟨s.extract (rdAt p) (rdAt p + n), 0, 8 * (rdAt p + n), by omega, ?_, fun W g h => rd_bytes W g s p n h (by omega) h2⟩
      rw [if_neg (by omega), w64 (x := (rdAt p : Int) + (n : Int)) (by omega) (by omega), if_pos (by omega), if_pos (by omega), if_pos (by omega), w64 (by omega) (by omega), Int.toNat_natCast, show ((rdAt p : Int) + (n : Int)).toNat = rdAt p + n by omega]
      congr 3
    · refine ⟨⟨#[]⟩, 5, p, hp, by rw [if_pos (by omega)], fun W g h => (rd_bytes_short W g s p n h (by omega) (by omega)).mono fun e' w' hh => ⟨hh.1, h.drawn hh.2, hdr hh.2⟩⟩
end Go.Proofs.Ytfoicjlkbkjfjaa.Hand
