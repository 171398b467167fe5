/- Layer 8: what the document's own functions tell, and the reader's contract at any question. The document's own Put of layer 8: it may hand its row back, so it is walked by hand. -/
import Derived.Test.YtbgdadehjnifeaaGreatHand08w
import Derived.Test.YtbgdadehjnifeaaGreatP08x1
namespace Go.Proofs.YtbgdadehjnifeaaGreat.Hand
open Go.RowKit Go.Proofs.YtbgdadehjnifeaaGreatW.PrintWords Go.Proofs.YtbgdadehjnifeaaGreatW.PrintLast Go.Proofs.YtbgdadehjnifeaaGreat.Num Go.Proofs.YtbgdadehjnifeaaGreat.Bits Go.Proofs.YtbgdadehjnifeaaGreat.P08
set_option linter.unusedVariables false
theorem ev_step {α : Type} {g f : Nat → Option α} {r : α} (h : Ev f r) (hs : ∀ k, g (k + 1) = f k) : Ev g r := by
 obtain ⟨K, h⟩ := h
 exact ⟨K + 1, fun k hk => by
  obtain ⟨k, rfl⟩ : ∃ m, k = m + 1 := ⟨k - 1, by omega⟩
  rw [hs k]
  exact h k (by omega)⟩
theorem ev_now {α : Type} {g : Nat → Option α} {r : α} (hs : ∀ k, g (k + 1) = some r) : Ev g r := ⟨1, fun k hk => by
 obtain ⟨k, rfl⟩ : ∃ m, k = m + 1 := ⟨k - 1, by omega⟩
 exact hs k⟩
theorem power_l (n : Nat) (hn : n ≤ 60) : ∀ (d i : Nat), i + d = n → ∀ k, d < k → binderyref08_power.l0 k n (2 ^ i) i = some (2 ^ n)
 | 0, i, hd, k, hk => by
  obtain ⟨k, rfl⟩ : ∃ m, k = m + 1 := ⟨k - 1, by omega⟩
  simp only [binderyref08_power.l0]
  rw [if_neg (by omega), show i = n by omega]
 | d + 1, i, hd, k, hk => by
  obtain ⟨k, rfl⟩ : ∃ m, k = m + 1 := ⟨k - 1, by omega⟩
  have hp := pow_le (show i ≤ 60 by omega)
  have hp0 := pow_pos' i
  simp only [binderyref08_power.l0]
  rw [if_pos (by omega), w64 (by omega) (by omega), w64 (by omega) (by omega), show (i : Int) + 1 = ((i + 1 : Nat) : Int) by omega, show (2 : Int) * 2 ^ i = 2 ^ (i + 1) by rw [Int.pow_succ, Int.mul_comm]]
  exact power_l n hn d (i + 1) (by omega) k (by omega)
theorem power_f (n : Nat) (hn : n ≤ 60) (k : Nat) (hk : n < k) : binderyref08_power.f k n = some (2 ^ n) := power_l n hn n 0 (by omega) k hk
end Go.Proofs.YtbgdadehjnifeaaGreat.Hand
namespace Go.Proofs.YtbgdadehjnifeaaGreat.Hand
open Go.RowKit Go.Proofs.YtbgdadehjnifeaaGreatW.PrintWords Go.Proofs.YtbgdadehjnifeaaGreatW.PrintLast Go.Proofs.YtbgdadehjnifeaaGreatW.PrintMore Go.Proofs.YtbgdadehjnifeaaGreat.Num Go.Proofs.YtbgdadehjnifeaaGreat.Bits Go.Proofs.YtbgdadehjnifeaaGreat.P08
set_option linter.unusedVariables false
set_option linter.unusedSimpArgs false
theorem infoI64 : (Tryz.prog.info? 3).map (fun i => (i.zero, i.size, i.bytes)) = some (some (.int .i64 0), 1, 8) := by kernel_rfl
theorem Row.kdC {W : World} {B : Nat} {xs : List Int} {A : Option Addr} {n c : Nat} (h : Row W B 3 .i64 (.slice A n c) xs) : n = xs.length ∧ xs.length ≤ c ∧ Kd.C (Kd.int .i64) W A xs.length xs := by
 have h2 := Kd.R_reads' (d := Kd.int .i64) (Kd.R_of_own (ok := fun _ => True) h (fun _ _ => trivial))
 exact ⟨h2.1, by have := h2.2.1; omega, h2.2.2⟩
end Go.Proofs.YtbgdadehjnifeaaGreat.Hand
