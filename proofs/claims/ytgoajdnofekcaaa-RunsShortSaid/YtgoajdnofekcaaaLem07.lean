/- What the functions of layer 7, and the document's, tell: plain facts, without Go. -/
import Derived.Test.YtgoajdnofekcaaaP07x1
import Derived.Test.YtgoajdnofekcaaaNum
namespace Go.Proofs.Ytgoajdnofekcaaa.Lem07
open Go.RowKit Go.Proofs.Ytgoajdnofekcaaa.P07 Go.Proofs.Ytgoajdnofekcaaa.P07a Go.Proofs.YtgoajdnofekcaaaW.PrintWords Go.Proofs.YtgoajdnofekcaaaW.PrintLast Go.Proofs.Ytgoajdnofekcaaa.Hand Go.Proofs.Ytgoajdnofekcaaa.Num

theorem parts_ev : Ev binderylaw07_parts.f true := Ev.of binderylaw07_parts.mono (k := 20) (by decide +kernel)

/-- Decode ends. -/
theorem decL_total (room : Int) (n : Nat) : ∀ (s : ByteArray) (xs : List Int), s.size ≤ n → s.size ≤ 1000000 → xs.length + 1000 * s.size ≤ 1000000000000 → ∃ r, Ev (fun k => decL k s xs room) r := by
  induction n with
  | zero =>
    intro s xs hn hs hx
    exact ⟨_, 1, fun k hk => by
      obtain ⟨k, rfl⟩ : ∃ m, k = m + 1 := ⟨k - 1, by omega⟩
      simp only [decL]
      rw [if_pos ⟨hs, by omega⟩, if_pos (by omega)]⟩
  | succ n ih =>
    intro s xs hn hs hx
    by_cases h0 : s.size = 0
    · exact ⟨_, 1, fun k hk => by
        obtain ⟨k, rfl⟩ : ∃ m, k = m + 1 := ⟨k - 1, by omega⟩
        simp only [decL]
        rw [if_pos ⟨hs, by omega⟩, if_pos h0]⟩
    · by_cases h1 : bt s 0 = 128
      · exact ⟨_, 1, fun k hk => by
          obtain ⟨k, rfl⟩ : ∃ m, k = m + 1 := ⟨k - 1, by omega⟩
          simp only [decL]
          rw [if_pos ⟨hs, by omega⟩, if_neg h0, if_pos h1]
          exact (apply_ite some _ _ _).symm⟩
      · cases hp : partF s with
        | none =>
          exact ⟨_, 1, fun k hk => by
            obtain ⟨k, rfl⟩ : ∃ m, k = m + 1 := ⟨k - 1, by omega⟩
            simp only [decL]
            rw [if_pos ⟨hs, by omega⟩, if_neg h0, if_neg h1, hp]⟩
        | some p =>
          obtain ⟨ys, q⟩ := p
          obtain ⟨l1, l2, l3, l4⟩ := partF_le hp
          by_cases h2 : room < ((xs ++ ys).length : Int)
          · exact ⟨_, 1, fun k hk => by
              obtain ⟨k, rfl⟩ : ∃ m, k = m + 1 := ⟨k - 1, by omega⟩
              simp only [decL]
              rw [if_pos ⟨hs, by omega⟩, if_neg h0, if_neg h1, hp]
              simp only
              rw [if_pos h2]⟩
          · have e : (s.extract q s.size).size = s.size - q := by rw [ByteArray.size_extract]; omega
            obtain ⟨r, K, hr⟩ := ih (s.extract q s.size) (xs ++ ys) (by omega) (by omega) (by rw [List.length_append, e]; omega)
            exact ⟨r, K + 1, fun k hk => by
              obtain ⟨k, rfl⟩ : ∃ m, k = m + 1 := ⟨k - 1, by omega⟩
              simp only [decL]
              rw [if_pos ⟨hs, by omega⟩, if_neg h0, if_neg h1, hp]
              simp only
              rw [if_neg h2]
              exact hr k (by omega)⟩
end Go.Proofs.Ytgoajdnofekcaaa.Lem07
