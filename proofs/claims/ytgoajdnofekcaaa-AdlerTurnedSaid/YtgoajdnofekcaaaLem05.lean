/- What the functions of layer 5, and the document's, tell: plain facts, without Go. -/
import Derived.Test.YtgoajdnofekcaaaP05x3
import Derived.Test.YtgoajdnofekcaaaNum
namespace Go.Proofs.Ytgoajdnofekcaaa.Lem05
open Go.RowKit Go.Proofs.Ytgoajdnofekcaaa.P05 Go.Proofs.YtgoajdnofekcaaaW.PrintWords Go.Proofs.YtgoajdnofekcaaaW.PrintLast Go.Proofs.Ytgoajdnofekcaaa.Hand Go.Proofs.Ytgoajdnofekcaaa.Num

theorem sums_ev : Ev binderylaw05_sums.f true := Ev.of binderylaw05_sums.mono (k := 3) (by decide +kernel)

theorem refSum_l0 (s : ByteArray) (hs : s.size ≤ 140737488351232) (d : Nat) : ∀ (i k : Nat), i + d = s.size → d < k →
    binderyref05_Sum.l0 k s (adlerTo s (1, 0) i).1 (adlerTo s (1, 0) i).2 i = some (adlerOf (1, 0) s) := by
  induction d with
  | zero =>
    intro i k hi hk
    obtain ⟨k, rfl⟩ : ∃ m, k = m + 1 := ⟨k - 1, by omega⟩
    obtain rfl : i = s.size := by omega
    have hin := adlerTo_in s (p := (1, 0)) (by unfold adlerIn; omega) s.size
    unfold adlerIn at hin
    simp only [binderyref05_Sum.l0]
    rw [if_neg (by omega)]
    simp (disch := omega) only [w64]
    rfl
  | succ d ih =>
    intro i k hi hk
    obtain ⟨k, rfl⟩ : ∃ m, k = m + 1 := ⟨k - 1, by omega⟩
    have hin := adlerTo_in s (p := (1, 0)) (by unfold adlerIn; omega) i
    unfold adlerIn at hin
    have hb := bt_range s i
    simp only [binderyref05_Sum.l0]
    rw [if_pos (by omega), if_pos (by omega)]
    simp (disch := omega) only [w64, tm]
    exact ih (i + 1) k (by omega) (by omega)

theorem refSum_ev (s : ByteArray) (hs : s.size ≤ 140737488351232) : Ev (fun k => binderyref05_Sum.f k s) (adlerOf (1, 0) s) :=
  ⟨s.size + 1, fun k hk => refSum_l0 s hs s.size 0 k (by omega) (by omega)⟩

theorem decIs {a : Int} {b : Bool} (h : adlerIs a ↔ b = true) : b = decide (adlerIs a) := by
  rw [Bool.eq_iff_iff, decide_eq_true_iff]; exact h.symm
theorem refIs (a : Int) (h1 : a ≤ 9223372036854775807) : binderyref05_is.f a = some (decide (adlerIs a)) := by
  unfold binderyref05_is.f
  by_cases h : 0 ≤ a
  · rw [if_pos h, tm _ h, td _ h, w64 (by omega) (by omega)]
    by_cases h2 : a / 65536 < 65521
    · rw [if_pos h2]; congr 1; apply decIs; rw [decide_eq_true_iff]; unfold adlerIs; omega
    · rw [if_neg h2]; congr 1; apply decIs; unfold adlerIs; simp; omega
  · rw [if_neg h]; congr 1; apply decIs; unfold adlerIs; simp; omega
theorem isF (a : Int) (h1 : a ≤ 9223372036854775807) : adler_is.f a = some (decide (adlerIs a)) := by
  unfold adler_is.f adler_parted.f
  by_cases h : 0 ≤ a
  · rw [if_pos h]
    simp only [Option.bind_some]
    rw [tm _ h, td _ h, w64 (by omega) (by omega), tm _ (by omega), tm _ (by omega)]
    congr 1
    apply decIs
    rw [Bool.and_eq_true, beq_iff_eq, beq_iff_eq]
    unfold adlerIs
    omega
  · rw [if_neg h]; congr 1; apply decIs; unfold adlerIs; simp; omega

theorem refMore_l0 (s : ByteArray) (p : Int × Int) (hp : adlerIn p) (hs : s.size ≤ 140737488351232) (d : Nat) : ∀ (i k : Nat), i + d = s.size → d < k →
    binderyref05_More.l0 k s (adlerTo s p i).1 (adlerTo s p i).2 i = some (adlerOf p s, 0) := by
  induction d with
  | zero =>
    intro i k hi hk
    obtain ⟨k, rfl⟩ : ∃ m, k = m + 1 := ⟨k - 1, by omega⟩
    obtain rfl : i = s.size := by omega
    have hin := adlerTo_in s hp s.size
    unfold adlerIn at hin
    simp only [binderyref05_More.l0]
    rw [if_neg (by omega)]
    simp (disch := omega) only [w64]
    rfl
  | succ d ih =>
    intro i k hi hk
    obtain ⟨k, rfl⟩ : ∃ m, k = m + 1 := ⟨k - 1, by omega⟩
    have hin := adlerTo_in s hp i
    unfold adlerIn at hin
    have hb := bt_range s i
    simp only [binderyref05_More.l0]
    rw [if_pos (by omega), if_pos (by omega)]
    simp (disch := omega) only [w64, tm]
    exact ih (i + 1) k (by omega) (by omega)
theorem refMore_ev (a : Int) (s : ByteArray) (h0 : -9223372036854775808 ≤ a) (h1 : a ≤ 9223372036854775807) (hs : s.size ≤ 140737488351232) :
    Ev (fun k => binderyref05_More.f k a s) (if adlerIs a then (adlerOf (a % 65536, a / 65536) s, 0) else (0, 3)) := by
  refine ⟨s.size + 1, fun k hk => ?_⟩
  unfold binderyref05_More.f
  rw [refIs a h1]
  simp only [Option.bind_some]
  by_cases h : adlerIs a
  · rw [if_pos h, if_pos (by simpa using h)]
    have h' := h
    unfold adlerIs at h'
    rw [tm _ h'.1, td _ h'.1, w64 (by omega) (by omega)]
    exact refMore_l0 s (a % 65536, a / 65536) (by unfold adlerIn; simp only; omega) hs s.size 0 k (by omega) (by omega)
  · rw [if_neg h, if_neg (by simpa using h)]
theorem moreF (a : Int) (s : ByteArray) (h0 : -9223372036854775808 ≤ a) (h1 : a ≤ 9223372036854775807) (hs : s.size ≤ 140737488351232) :
    adler_More.f a s = some (if adlerIs a then (adlerOf (a % 65536, a / 65536) s, 0) else (0, 3)) := by
  unfold adler_More.f
  rw [if_pos ⟨hs, h0, h1⟩]
  split <;> rfl

/-- The sum of two, by their sums. -/
def adlerJoin (x y n : Int) : Int := (x / 65536 + y / 65536 + n % 65521 * ((x % 65536 + 65520) % 65521)) % 65521 * 65536 + (x % 65536 + 65520 + y % 65536) % 65521
theorem mul_small {a b : Int} (ha : 0 ≤ a) (ha' : a < 65521) (hb : 0 ≤ b) (hb' : b < 65521) : 0 ≤ a * b ∧ a * b ≤ 4293001441 := by
  have h1 : 0 ≤ a * b := Int.mul_nonneg ha hb
  have h2 : a * b ≤ 65521 * 65521 := Int.mul_le_mul (by omega) (by omega) hb (by omega)
  exact ⟨h1, by omega⟩
theorem joinF_ev (x y n : Int) (hx : x ≤ 9223372036854775807) (hy : y ≤ 9223372036854775807) (hn : n ≤ 9223372036854775807) :
    Ev (fun k => adler_Join.f k x y n) (if adlerIs x ∧ adlerIs y ∧ 0 ≤ n then (adlerJoin x y n, 0) else (0, 3)) := by
  refine ⟨1, fun k hk => ?_⟩
  obtain ⟨k, rfl⟩ : ∃ m, k = m + 1 := ⟨k - 1, by omega⟩
  unfold adler_Join.f
  rw [isF x hx, isF y hy]
  simp only [Option.bind_some, adler_Join.j0, adler_parted.f, adler_halves_told.f, decide_eq_true_iff]
  by_cases h1 : adlerIs x
  · rw [if_pos h1]
    by_cases h2 : adlerIs y
    · rw [if_pos h2]
      by_cases h3 : 0 ≤ n
      · rw [if_neg (by omega), if_pos ⟨h1, h2, h3⟩]
        unfold adlerIs at h1 h2
        obtain ⟨m0, m1⟩ := mul_small (a := n % 65521) (b := (x % 65536 + 65520) % 65521) (by omega) (by omega) (by omega) (by omega)
        have e : x % 65536 + 65521 - 1 = x % 65536 + 65520 := by omega
        simp (disch := omega) only [w64, tm, td, e]
        rfl
      · rw [if_pos (by omega), if_neg (fun h => h3 h.2.2)]
    · rw [if_neg h2, if_neg (show ¬ (adlerIs x ∧ adlerIs y ∧ 0 ≤ n) from fun h => h2 h.2.1)]; first | done | rfl | simp
  · rw [if_neg h1, if_neg (show ¬ (adlerIs x ∧ adlerIs y ∧ 0 ≤ n) from fun h => h1 h.1)]; first | done | rfl | simp
theorem refJoinF (x y n : Int) (hx : x ≤ 9223372036854775807) (hy : y ≤ 9223372036854775807) (hn : n ≤ 9223372036854775807) :
    binderyref05_Join.f x y n = some (if adlerIs x ∧ adlerIs y ∧ 0 ≤ n then (adlerJoin x y n, 0) else (0, 3)) := by
  unfold binderyref05_Join.f
  rw [refIs x hx, refIs y hy]
  simp only [Option.bind_some, decide_eq_true_iff]
  by_cases h1 : adlerIs x
  · rw [if_pos h1]
    by_cases h2 : adlerIs y
    · rw [if_pos h2]
      by_cases h3 : 0 ≤ n
      · rw [if_neg (by omega), if_pos ⟨h1, h2, h3⟩]
        unfold adlerIs at h1 h2
        obtain ⟨m0, m1⟩ := mul_small (a := n % 65521) (b := (x % 65536 + 65520) % 65521) (by omega) (by omega) (by omega) (by omega)
        have e : x % 65536 + 65521 - 1 = x % 65536 + 65520 := by omega
        have e2 : x % 65536 + y % 65536 + 65521 - 1 = x % 65536 + 65520 + y % 65536 := by omega
        simp (disch := omega) only [w64, tm, td, e, e2]
        rfl
      · rw [if_pos (by omega), if_neg (fun h => h3 h.2.2)]
    · rw [if_neg h2, if_neg (show ¬ (adlerIs x ∧ adlerIs y ∧ 0 ≤ n) from fun h => h2 h.2.1)]; first | done | rfl | simp
  · rw [if_neg h1, if_neg (show ¬ (adlerIs x ∧ adlerIs y ∧ 0 ≤ n) from fun h => h1 h.1)]; first | done | rfl | simp
end Go.Proofs.Ytgoajdnofekcaaa.Lem05
