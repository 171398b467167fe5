/- The sum of two texts is told by their sums and the second one's length, of any three texts of at most 5000 bytes each, and the page's examples come out. -/
import Derived.Test.YtgoajdnofekcaaaP05x3
import Derived.Test.YtgoajdnofekcaaaLem05
namespace Go.Proofs.Ytgoajdnofekcaaa.Pure
open Go.RowKit Go.Proofs.Ytgoajdnofekcaaa.P05 Go.Proofs.YtgoajdnofekcaaaW.PrintWords Go.Proofs.YtgoajdnofekcaaaW.PrintLast Go.Proofs.Ytgoajdnofekcaaa.Hand Go.Proofs.Ytgoajdnofekcaaa.Num Go.Proofs.Ytgoajdnofekcaaa.Lem05

/-- What halves come to behind a text hangs on where they began so. -/
theorem adlerTo_from (t : ByteArray) (p : Int × Int) (hp : p.1 < 65521 ∧ p.2 < 65521) (hi : adlerIn p) (k : Nat) :
    (adlerTo t p k).1 = ((adlerTo t (1, 0) k).1 + (p.1 - 1)) % 65521 ∧ (adlerTo t p k).2 = ((adlerTo t (1, 0) k).2 + p.2 + (k : Int) * (p.1 - 1)) % 65521 := by
  induction k with
  | zero => unfold adlerIn at hi; simp only [adlerTo]; omega
  | succ k ih =>
    obtain ⟨h1, h2⟩ := ih
    simp only [adlerTo, adlerGrow]
    rw [h1, h2]
    have e : ((k + 1 : Nat) : Int) * (p.1 - 1) = (k : Int) * (p.1 - 1) + (p.1 - 1) := by rw [Int.natCast_succ, Int.add_mul, Int.one_mul]
    rw [e]
    generalize (k : Int) * (p.1 - 1) = z
    omega
theorem adlerTo_cat_left (s t : ByteArray) (p : Int × Int) (k : Nat) (h : k ≤ s.size) : adlerTo (s ++ t) p k = adlerTo s p k := by
  induction k with
  | zero => rfl
  | succ k ih => rw [adlerTo, adlerTo, ih (by omega), bt_cat_left s t k (by simp; omega)]
theorem adlerTo_cat_right (s t : ByteArray) (p : Int × Int) (k : Nat) (h : k ≤ t.size) : adlerTo (s ++ t) p (s.size + k) = adlerTo t (adlerTo s p s.size) k := by
  induction k with
  | zero => exact adlerTo_cat_left s t p s.size (Nat.le_refl _)
  | succ k ih => rw [← Nat.add_assoc, adlerTo, adlerTo, ih (by omega), bt_cat_right s t k (by omega)]
/-- A sum's halves. -/
theorem sum_halves (s : ByteArray) : 0 ≤ (adlerTo s (1, 0) s.size).1 ∧ (adlerTo s (1, 0) s.size).1 < 65521 ∧ 0 ≤ (adlerTo s (1, 0) s.size).2 ∧ (adlerTo s (1, 0) s.size).2 < 65521 := by
  cases s.size with
  | zero => simp only [adlerTo]; omega
  | succ k => simp only [adlerTo, adlerGrow]; omega
theorem sum_is (s : ByteArray) : adlerIs (adlerOf (1, 0) s) := by
  have := sum_halves s
  unfold adlerIs adlerOf
  omega
theorem join_cat (s t : ByteArray) : adlerJoin (adlerOf (1, 0) s) (adlerOf (1, 0) t) t.size = adlerOf (1, 0) (s ++ t) := by
  have hs := sum_halves s
  have ht := sum_halves t
  have e := adlerTo_cat_right s t (1, 0) t.size (Nat.le_refl _)
  have hin : adlerIn (adlerTo s (1, 0) s.size) := by unfold adlerIn; omega
  obtain ⟨f1, f2⟩ := adlerTo_from t (adlerTo s (1, 0) s.size) ⟨hs.2.1, hs.2.2.2⟩ hin t.size
  unfold adlerJoin
  unfold adlerOf
  rw [ByteArray.size_append, e, f1, f2]
  generalize (adlerTo s (1, 0) s.size).1 = a at *
  generalize (adlerTo s (1, 0) s.size).2 = b at *
  generalize (adlerTo t (1, 0) t.size).1 = c at *
  generalize (adlerTo t (1, 0) t.size).2 = d at *
  have e1 : (b * 65536 + a) / 65536 = b := by omega
  have e2 : (b * 65536 + a) % 65536 = a := by omega
  have e3 : (d * 65536 + c) / 65536 = d := by omega
  have e4 : (d * 65536 + c) % 65536 = c := by omega
  rw [e1, e2, e3, e4]
  have g : (t.size : Int) % 65521 * ((a + 65520) % 65521) % 65521 = (t.size : Int) * (a - 1) % 65521 := by
    have : (a + 65520) % 65521 = (a - 1) % 65521 := by omega
    rw [this, ← Int.mul_emod]
  generalize (t.size : Int) % 65521 * ((a + 65520) % 65521) = u at *
  generalize (t.size : Int) * (a - 1) = v at *
  omega

theorem joinSums (s : ByteArray) (t : ByteArray) (n : Int) (hn : n = t.size) (hb : n ≤ 9223372036854775807) :
    Ev (fun k => adler_Join.f k (adlerOf (1, 0) s) (adlerOf (1, 0) t) n) (adlerOf (1, 0) (s ++ t), 0) := by
  have h := joinF_ev (adlerOf (1, 0) s) (adlerOf (1, 0) t) n (adlerIs_le (sum_is s)) (adlerIs_le (sum_is t)) hb
  rw [if_pos ⟨sum_is s, sum_is t, by omega⟩] at h
  rw [hn, join_cat] at h
  rw [hn]
  exact h

theorem AdlerJoins : binderylaw05_AdlerJoins.Pure := by
  intro s t u hs ht hu
  obtain ⟨K1, h1⟩ := sums_ev
  obtain ⟨K2, h2⟩ := joinSums s t t.size rfl (by omega)
  obtain ⟨K3, h3⟩ := joinSums (s ++ t) u u.size rfl (by omega)
  obtain ⟨K4, h4⟩ := joinSums t u u.size rfl (by omega)
  obtain ⟨K5, h5⟩ := joinSums s (t ++ u) ((t.size : Int) + (u.size : Int)) (by rw [ByteArray.size_append]; omega) (by omega)
  dsimp only at *
  refine ⟨K1 + K2 + K3 + K4 + K5 + 1, ?_⟩
  unfold binderylaw05_AdlerJoins.f
  have hj : ∀ b : Bool, (b = false → s.size ≤ 5000 ∧ t.size ≤ 5000 ∧ u.size ≤ 5000) → binderylaw05_AdlerJoins.j0 (K1 + K2 + K3 + K4 + K5 + 1) s t u b = some true := by
    intro b hb
    cases b with
    | true =>
      simp only [binderylaw05_AdlerJoins.j0, if_true]
      rw [h1 _ (by omega)]
      rfl
    | false =>
      obtain ⟨b1, b2, b3⟩ := hb rfl
      simp only [binderylaw05_AdlerJoins.j0, Bool.false_eq_true, if_false]
      have q : ∀ x : ByteArray, x.size ≤ 140737488351232 → adler_Sum.f x = some (adlerOf (1, 0) x) := fun x hx => by unfold adler_Sum.f; rw [if_pos hx]
      have z1 : (s ++ t).size ≤ 10000 := by rw [ByteArray.size_append]; omega
      have z2 : ((s ++ t) ++ u).size ≤ 15000 := by rw [ByteArray.size_append]; omega
      rw [q s hs, q t ht, q u hu, q _ (by omega), q _ (by omega)]
      simp only [Option.bind_some]
      rw [h2 _ (by omega)]
      simp only [Option.bind_some]
      rw [h3 _ (by omega), h4 _ (by omega)]
      simp only [Option.bind_some]
      rw [w64 (by omega) (by omega), h5 _ (by omega), h1 _ (by omega)]
      simp only [Option.bind_some, ByteArray.append_assoc, if_true]
      rw [if_pos (by omega), if_pos (by omega)]
  by_cases c1 : (s.size : Int) > 5000
  · rw [if_pos c1]; exact hj _ (fun h => by cases h)
  · rw [if_neg c1]
    by_cases c2 : (t.size : Int) > 5000
    · rw [if_pos c2]; exact hj _ (fun h => by cases h)
    · rw [if_neg c2]
      exact hj _ (fun h => by rw [decide_eq_false_iff_not] at h; omega)

end Go.Proofs.Ytgoajdnofekcaaa.Pure
