/- Zwrap: the document's Wrap; walked by hand. -/
import Derived.Test.YtbgdadehjnifeaaGreatP12tx1
import Derived.Test.YtbgdadehjnifeaaGreatHand12b
namespace Go.Proofs.YtbgdadehjnifeaaGreat.Hand
open Go.RowKit Go.Proofs.YtbgdadehjnifeaaGreat.P12t Go.Proofs.YtbgdadehjnifeaaGreatW.PrintWords Go.Proofs.YtbgdadehjnifeaaGreatW.PrintLast Go.Proofs.YtbgdadehjnifeaaGreatW.PrintMore Go.Proofs.YtbgdadehjnifeaaGreat.Num Go.Proofs.YtbgdadehjnifeaaGreat.Bits
set_option linter.unusedVariables false
set_option linter.unusedSimpArgs false
set_option maxRecDepth 100000
theorem rsum_l0 (s : ByteArray) (hs : s.size ≤ 140737488351232) (d : Nat) : ∀ (i k : Nat), i + d = s.size → d < k →
  binderyref05_Sum.l0 k s (adlerTo s (1, 0) i).1 (adlerTo s (1, 0) i).2 i = some (adlerOf (1, 0) s) := by
 induction d with
 | zero =>
  intro i k hi hk
  obtain ⟨k, rfl⟩ : ∃ m, k = m + 1 := ⟨k - 1, by omega⟩
  obtain rfl : i = s.size := by omega
  have hin := adlerTo_in s (p := (1, 0)) (by unfold adlerIn; omega) s.size
  unfold adlerIn at hin
  simp only [binderyref05_Sum.l0]
  rw [if_neg (by omega)]
  simp (disch := omega) only [w64]
  rfl
 | succ d ih =>
  intro i k hi hk
  obtain ⟨k, rfl⟩ : ∃ m, k = m + 1 := ⟨k - 1, by omega⟩
  have hin := adlerTo_in s (p := (1, 0)) (by unfold adlerIn; omega) i
  unfold adlerIn at hin
  have hb := bt_range s i
  simp only [binderyref05_Sum.l0]
  rw [if_pos (by omega), if_pos (by omega)]
  simp (disch := omega) only [w64, tm]
  exact ih (i + 1) k (by omega) (by omega)
theorem rsum_ev (s : ByteArray) (hs : s.size ≤ 140737488351232) : Ev (fun k => binderyref05_Sum.f k s) (adlerOf (1, 0) s) :=
 ⟨s.size + 1, fun k hk => rsum_l0 s hs s.size 0 k (by omega) (by omega)⟩
theorem str_cat (a b : List Int) : strOfNums a ++ strOfNums b = strOfNums (a ++ b) := by
 apply ByteArray.ext
 apply Array.toList_inj.1
 rw [ByteArray.data_append, Array.toList_append, strOfNums_data, strOfNums_data, strOfNums_data, List.map_append]
theorem rput_step (k i : Nat) (n : Int) (L : List Int) (h0 : 0 ≤ n) (h1 : n < 4294967296) (hi : i < 4) (hL : L.length ≤ 10) : binderyref03_Put.l0 (k + 1) n 4 (strOfNums L) i = binderyref03_Put.l0 k (n / 256) 4 (strOfNums ((n % 256) :: L)) ((i + 1 : Nat) : Int) := by
 simp only [binderyref03_Put.l0]
 rw [if_pos (by omega), Option.bind_some, if_pos (by rw [strOfNums_size, strOfNums_size]; simp; omega), str_cat, tm _ h0, td _ h0, w64 (x := n / 256) (by omega) (by omega), show wrap64 ((i : Int) + 1) = ((i + 1 : Nat) : Int) by rw [w64 (by omega) (by omega)]; omega, show n % 256 % 256 = n % 256 by omega]
 rfl
theorem rput_f (n : Int) (h0 : 0 ≤ n) (h1 : n < 4294967296) (k : Nat) (hk : 10 ≤ k) : binderyref03_Put.f k n 4 = some (strOfNums ((wholeL n).drop 4), 0) := by
 obtain ⟨k, rfl⟩ : ∃ j, k = j + 6 := ⟨k - 6, by omega⟩
 unfold binderyref03_Put.f
 rw [if_neg (by decide)]
 simp only [binderyref03_Put.j0]
 rw [if_neg (by decide), if_neg (by omega), show (⟨#[]⟩ : ByteArray) = strOfNums [] from rfl, show (0 : Int) = ((0 : Nat) : Int) from rfl]
 rw [rput_step _ _ n _ h0 h1 (by omega) (by simp), rput_step _ _ (n / 256) _ (by omega) (by omega) (by omega) (by simp), rput_step _ _ (n / 256 / 256) _ (by omega) (by omega) (by omega) (by simp), rput_step _ _ (n / 256 / 256 / 256) _ (by omega) (by omega) (by omega) (by simp)]
 simp only [binderyref03_Put.l0]
 rw [if_neg (by decide), if_neg (by omega)]
 have e : [n / 256 / 256 / 256 % 256, n / 256 / 256 % 256, n / 256 % 256, n % 256] = (wholeL n).drop 4 := by
  simp only [wholeL, List.drop_succ_cons, List.drop_zero, List.cons.injEq, and_true]
  omega
 rw [e]
 rfl
theorem rtail_ev (s : ByteArray) (hs : s.size ≤ 140737488351232) : Ev (fun k => binderyref12_Tail.f k s) (tailF s) := by
 obtain ⟨K, hK⟩ := rsum_ev s hs
 have ha := adler_small s
 refine ⟨K + 10, fun k hk => ?_⟩
 dsimp only at hK
 show binderyref12_Tail.f k s = _
 unfold binderyref12_Tail.f
 rw [hK k (by omega), Option.bind_some, rput_f _ ha.1 ha.2 k (by omega), Option.bind_some]
 rfl
theorem rt_calls (w : World) (s : ByteArray) (hs : s.size ≤ 140737488351232) : Calls Tryz.prog 12 #[.string s] w fun e w' => e = .returned (.string (tailF s)) ∧ Below w.heap.size w w' := by
 obtain ⟨k, hk⟩ := (rtail_ev s hs).rounds
 exact binderyref12_Tail.calls k s (tailF s) w hk
end Go.Proofs.YtbgdadehjnifeaaGreat.Hand
