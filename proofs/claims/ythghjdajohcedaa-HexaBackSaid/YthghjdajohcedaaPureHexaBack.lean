/- What is encoded is decoded, is twice as long, and 1, and has signs alone that can be seen. -/
import Derived.Test.YthghjdajohcedaaLem06
namespace Go.Proofs.Ythghjdajohcedaa.Pure
open Go.RowKit Go.Proofs.Ythghjdajohcedaa.P06 Go.Proofs.YthghjdajohcedaaW.PrintWords Go.Proofs.YthghjdajohcedaaW.PrintLast Go.Proofs.Ythghjdajohcedaa.Hand Go.Proofs.Ythghjdajohcedaa.Num Go.Proofs.Ythghjdajohcedaa.Lem06
theorem seen (xs : List Int) (h : ∀ x ∈ xs, 0 ≤ x ∧ x < 256) : ∀ y ∈ hexL xs ++ [62], 48 ≤ y ∧ y ≤ 70 := by
  intro y hy
  rcases List.mem_append.1 hy with hy | hy
  · rw [hexL, List.mem_flatMap] at hy
    obtain ⟨x, hx, hy⟩ := hy
    have h1 := h x hx
    have h2 := dgF_range (show 0 ≤ x / 16 by omega) (by omega)
    have h3 := dgF_range (show 0 ≤ x % 16 by omega) (by omega)
    simp only [List.mem_cons, List.not_mem_nil, or_false] at hy
    rcases hy with rfl | rfl <;> omega
  · rw [List.mem_singleton.1 hy]; omega
theorem HexaBack : binderylaw06_HexaBack.Pure := by
  intro s hs
  unfold binderylaw06_HexaBack.f
  by_cases h : (s.size : Int) > 5000
  · exact ⟨0, by rw [if_pos h, digits_true]; rfl⟩
  · have hv := seen (bytesOf s) (bytes_range s)
    have hb := bytesOf_strOfNums (hexL (bytesOf s) ++ [62]) (fun y hy => by have := hv y hy; omega)
    have hsz : (strOfNums (hexL (bytesOf s) ++ [62])).size = 2 * s.size + 1 := by
      rw [strOfNums_size, List.length_append, hexL_length, bytesOf_length, List.length_singleton]
    have hd : hexa_Decode.f (strOfNums (hexL (bytesOf s) ++ [62])) = some (s, 0) := by
      rw [dec_f _ (by omega), hb, decB_enc (bytesOf s) (bytes_range s), List.nil_append, strOfNums_bytesOf]
    have hg : ∀ i : Nat, i < 2 * s.size + 1 → 48 ≤ bt (strOfNums (hexL (bytesOf s) ++ [62])) (i : Int) ∧ bt (strOfNums (hexL (bytesOf s) ++ [62])) (i : Int) ≤ 70 := fun i hi => by
      have e := bytesOf_get? (strOfNums (hexL (bytesOf s) ++ [62])) i
      rw [if_pos (by omega), hb] at e
      exact hv _ (List.mem_of_getElem? e)
    have hen := enc_f s (by omega)
    generalize strOfNums (hexL (bytesOf s) ++ [62]) = t at hsz hd hg hen
    have main : ∀ (d i : Nat), i + d = t.size → ∃ k, binderylaw06_HexaBack.l0 k s t i = some true := by
      intro d
      induction d with
      | zero =>
        intro i hi
        refine ⟨1, ?_⟩
        simp only [binderylaw06_HexaBack.l0]
        rw [if_neg (by omega), hd, Option.bind_some, if_pos (by rw [w64 (x := 2 * (s.size : Int)) (by omega) (by omega), w64 (by omega) (by omega)]; omega), if_pos rfl, if_pos rfl, digits_true]
        rfl
      | succ d ih =>
        intro i hi
        have g := hg i (by omega)
        obtain ⟨k, e⟩ := ih (i + 1) (by omega)
        refine ⟨k + 1, ?_⟩
        simp only [binderylaw06_HexaBack.l0]
        have ew : (i : Int) + 1 = ((i + 1 : Nat) : Int) := by omega
        rw [if_pos (by omega), if_pos (by omega), if_neg (by omega), if_neg (by omega), w64 (by omega) (by omega), ew]
        exact e
    obtain ⟨k, e⟩ := main t.size 0 (by omega)
    exact ⟨k, by rw [if_neg h, hen, Option.bind_some]; exact e⟩
end Go.Proofs.Ythghjdajohcedaa.Pure
