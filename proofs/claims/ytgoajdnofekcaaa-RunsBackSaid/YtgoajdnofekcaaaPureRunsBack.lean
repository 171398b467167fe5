/- What runs.Encode tells of any bytes (at most 5000) is told again by runs.Decode, with just as much room, and not with less. -/
import Derived.Test.YtgoajdnofekcaaaP07x2
import Derived.Test.YtgoajdnofekcaaaLem07e
namespace Go.Proofs.Ytgoajdnofekcaaa.Pure
open Go.RowKit Go.Proofs.Ytgoajdnofekcaaa.P07 Go.Proofs.YtgoajdnofekcaaaW.PrintWords Go.Proofs.YtgoajdnofekcaaaW.PrintLast Go.Proofs.Ytgoajdnofekcaaa.Hand Go.Proofs.Ytgoajdnofekcaaa.Num Go.Proofs.Ytgoajdnofekcaaa.Lem07

theorem RunsBack : binderylaw07_RunsBack.Pure := by
  intro s hs
  obtain ⟨K2, h2⟩ := parts_ev
  unfold binderylaw07_RunsBack.f
  by_cases h0 : (s.size : Int) > 5000
  · exact ⟨K2, by rw [if_pos h0, h2 _ (by omega)]; rfl⟩
  · obtain ⟨E, h⟩ := enc_all s (by omega) s.size 0 0 [] (by omega) (by omega) (by omega) (by simp; omega)
    obtain ⟨K1, h1⟩ := h.go
    have hl := h.len
    have hd := h.dec.2 (by omega)
    have hlen := bytesOf_length s
    rw [List.drop_zero] at hd
    obtain ⟨K3, h3⟩ := hd [] s.size (by simp; omega) (by simp)
    dsimp only at h1 h3
    rw [if_pos (by simp; omega)] at h3
    rw [List.nil_append] at h1 h3
    rw [strOfNums_bytesOf] at h3
    have hw : wrap64 ((s.size : Int) - 1) = (s.size : Int) - 1 := w64 (by omega) (by omega)
    by_cases he : s.size = 0
    · refine ⟨K1 + K2 + K3, ?_⟩
      have e1 : runs_Encode.f (K1 + K2 + K3) s = some (strOfNums E) := by unfold runs_Encode.f; rw [h1 _ (by omega)]; rfl
      have e3 : runs_Decode.f (K1 + K2 + K3) (strOfNums E) (s.size : Int) = some (s, 0) := by unfold runs_Decode.f; rw [if_neg (by omega)]; exact h3 _ (by omega)
      have e4 : runs_Decode.f (K1 + K2 + K3) (strOfNums E) ((s.size : Int) - 1) = some (⟨#[]⟩, 2) := by unfold runs_Decode.f; rw [if_pos (by omega)]
      rw [if_neg h0, e1, hw]
      simp only [Option.bind_some]
      rw [e3, e4, h2 _ (by omega)]
      have hne : s.toList = ([] : List UInt8) := (toList_bytes s).2 he
      simp [hne]
    · obtain ⟨K4, h4⟩ := hd [] ((s.size : Int) - 1) (by simp; omega) (by simp; omega)
      dsimp only at h4
      rw [if_neg (by simp; omega)] at h4
      refine ⟨K1 + K2 + K3 + K4, ?_⟩
      have e1 : runs_Encode.f (K1 + K2 + K3 + K4) s = some (strOfNums E) := by unfold runs_Encode.f; rw [h1 _ (by omega)]; rfl
      have e3 : runs_Decode.f (K1 + K2 + K3 + K4) (strOfNums E) (s.size : Int) = some (s, 0) := by unfold runs_Decode.f; rw [if_neg (by omega)]; exact h3 _ (by omega)
      have e4 : runs_Decode.f (K1 + K2 + K3 + K4) (strOfNums E) ((s.size : Int) - 1) = some (⟨#[]⟩, 7) := by unfold runs_Decode.f; rw [if_neg (by omega)]; exact h4 _ (by omega)
      rw [if_neg h0, e1, hw]
      simp only [Option.bind_some]
      rw [e3, e4, h2 _ (by omega)]
      have hne : ¬ s.toList = ([] : List UInt8) := fun h => he ((toList_bytes s).1 h)
      simp [hne]

end Go.Proofs.Ytgoajdnofekcaaa.Pure
