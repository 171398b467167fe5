/- What runs.Encode tells of any bytes (at most 5000) is longer by at most 1, and 1 for each 128 bytes begun; a run of one byte, of 3 to 128, is told in three. -/
import Derived.Test.YtgoajdnofekcaaaP07x2
import Derived.Test.YtgoajdnofekcaaaLem07e
namespace Go.Proofs.Ytgoajdnofekcaaa.Pure
open Go.RowKit Go.Proofs.Ytgoajdnofekcaaa.P07 Go.Proofs.YtgoajdnofekcaaaW.PrintWords Go.Proofs.YtgoajdnofekcaaaW.PrintLast Go.Proofs.Ytgoajdnofekcaaa.Hand Go.Proofs.Ytgoajdnofekcaaa.Num Go.Proofs.Ytgoajdnofekcaaa.Lem07

theorem short_l0 (s : ByteArray) (c n : Int) (m : Nat) (hm : (m : Int) = wrap64 (3 + Int.tmod (wrap64 n) 126)) (hm2 : m ≤ 1000) {r : Bool} 
    (h : Ev (fun k => (runs_Encode.f k s).bind fun t187 => (if (t187.size : Int) ≤ (wrap64 ((wrap64 ((s.size : Int) + (wrap64 (Int.tdiv (wrap64 ((s.size : Int) + 127)) 128)))) + 1)) then ((runs_Encode.f k (strOfNums (List.replicate m c))).bind fun t188 => (if (t188.size : Int) = 3 then ((binderylaw07_parts.f k).bind fun t189 => (some t189)) else (some false))) else (some false))) r) (d : Nat) :
    ∀ i : Nat, i + d = m → Ev (fun k => binderylaw07_RunsShort.l0 k s c n (List.replicate i c) i) r := by
  induction d with
  | zero =>
    intro i hi
    obtain rfl : i = m := by omega
    obtain ⟨K, hK⟩ := h
    refine ⟨K + 1, fun k hk => ?_⟩
    obtain ⟨k, rfl⟩ : ∃ m, k = m + 1 := ⟨k - 1, by omega⟩
    simp only [binderylaw07_RunsShort.l0]
    rw [← hm, if_neg (by omega)]
    exact hK k (by omega)
  | succ d ih =>
    intro i hi
    obtain ⟨K, hK⟩ := ih (i + 1) (by omega)
    refine ⟨K + 1, fun k hk => ?_⟩
    obtain ⟨k, rfl⟩ : ∃ m, k = m + 1 := ⟨k - 1, by omega⟩
    have e2 : wrap64 ((i : Int) + 1) = ((i + 1 : Nat) : Int) := by rw [w64 (by omega) (by omega)]; omega
    simp only [binderylaw07_RunsShort.l0]
    rw [← hm, if_pos (by omega), if_pos (by rw [List.length_replicate]; omega), e2, ← List.replicate_succ']
    exact hK k (by omega)

theorem one_run (c : Int) (m : Nat) (h3 : 3 ≤ m) (h128 : m ≤ 128) (hc : 0 ≤ c ∧ c < 256) : ∃ t : ByteArray, t.size = 3 ∧ Ev (fun k => runs_Encode.f k (strOfNums (List.replicate m c))) t := by
  have hb : ∀ x ∈ List.replicate m c, 0 ≤ x ∧ x < 256 := fun x hx => by rw [List.eq_of_mem_replicate hx]; exact hc
  have hsz : (strOfNums (List.replicate m c)).size = m := by rw [strOfNums_size, List.length_replicate]
  have hbt : ∀ j : Nat, j < m → bt (strOfNums (List.replicate m c)) j = c := fun j hj => by
    rw [bt_str hb j (by rw [List.length_replicate]; exact hj), List.getElem_replicate]
  obtain ⟨n, hr, K, hK⟩ := alike_ev (strOfNums (List.replicate m c)) 0 (by omega) (by omega)
  have r1 := hr.one
  have r2 := hr.most
  have r3 := hr.size
  have hn : n = m := by
    rcases Nat.lt_or_ge n m with h | h
    · exfalso
      refine hr.stop (by omega) (by omega) ?_
      rw [hbt (0 + n) (by omega), hbt 0 (by omega)]
    · omega
  subst hn
  refine ⟨strOfNums ([(257 - (n : Int)) % 256, c] ++ [128]), by rw [strOfNums_size]; rfl, K + 2, fun k hk => ?_⟩
  obtain ⟨k, rfl⟩ : ∃ m, k = m + 2 := ⟨k - 2, by omega⟩
  dsimp only at hK ⊢
  unfold runs_Encode.f
  have e : encL (k + 2) (strOfNums (List.replicate n c)) 0 0 [] = some ([(257 - (n : Int)) % 256, c] ++ [128]) := by
    rw [encL, if_pos ⟨by omega, by omega, by omega, by simp⟩, if_pos (by omega), hK (k + 1) (by omega)]
    simp only [Option.bind_some]
    rw [if_pos (by omega), if_pos (by omega), Int.toNat_natCast, flushed_eq, Nat.zero_add]
    have hb0 := hbt 0 (by omega)
    rw [hb0, encL, if_pos ⟨by omega, by omega, by omega, by simp⟩, if_neg (by omega), flushed_eq]
    rfl
  rw [e]
  rfl

theorem RunsShort : binderylaw07_RunsShort.Pure := by
  intro s c n hs hc hn
  have c0 : 0 ≤ c ∧ c ≤ 255 := by simpa [Lit.wf, IntKind.min, IntKind.max, IntKind.bits, IntKind.signed] using hc
  have n0 : 0 ≤ n ∧ n ≤ 255 := by simpa [Lit.wf, IntKind.min, IntKind.max, IntKind.bits, IntKind.signed] using hn
  obtain ⟨K2, h2⟩ := parts_ev
  unfold binderylaw07_RunsShort.f
  by_cases h0 : (s.size : Int) > 5000
  · exact ⟨K2, by rw [if_pos h0, h2 _ (by omega)]; rfl⟩
  · obtain ⟨E, h⟩ := enc_all s (by omega) s.size 0 0 [] (by omega) (by omega) (by omega) (by simp; omega)
    obtain ⟨K1, h1⟩ := h.go
    have hl := h.len
    dsimp only at h1
    rw [List.nil_append] at h1
    have hm : (((3 + n % 126).toNat : Nat) : Int) = wrap64 (3 + Int.tmod (wrap64 n) 126) := by
      rw [w64 (x := n) (by omega) (by omega), tm _ n0.1, w64 (by omega) (by omega)]
      omega
    have m3 : 3 ≤ (3 + n % 126).toNat := by omega
    have m128 : (3 + n % 126).toNat ≤ 128 := by omega
    obtain ⟨t, ht, K3, h3⟩ := one_run c (3 + n % 126).toNat m3 m128 (by omega)
    dsimp only at h3
    have hb : wrap64 (wrap64 ((s.size : Int) + wrap64 (Int.tdiv (wrap64 ((s.size : Int) + 127)) 128)) + 1) = (s.size : Int) + ((s.size : Int) + 127) / 128 + 1 := by
      simp (disch := omega) only [w64, td]
    have hle : (E.length : Int) ≤ (s.size : Int) + ((s.size : Int) + 127) / 128 + 1 := by omega
    have ht3 : (t.size : Int) = 3 := by rw [ht]; rfl
    generalize (3 + n % 126).toNat = m at *
    have fin := short_l0 s c n m hm (by omega) (r := true) ⟨K1 + K2 + K3, fun k hk => ?_⟩ m 0 (by omega)
    · obtain ⟨k, hk⟩ := fin.rounds
      refine ⟨k, ?_⟩
      rw [if_neg h0]
      rw [List.replicate_zero, Int.natCast_zero] at hk
      exact hk
    · have e1 : runs_Encode.f k s = some (strOfNums E) := by unfold runs_Encode.f; rw [h1 _ (by omega)]; rfl
      dsimp only
      rw [e1, h3 _ (by omega), h2 _ (by omega)]
      rw [Option.bind_some, strOfNums_size, hb, if_pos hle, Option.bind_some, if_pos ht3]
      rfl

end Go.Proofs.Ytgoajdnofekcaaa.Pure
