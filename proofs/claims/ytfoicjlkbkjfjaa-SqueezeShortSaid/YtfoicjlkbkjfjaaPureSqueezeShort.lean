/- The shorter way is longer by at most 5 bytes for each 65535 that were begun; a byte that stands 300 times and more is told in less than a tenth (texts of at most 70000 bytes); conditions: none beyond the statement's own. -/
import Derived.Test.YtfoicjlkbkjfjaaP11sx1
import Derived.Test.YtfoicjlkbkjfjaaLem11
namespace Go.Proofs.Ytfoicjlkbkjfjaa.Pure
open Go.RowKit Go.Proofs.Ytfoicjlkbkjfjaa.P11s Go.Proofs.YtfoicjlkbkjfjaaW.PrintWords Go.Proofs.YtfoicjlkbkjfjaaW.PrintLast Go.Proofs.Ytfoicjlkbkjfjaa.Hand Go.Proofs.Ytfoicjlkbkjfjaa.Num Go.Proofs.Ytfoicjlkbkjfjaa.Bits
theorem fixed_f (s : ByteArray) (hs : s.size ≤ 100000) : squeeze_Fixed.f s = some (fixF s) := by unfold squeeze_Fixed.f; rw [if_pos hs]
theorem stored_f (s : ByteArray) (hs : s.size ≤ 100000) : squeeze_Stored.f s = some (storeF s) := by unfold squeeze_Stored.f; rw [if_pos hs]
theorem best_f (s : ByteArray) (hs : s.size ≤ 100000) : squeeze_Best.f s = some (bestF s) := by
  unfold squeeze_Best.f bestF
  rw [fixed_f s hs, stored_f s hs]
  simp only [Option.bind_some]
  by_cases h : (fixF s).size < (storeF s).size
  · rw [if_pos (by omega), if_pos h]
  · rw [if_neg (by omega), if_neg h]
theorem squeezed_f : binderylaw11_squeezed.f = some true := by
  have hb : bestF ⟨#[97, 97, 97, 97]⟩ = ⟨#[75, 4, 2, 0]⟩ := by
    unfold bestF
    rw [sq2, sq4]
    rfl
  unfold binderylaw11_squeezed.f
  rw [fixed_f _ (by decide), fixed_f _ (by decide), stored_f _ (by decide), best_f _ (by decide), sq1, sq2, sq3, hb]
  simp only [Option.bind_some, ByteArray.toList_eq]
  rfl
theorem best_le (s : ByteArray) : (bestF s).size ≤ (storeF s).size ∧ (bestF s).size ≤ (fixF s).size := by
  unfold bestF
  split <;> omega
theorem blocks_w (z : Nat) (hz : z ≤ 70000) : wrap64 ((z : Int) + wrap64 (5 * (mx 1 (wrap64 (Int.tdiv (wrap64 ((z : Int) + 65534)) 65535))))) = (z : Int) + 5 * ((blocksN z : Nat) : Int) := by
  have e1 : wrap64 (Int.tdiv (wrap64 ((z : Int) + 65534)) 65535) = (((z + 65534) / 65535 : Nat) : Int) := by
    rw [w64 (x := (z : Int) + 65534) (by omega) (by omega), td _ (by omega), w64 (by omega) (by omega)]
    omega
  have e2 : mx 1 (((z + 65534) / 65535 : Nat) : Int) = ((blocksN z : Nat) : Int) := by
    unfold mx blocksN
    omega
  have e3 : blocksN z ≤ 3 := by unfold blocksN; omega
  rw [e1, e2]
  generalize blocksN z = q at e3
  rw [w64 (x := 5 * (q : Int)) (by omega) (by omega), w64 (by omega) (by omega)]
theorem rep_size (i : Nat) (c : Int) : (strOfNums (List.replicate i c)).size = i := by rw [strOfNums_size, List.length_replicate]
theorem rep_bt (i : Nat) (c : Int) (hc : 0 ≤ c ∧ c ≤ 255) : ∀ j : Nat, j < (strOfNums (List.replicate i c)).size → bt (strOfNums (List.replicate i c)) (j : Int) = c := fun j hj => by
  have hsz := rep_size i c
  have e := bytesOf_get? (strOfNums (List.replicate i c)) j
  rw [if_pos hj, bytesOf_strOfNums _ (fun x hx => by rw [List.eq_of_mem_replicate hx]; omega), List.getElem?_replicate, if_pos (by omega)] at e
  injection e with e
  exact e.symm
theorem short_end (s : ByteArray) (c n : Int) (i k : Nat) (hi : (i : Int) = 300 + n) (hn : 0 ≤ n ∧ n ≤ 255) (hc : 0 ≤ c ∧ c ≤ 255) (hs : s.size ≤ 70000) : binderylaw11_SqueezeShort.l0 (k + 1) s c n (List.replicate i c) i = some true := by
  have hw : wrap64 (300 + wrap64 n) = 300 + n := by rw [w64 (x := n) (by omega) (by omega), w64 (by omega) (by omega)]
  have h1 := (best_le s).1
  have h2 := storeF_size s
  have hsz := rep_size i c
  have h3 := fix_const (strOfNums (List.replicate i c)) c (rep_bt i c hc) (by omega) (by omega)
  have h4 := (best_le (strOfNums (List.replicate i c))).2
  rw [binderylaw11_SqueezeShort.l0, hw, if_neg (by omega), best_f s (by omega), Option.bind_some, blocks_w _ hs]
  generalize blocksN s.size = q at h2
  rw [if_pos (by omega), best_f _ (by omega), Option.bind_some]
  generalize (bestF (strOfNums (List.replicate i c))).size = z at h4
  rw [if_pos (by rw [w64 (by omega) (by omega), List.length_replicate]; omega), squeezed_f, Option.bind_some]
theorem short_l0 (s : ByteArray) (c n : Int) (m : Nat) (hm : (m : Int) = 300 + n) (hn : 0 ≤ n ∧ n ≤ 255) (hc : 0 ≤ c ∧ c ≤ 255) (hs : s.size ≤ 70000) (d : Nat) : ∀ i : Nat, i + d = m → binderylaw11_SqueezeShort.l0 (d + 1) s c n (List.replicate i c) i = some true := by
  induction d with
  | zero => exact fun i h => short_end s c n i 0 (by omega) hn hc hs
  | succ d ih =>
    intro i h
    have hw : wrap64 (300 + wrap64 n) = 300 + n := by rw [w64 (x := n) (by omega) (by omega), w64 (by omega) (by omega)]
    have e2 : wrap64 ((i : Int) + 1) = ((i + 1 : Nat) : Int) := by rw [w64 (by omega) (by omega)]; omega
    rw [binderylaw11_SqueezeShort.l0, hw, if_pos (by omega), if_pos (by rw [List.length_replicate]; omega), e2, ← List.replicate_succ']
    exact ih (i + 1) (by omega)
theorem SqueezeShort : binderylaw11_SqueezeShort.Pure := by
  intro s c n hs hc hn
  have c0 : 0 ≤ c ∧ c ≤ 255 := by simpa [Lit.wf, IntKind.min, IntKind.max, IntKind.bits, IntKind.signed] using hc
  have n0 : 0 ≤ n ∧ n ≤ 255 := by simpa [Lit.wf, IntKind.min, IntKind.max, IntKind.bits, IntKind.signed] using hn
  refine ⟨(300 + n).toNat + 1, ?_⟩
  unfold binderylaw11_SqueezeShort.f
  by_cases h0 : (s.size : Int) > 70000
  · rw [if_pos h0, squeezed_f]; rfl
  · rw [if_neg h0]
    exact short_l0 s c n (300 + n).toNat (by omega) n0 c0 (by omega) (300 + n).toNat 0 (by omega)
end Go.Proofs.Ytfoicjlkbkjfjaa.Pure
