/- The contract of the document's Decode of layer 7: it tells what the program's does, by the same plain function. -/
import Derived.Test.YtgoajdnofekcaaaHand07d
import Derived.Test.YtgoajdnofekcaaaNum
namespace Go.Proofs.Ytgoajdnofekcaaa.Hand
open Go.RowKit Go.Proofs.YtgoajdnofekcaaaW.PrintWords Go.Proofs.YtgoajdnofekcaaaW.PrintLast Go.Proofs.YtgoajdnofekcaaaW.PrintMore Go.Proofs.Ytgoajdnofekcaaa.Num
set_option linter.unusedVariables false
set_option linter.unusedSimpArgs false

def binderyref07_Decode.f (k : Nat) (a0 : ByteArray) (a1 : Int) : Option (ByteArray × Int) := if a1 < 0 then some (⟨#[]⟩, 2) else decL k a0 [] a1
theorem binderyref07_Decode.mono : ∀ a0 a1 k, LeO (binderyref07_Decode.f k a0 a1) (binderyref07_Decode.f (k + 1) a0 a1) := runs_Decode.mono

/-- What is behind the first byte. -/
def tl (s : ByteArray) : ByteArray := s.extract 1 s.size
theorem tl_size (s : ByteArray) : (tl s).size = s.size - 1 := by unfold tl; rw [ByteArray.size_extract]; omega
theorem tl_bt (s : ByteArray) (i : Nat) (h : i + 1 < s.size) : bt (tl s) i = bt s ((i + 1 : Nat) : Int) := by
  unfold tl; rw [bt_extract s 1 s.size i (by omega) (by omega), Nat.add_comm]
theorem tl_bytes (s : ByteArray) : bytesOf (tl s) = (bytesOf s).drop 1 := by
  unfold tl
  rw [bytesOf_extract, List.take_of_length_le (Nat.le_of_eq (bytesOf_length s))]
theorem tl_cut (s : ByteArray) (n : Nat) : (tl s).extract n (tl s).size = s.extract (n + 1) s.size := by
  apply bytes_ext
  rw [bytesOf_extract, bytesOf_extract, List.take_of_length_le (Nat.le_of_eq (bytesOf_length (tl s))), List.take_of_length_le (Nat.le_of_eq (bytesOf_length s)), tl_bytes, List.drop_drop, Nat.add_comm]
theorem tl_head (s : ByteArray) (n : Nat) : bytesOf ((tl s).extract 0 n) = bytesOf (s.extract 1 (n + 1)) := by
  rw [bytesOf_extract, bytesOf_extract, tl_bytes, List.drop_zero, List.drop_take]
  simp
theorem partF_lit {s : ByteArray} (h0 : s.size ≠ 0) {c : Nat} (hc : bt s 0 = c) (h : c < 128) : partF s = if (tl s).size < c + 1 then none else some (bytesOf ((tl s).extract 0 (c + 1)), c + 2) := by
  unfold partF
  rw [tl_head, tl_size, hc, if_pos (show (c : Int) < 128 by omega)]
  by_cases h2 : s.size < 2
  · rw [if_pos h2, if_pos (by omega)]
  · rw [if_neg h2]
    by_cases h3 : s.size - 1 < c + 1
    · rw [if_pos h3, if_pos (by omega)]
    · rw [if_neg h3, if_neg (by omega)]
      have : ((c : Int) + 2).toNat = c + 2 := by omega
      rw [this]
theorem partF_run {s : ByteArray} (h0 : s.size ≠ 0) {c : Nat} (hc : bt s 0 = c) (h : ¬ c < 128) : partF s = if (tl s).size < 1 then none else some (List.replicate (257 - c) (bt (tl s) 0), 2) := by
  unfold partF
  rw [tl_size, hc, if_neg (show ¬ (c : Int) < 128 by omega)]
  by_cases h2 : s.size < 2
  · rw [if_pos h2, if_pos (by omega)]
  · rw [if_neg h2, if_neg (by omega)]
    have e := tl_bt s 0 (by omega)
    have : (257 - (c : Int)).toNat = 257 - c := by omega
    rw [this]
    rw [show ((0 : Nat) : Int) = 0 from rfl] at e
    rw [e]
    rfl

set_option maxRecDepth 100000 in
set_option maxHeartbeats 4000000 in
theorem binderyref07_Decode.calls (k : Nat) (a0 : ByteArray) (a1 : Int) (r1 : ByteArray) (r2 : Int) (w : World) (h : binderyref07_Decode.f k a0 a1 = some (r1, r2)) :
    Calls Try.prog 25 #[.string a0, .int .i64 a1] w fun e w' => e = .returned (.tuple #[.string r1, .int .i64 r2]) ∧ Below w.heap.size w w' := by
  unfold binderyref07_Decode.f at h
  by_cases h0 : a1 < 0
  · rw [if_pos h0] at h
    simp only [Option.some.injEq, Prod.mk.injEq] at h
    obtain ⟨rfl, rfl⟩ := h
    have d0 : decide (a1 < 0) = true := decide_eq_true h0
    go_enter Try.func25, Try.ntmps25
    go_wp2
    go_ret2
    exact ⟨rfl, Below.refl _ _⟩
  · rw [if_neg h0] at h
    have d0 : decide (a1 < 0) = false := decide_eq_false h0
    have HR := Aside0.mk h
    clear h
    go_enter Try.func25, Try.ntmps25
    go_wp2_with fail
    have hR0 := Row.empty w w.heap.size 5 .u8 (Nat.le_refl _)
    have hb0 := below_alloc (Below.refl w.heap.size w) (.cells #[] 5)
    go_loopg [0, 6] k (fun kq v0 v6 wr => ∃ (s : ByteArray) (xs : List Int) (A : Option Addr) (n m : Nat), v0 = .string s ∧ v6 = .slice A n m ∧ Aside0 (decL kq s xs a1 = some (r1, r2)) ∧
      Aside0 (n = xs.length) ∧ Aside0 (Row wr w.heap.size 5 .u8 (.slice A n m) xs) ∧ Aside0 (Below w.heap.size w wr))
    case atStart => exact ⟨a0, [], _, 0, 0, rfl, rfl, HR, ⟨rfl⟩, ⟨hR0⟩, ⟨hb0⟩⟩
    case round =>
      clear HR hR0 hb0
      obtain ⟨s, xs, A, n, m, rfl, rfl, HA, HN, HW, HB⟩ := hrel
      cases gk with
      | zero => exact absurd HA.out (by simp [decL])
      | succ k1 =>
        have H := HA.out
        clear HA
        simp only [decL] at H
        by_cases hg : s.size ≤ 1000000 ∧ xs.length ≤ 1000000000000
        · rw [if_pos hg] at H
          obtain ⟨g1, g2⟩ := hg
          have hBw : w.heap.size ≤ wr.heap.size := HB.out.size
          by_cases hs0 : s.size = 0
          · rw [if_pos hs0] at H
            simp only [Option.some.injEq, Prod.mk.injEq] at H
            obtain ⟨rfl, rfl⟩ := H
            have t1 := toList_nil hs0
            go_wp2
            go_ret2
            exact ⟨rfl, HB.out⟩
          · rw [if_neg hs0] at H
            have t1 := toList_some hs0
            have t4 : 0 < s.size := by omega
            have hx := bt_nat s 0 t4
            have hx' : (s[0].toNat : Int) = bt s 0 := hx.symm
            have r0 := bt_range s 0
            have t2 := tl_size s
            have t5 := tl_cut s
            obtain ⟨c, hc⟩ := Int.eq_ofNat_of_zero_le r0.1
            have HL := Aside0.mk (partF_lit hs0 hc)
            have HRn := Aside0.mk (partF_run hs0 hc)
            rw [hc] at H hx' r0
            clear hx hc
            go_upto_region 8 with (fail)
            have et : s.extract 1 s.size = tl s := rfl
            rw [et]
            generalize tl s = t at *
            have T5 := Aside0.mk t5
            clear et t5 hx'
            by_cases h1 : c = 128
            · have q1 : ((c : Int) == 128) = true := beq_iff_eq.2 (by omega)
              rw [if_pos (by omega)] at H
              by_cases h2 : s.size = 1
              · rw [if_pos h2] at H
                simp only [Option.some.injEq, Prod.mk.injEq] at H
                obtain ⟨h3, rfl⟩ := H
                have H3 := Aside0.mk h3
                have t7 := toList_nil (show t.size = 0 by omega)
                have kq := HW.out.str (P := Try.prog) (src := 35) (dst := 9) Try.underlying35 Try.underlying5 Try.underlying9
                clear h3 h2 t2 h1
                go_wp2
                go_ret2
                rw [← H3.out]
                exact ⟨rfl, HB.out⟩
              · rw [if_neg h2] at H
                simp only [Option.some.injEq, Prod.mk.injEq] at H
                obtain ⟨rfl, rfl⟩ := H
                have t7 := toList_some (show t.size ≠ 0 by omega)
                clear t2 h1
                go_wp2
                go_ret2
                exact ⟨rfl, HB.out⟩
            · have q1 : ((c : Int) == 128) = false := beq_eq_false_iff_ne.2 (by omega)
              rw [if_neg (by omega)] at H
              by_cases h2 : c < 128
              · have q2 : decide ((c : Int) < 128) = true := decide_eq_true (by omega)
                rw [HL.out h2] at H
                by_cases h3 : t.size < c + 1
                · rw [if_pos h3] at H
                  simp only [Option.some.injEq, Prod.mk.injEq] at H
                  obtain ⟨rfl, rfl⟩ := H
                  have q3 : decide ((t.size : Int) < (c : Int) + 1) = true := decide_eq_true (by omega)
                  clear t2 h1
                  go_wp2
                  go_ret2
                  exact ⟨rfl, HB.out⟩
                · rw [if_neg h3] at H
                  simp only at H
                  have q3 : decide ((t.size : Int) < (c : Int) + 1) = false := decide_eq_false (by omega)
                  have HH := Aside0.mk H
                  have hr1 := HW.out
                  have hbl := HB.out
                  have hl2 : xs.length + (t.extract 0 (c + 1)).size ≤ 140737488355328 := by rw [ByteArray.size_extract]; omega
                  have ksl : ∀ W : World, (Instr.slice 9 (.string t) none (some (.int .i64 ((c : Int) + 1))) none).run Try.prog W = .ok (.string (t.extract 0 (c + 1))) W := fun W => by
                    have := run_slice_string_h (P := Try.prog) W 9 t Try.underlying9 .i64 ((c : Int) + 1) (by omega) (by omega)
                    rwa [show ((c : Int) + 1).toNat = c + 1 by omega] at this
                  clear t2 h1 H HW HB HL HRn
                  go_wp2_with (first | (refine appstr_wp w.heap.size rfl (.tmp 36) (.tmp 39) 35 9 5 rfl Try.underlying35 Try.underlying9 infoU8 (.slice A n m) xs (t.extract 0 (c + 1)) rfl rfl hr1 hBw hl2 ?_; intro v3 w3 hap; obtain ⟨A3, n3, m3, hv3, hn3⟩ := hap.row.shape; subst hv3))
                  · have h9 : a1 < (n3 : Int) := by assumption
                    have H := HH.out
                    rw [← hn3.out, if_pos h9] at H
                    simp only [Option.some.injEq, Prod.mk.injEq] at H
                    obtain ⟨rfl, rfl⟩ := H
                    go_ret2
                    exact ⟨rfl, hbl.trans (hap.below hr1 hBw)⟩
                  · have h9 : (n3 : Int) ≤ a1 := by assumption
                    have H := HH.out
                    rw [← hn3.out, if_neg (by omega), ← T5.out (c + 1)] at H
                    go_roundg k1
                    case measure => omega
                    case rel => exact ⟨_, _, _, _, _, rfl, rfl, ⟨H⟩, hn3, ⟨hap.row⟩, ⟨hbl.trans (hap.below hr1 hBw)⟩⟩
              · have q2 : decide ((c : Int) < 128) = false := decide_eq_false (by omega)
                rw [HRn.out h2] at H
                by_cases h3 : t.size < 1
                · rw [if_pos h3] at H
                  simp only [Option.some.injEq, Prod.mk.injEq] at H
                  obtain ⟨rfl, rfl⟩ := H
                  have q3 : decide ((t.size : Int) < 1) = true := decide_eq_true (by omega)
                  clear t2 h1
                  go_wp2
                  go_ret2
                  exact ⟨rfl, HB.out⟩
                · rw [if_neg h3] at H
                  simp only at H
                  have q3 : decide ((t.size : Int) < 1) = false := decide_eq_false (by omega)
                  have HH := Aside0.mk H
                  have HR1 := HW
                  have hbl := HB.out
                  have t6 : 0 < t.size := by omega
                  have hx := bt_nat t 0 t6
                  have hx' : (t[0].toNat : Int) = bt t 0 := hx.symm
                  clear t2 h1 H HW HB HL HRn hx
                  generalize bt t 0 = x at *
                  obtain ⟨wo, rfl⟩ : ∃ wo : World, wo = wr := ⟨_, rfl⟩
                  go_wp2_with fail
                  go_loopw [6, 9] (fun v6 v9 w2 => ∃ (i : Nat) (A2 : Option Addr) (n2 m2 : Nat), c ≤ i ∧ i ≤ 257 ∧ v9 = .int .i64 i ∧ v6 = .slice A2 n2 m2 ∧ Aside0 (n2 = (xs ++ List.replicate (i - c) x).length) ∧
                    Aside0 (Row w2 w.heap.size 5 .u8 (.slice A2 n2 m2) (xs ++ List.replicate (i - c) x)) ∧ Aside0 (Below w.heap.size w w2)) (fun _ v9 _ => 257 - (intOf v9).toNat)
                  case atStart => exact ⟨c, A, n, m, Nat.le_refl _, by omega, rfl, rfl, ⟨by rw [HN.out]; simp⟩, ⟨by simpa using HR1.out⟩, ⟨hbl⟩⟩
                  case round =>
                    obtain ⟨i, A2, n2, m2, i1, i2, rfl, rfl, HN2, HR2, HB2⟩ := hrel
                    have hB2 := HB2.out.size
                    have hln : (xs ++ List.replicate (i - c) x).length ≤ 1000000000257 := by rw [List.length_append, List.length_replicate]; omega
                    by_cases hlt : i < 257
                    · go_wp2_with (first | (at_builtin; refine app_wp w.heap.size rfl _ _ 35 5 .u8 1 rfl Try.underlying35 infoU8 (.slice A2 n2 m2) (xs ++ List.replicate (i - c) x) [x] rfl ⟨wr.heap.size, 0, none⟩ 1 1 rfl rfl (news_lit wr .u8 [x] _ _ (by rfl)) (HR2.out.alloc _) (by simp; omega) (by unfold maxLen; omega) (by omega) ?_; intro v3 w3 hap; obtain ⟨A3, n3, m3, hv3, hn3⟩ := hap.row.shape; subst hv3))
                      have e1 : xs ++ List.replicate (i - c) x ++ [x] = xs ++ List.replicate (i + 1 - c) x := by
                        rw [show i + 1 - c = (i - c) + 1 by omega, List.replicate_succ', List.append_assoc]
                      have hR3 := hap.row
                      have hb3 := HB2.out.trans (hap.below1 HR2.out hB2)
                      have hn3' := hn3.out
                      rw [e1] at hR3 hn3'
                      go_roundw
                      case rel => exact ⟨i + 1, A3, n3, m3, by omega, by omega, by go_num, rfl, ⟨hn3'⟩, ⟨hR3⟩, ⟨hb3⟩⟩
                      case measure => simp [intOf]; omega
                    · obtain rfl : i = 257 := by omega
                      have hle2 : n2 ≤ 1000000000257 := by rw [HN2.out]; exact hln
                      go_wp2
                      · have h9 : a1 < (n2 : Int) := by assumption
                        have H := HH.out
                        rw [← HN2.out, if_pos h9] at H
                        simp only [Option.some.injEq, Prod.mk.injEq] at H
                        obtain ⟨rfl, rfl⟩ := H
                        go_ret2
                        exact ⟨rfl, HB2.out⟩
                      · have h9 : (n2 : Int) ≤ a1 := by assumption
                        have H := HH.out
                        rw [← HN2.out, if_neg (by omega), ← T5.out 1] at H
                        go_roundg k1
                        case measure => omega
                        case rel => exact ⟨_, _, _, _, _, rfl, rfl, ⟨H⟩, HN2, HR2, HB2⟩
        · rw [if_neg hg] at H
          cases H
end Go.Proofs.Ytgoajdnofekcaaa.Hand
