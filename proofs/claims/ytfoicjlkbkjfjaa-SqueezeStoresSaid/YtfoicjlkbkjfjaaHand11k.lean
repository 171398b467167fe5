/- Squeeze: Stored; walked by hand. -/
import Derived.Test.YtfoicjlkbkjfjaaHand11i
namespace Go.Proofs.Ytfoicjlkbkjfjaa.Hand
open Go.RowKit Go.Proofs.YtfoicjlkbkjfjaaW.PrintWords Go.Proofs.YtfoicjlkbkjfjaaW.PrintLast Go.Proofs.YtfoicjlkbkjfjaaW.PrintMore Go.Proofs.Ytfoicjlkbkjfjaa.Num Go.Proofs.Ytfoicjlkbkjfjaa.Bits
set_option linter.unusedVariables false
set_option linter.unusedSimpArgs false
theorem s_xor (a : Nat) (h : a < 65536) : bits .xor .i64 65535 (a : Int) = 65535 - (a : Int) := by
  have h3 : 65535 ^^^ a = 65535 - a := by
    refine Nat.eq_of_testBit_eq (fun i => ?_)
    rw [Nat.testBit_xor, show 65535 - a = 2 ^ 16 - (a + 1) by omega, Nat.testBit_two_pow_sub_succ (by omega), show (65535 : Nat) = 2 ^ 16 - 1 from rfl, Nat.testBit_two_pow_sub_one]
    by_cases hi : i < 16
    · simp [hi]
    · have : a.testBit i = false := Nat.testBit_lt_two_pow (Nat.lt_of_lt_of_le h (Nat.pow_le_pow_right (n := 2) (i := 16) (by decide) (by omega)))
      simp [hi, this]
  have h2 : (BitVec.ofInt 64 (a : Int)).toNat = a := by rw [BitVec.ofInt_natCast, BitVec.toNat_ofNat]; exact Nat.mod_eq_of_lt (by omega)
  have h1 : (BitVec.ofInt 64 (65535 : Int)).toNat = 65535 := by decide
  show IntKind.i64.wrap ((BitVec.ofInt 64 (65535 : Int) ^^^ BitVec.ofInt 64 (a : Int)).toNat : Int) = _
  rw [BitVec.toNat_xor, h1, h2, IntKind.wrap_i64, h3]
  omega
theorem bytes_extract_succ (s : ByteArray) (i : Nat) (h : i < s.size) : bytesOf (s.extract 0 (i + 1)) = bytesOf (s.extract 0 i) ++ [bt s i] := by
  have h2 : (bytesOf s)[i]? = some (bt s i) := by rw [bytesOf_get?, if_pos h]
  rw [bytesOf_extract, bytesOf_extract, List.drop_zero, List.drop_zero, List.take_add_one, h2]
  rfl
theorem alignL_le (L : List Int) : (alignL L).length ≤ L.length + 7 := by
  unfold alignL
  rw [List.length_append, List.length_replicate]
  omega
theorem headB_le (s : ByteArray) (L : List Int) : (headB s L).length ≤ L.length + 42 := by
  unfold headB
  simp only [List.length_append, bitsN_length]
  have := alignL_le (L ++ bitsN (if s.size ≤ 65535 then 1 else 0) 1 ++ bitsN 0 2)
  simp only [List.length_append, bitsN_length] at this
  omega
set_option maxRecDepth 100000 in
set_option maxHeartbeats 1500000 in
theorem sstored_calls (w : World) (s : ByteArray) (hs : s.size ≤ 100000) :
    Calls Try.prog 10 #[.string s] w fun e w' => e = .returned (.string (storeF s)) ∧ Below w.heap.size w w' := by
  go_enter Try.func10, Try.ntmps10
  go_wp2_with fail
  have hW := WrAt.new w w.heap.size
  have hB := below_alloc (Below.refl w.heap.size w) (.cells #[.int .i64 0, .int .i64 0, .slice none 0 0] 39)
  have H0 : Aside0 (_ ∧ _) := ⟨hW, hB⟩
  generalize (w.alloc (.cells #[.int .i64 0, .int .i64 0, .slice none 0 0] 39)) = W0 at *
  clear hW hB
  go_loopw [0] (fun v0 wr => ∃ (k : Nat) (s2 : ByteArray) (L : List Int), v0 = .string s2 ∧ s2.size ≤ 100000 ∧ s2.size < 65535 * k ∧ L.length + 20 * s2.size ≤ 2000100 ∧ Aside0 (storeB k s2 L = storeB (s.size / 65535 + 1) s [] ∧ WrAt wr w.heap.size w.heap.size 39 [] L ∧ Below w.heap.size w wr)) (fun v0 _ => (match v0 with | .string t => t.size | _ => 0))
  case atStart => exact ⟨_, s, [], rfl, hs, by omega, by simp; omega, ⟨rfl, H0.out.1, H0.out.2⟩⟩
  case round =>
    clear H0
    obtain ⟨k, s2, L, rfl, hs2, hk, hL, HR⟩ := hrel
    obtain ⟨k, rfl⟩ : ∃ k', k = k' + 1 := ⟨k - 1, by omega⟩
    have heq := HR.out.1
    rw [storeB] at heq
    obtain ⟨n, hn⟩ : ∃ n : Nat, n = min s2.size 65535 := ⟨_, rfl⟩
    have q1 : min (s2.size : Int) 65535 = (n : Int) := by omega
    have hn1 : n ≤ 65535 := by omega
    have hn2 : n ≤ s2.size := by omega
    have HN := Aside0.mk hn
    clear hn
    by_cases hl : s2.size ≤ 65535
    · obtain rfl : n = s2.size := by have := HN.out; omega
      have q2 : ((s2.size : Int) == (s2.size : Int)) = true := by rw [beq_iff_eq]
      rw [if_pos hl] at heq
      have HEQ := Aside0.mk heq
      have HHD : Aside0 (headB s2 L = alignL (L ++ bitsN 1 1 ++ bitsN 0 2) ++ bitsN (s2.size : Int) 16 ++ bitsN (65535 - (s2.size : Int)) 16) := ⟨by unfold headB; rw [if_pos hl, ← HN.out]⟩
      clear heq
      have K1 := Aside0.mk (wr_put wr w.heap.size w.heap.size 39 [] L 1 1 HR.out.2.1 (by decide) (by decide) (by decide) (by decide) (by omega) HR.out.2.2.size)
      go_wp2_with fail
      refine K1.out.mono ?_
      rintro e w1 ⟨rfl, hw1, hf1⟩
      have hB1 : w.heap.size ≤ w1.heap.size := Nat.le_trans HR.out.2.2.size hf1.size
      have K2 := Aside0.mk (wr_put w1 w.heap.size w.heap.size 39 [] _ 0 2 hw1 (by decide) (by decide) (by decide) (by decide) (by rw [List.length_append, bitsN_length]; omega) hB1)
      have F1 := Aside0.mk hf1
      clear hw1 hf1 K1
      go_wp2_with fail
      refine K2.out.mono ?_
      rintro e w2 ⟨rfl, hw2, hf2⟩
      have hB2 : w.heap.size ≤ w2.heap.size := Nat.le_trans hB1 hf2.size
      have K3 := Aside0.mk (wr_align w2 w.heap.size w.heap.size 39 [] _ hw2 (by decide) (by rw [List.length_append, List.length_append, bitsN_length, bitsN_length]; omega) hB2)
      have F2 := Aside0.mk (F1.out.su hf2)
      clear hw2 hf2 K2 F1
      go_wp2_with fail
      refine K3.out.mono ?_
      rintro e w3 ⟨rfl, hw3, hf3⟩
      have hB3 : w.heap.size ≤ w3.heap.size := Nat.le_trans hB2 hf3.size
      have hal := alignL_le (L ++ bitsN 1 1 ++ bitsN 0 2)
      rw [List.length_append, List.length_append, bitsN_length, bitsN_length] at hal
      have K4 := Aside0.mk (wr_put w3 w.heap.size w.heap.size 39 [] _ (s2.size : Int) 16 hw3 (by decide) (by omega) (by omega) (by decide) (by omega) hB3)
      have F3 := Aside0.mk (F2.out.su hf3)
      clear hw3 hf3 K3 F2
      go_wp2_with fail
      have K4 := K4.out
      rw [show ((16 : Nat) : Int) = 16 from rfl] at K4
      refine K4.mono ?_
      rintro e w4 ⟨rfl, hw4, hf4⟩
      have hB4 : w.heap.size ≤ w4.heap.size := Nat.le_trans hB3 hf4.size
      have hxr := s_xor s2.size (by omega)
      have K5 := Aside0.mk (wr_put w4 w.heap.size w.heap.size 39 [] _ (65535 - (s2.size : Int)) 16 hw4 (by decide) (by omega) (by omega) (by decide) (by rw [List.length_append, bitsN_length]; omega) hB4)
      rw [← HHD.out] at K5
      have F4 := Aside0.mk (F3.out.su hf4)
      clear hw4 hf4 K4 F3 hal
      go_wp2_with fail
      have K5 := K5.out
      rw [show ((16 : Nat) : Int) = 16 from rfl] at K5
      refine K5.mono ?_
      rintro e w5 ⟨rfl, hw5, hf5⟩
      have F5 : Aside0 (_ ∧ _) := ⟨hw5, HR.out.2.2.trans ((F4.out.su hf5).suBelow (Nat.le_refl _) (Nat.le_refl _) HR.out.2.2.size)⟩
      have hhd := headB_le s2 L
      clear hw5 hf5 K5 F4 HR hxr hB1 hB2 hB3 hB4
      go_wp2_with fail
      go_loopw [24] (fun v24 wq => ∃ i : Nat, v24 = .int .i64 (i : Int) ∧ i ≤ s2.size ∧ Aside0 (WrAt wq w.heap.size w.heap.size 39 [] (headB s2 L ++ flat (bytesOf (s2.extract 0 i))) ∧ Below w.heap.size w wq)) (fun v24 _ => s2.size - (intOf v24).toNat)
      case atStart => exact ⟨0, rfl, by omega, ⟨by
        have e : flat (bytesOf (s2.extract 0 0)) = [] := by rw [bytesOf_extract]; rfl
        rw [e, List.append_nil]; exact F5.out.1, F5.out.2⟩⟩
      case round =>
        clear F5
        obtain ⟨i, rfl, hi, HW⟩ := hrel
        have hlen : (bytesOf (s2.extract 0 i)).length = i := by rw [bytesOf_length, ByteArray.size_extract]; omega
        by_cases hlt : i < s2.size
        · have r1 : decide ((i : Int) < (s2.size : Int)) = true := decide_eq_true (by omega)
          have r1n : decide (i < s2.size) = true := decide_eq_true hlt
          have hby := bt_byte s2 (i : Int)
          have a0 : i < s2.size := by omega
          have n0 : (s2[i].toNat : Int) = bt s2 (i : Int) := (bt_nat s2 i a0).symm
          have HS := Aside0.mk (bytes_extract_succ s2 i a0)
          obtain ⟨y, hy⟩ : ∃ y, y = bt s2 (i : Int) := ⟨_, rfl⟩
          rw [← hy] at hby n0 HS
          have qw : IntKind.i64.wrap y = y := IntWalk.i64_in _ (by omega)
          have K6 := Aside0.mk (wr_put wr w.heap.size w.heap.size 39 [] _ y 8 HW.out.1 (by decide) hby.1 (by omega) (by decide) (by rw [List.length_append, flat_length, hlen]; omega) HW.out.2.size)
          clear hy
          go_wp2_with fail
          have K6 := K6.out
          rw [show ((8 : Nat) : Int) = 8 from rfl] at K6
          refine K6.mono ?_
          rintro e w6 ⟨rfl, hw6, hf6⟩
          have F6 : Aside0 (_ ∧ _) := ⟨hw6, HW.out.2.trans (hf6.suBelow (Nat.le_refl _) (Nat.le_refl _) HW.out.2.size)⟩
          clear hw6 hf6 K6
          go_wp2_with fail
          go_roundw
          case rel => exact ⟨i + 1, by go_num, by omega, ⟨by rw [HS.out, flat_snoc, ← List.append_assoc]; exact F6.out.1, F6.out.2⟩⟩
          case measure => simp [intOf]; omega
        · have r1 : decide ((i : Int) < (s2.size : Int)) = false := decide_eq_false (by omega)
          have r1n : decide (i < s2.size) = false := decide_eq_false hlt
          obtain rfl : i = s2.size := by omega
          rw [ByteArray.extract_zero_size] at HW
          have HT := Aside0.mk (wr_text wr w.heap.size w.heap.size _ _ _ HW.out.1 (by rw [List.length_append, flat_length, bytesOf_length]; omega))
          go_wp2_with fail
          refine HT.out.mono ?_
          rintro e w7 ⟨t, rfl, ht, hb7⟩
          go_wp2_with fail
          go_returns
          rw [HEQ.out] at ht
          obtain rfl := TextOf.textL ht
          exact ⟨rfl, HW.out.2.trans (hb7.mono HW.out.2.size)⟩
    · obtain rfl : n = 65535 := by have := HN.out; omega
      have q2 : ((65535 : Int) == (s2.size : Int)) = false := by rw [beq_eq_false_iff_ne]; omega
      rw [if_neg hl] at heq
      have HEQ := Aside0.mk heq
      have HHD : Aside0 (headB s2 L = alignL (L ++ bitsN 0 1 ++ bitsN 0 2) ++ bitsN (65535 : Int) 16 ++ bitsN (65535 - (65535 : Int)) 16) := ⟨by unfold headB; rw [if_neg hl, ← HN.out]; rfl⟩
      clear heq
      have K1 := Aside0.mk (wr_put wr w.heap.size w.heap.size 39 [] L 0 1 HR.out.2.1 (by decide) (by decide) (by decide) (by decide) (by omega) HR.out.2.2.size)
      go_wp2_with fail
      refine K1.out.mono ?_
      rintro e w1 ⟨rfl, hw1, hf1⟩
      have hB1 : w.heap.size ≤ w1.heap.size := Nat.le_trans HR.out.2.2.size hf1.size
      have K2 := Aside0.mk (wr_put w1 w.heap.size w.heap.size 39 [] _ 0 2 hw1 (by decide) (by decide) (by decide) (by decide) (by rw [List.length_append, bitsN_length]; omega) hB1)
      have F1 := Aside0.mk hf1
      clear hw1 hf1 K1
      go_wp2_with fail
      refine K2.out.mono ?_
      rintro e w2 ⟨rfl, hw2, hf2⟩
      have hB2 : w.heap.size ≤ w2.heap.size := Nat.le_trans hB1 hf2.size
      have K3 := Aside0.mk (wr_align w2 w.heap.size w.heap.size 39 [] _ hw2 (by decide) (by rw [List.length_append, List.length_append, bitsN_length, bitsN_length]; omega) hB2)
      have F2 := Aside0.mk (F1.out.su hf2)
      clear hw2 hf2 K2 F1
      go_wp2_with fail
      refine K3.out.mono ?_
      rintro e w3 ⟨rfl, hw3, hf3⟩
      have hB3 : w.heap.size ≤ w3.heap.size := Nat.le_trans hB2 hf3.size
      have hal := alignL_le (L ++ bitsN 0 1 ++ bitsN 0 2)
      rw [List.length_append, List.length_append, bitsN_length, bitsN_length] at hal
      have K4 := Aside0.mk (wr_put w3 w.heap.size w.heap.size 39 [] _ (65535 : Int) 16 hw3 (by decide) (by omega) (by omega) (by decide) (by omega) hB3)
      have F3 := Aside0.mk (F2.out.su hf3)
      clear hw3 hf3 K3 F2
      go_wp2_with fail
      have K4 := K4.out
      rw [show ((16 : Nat) : Int) = 16 from rfl] at K4
      refine K4.mono ?_
      rintro e w4 ⟨rfl, hw4, hf4⟩
      have hB4 : w.heap.size ≤ w4.heap.size := Nat.le_trans hB3 hf4.size
      have hxr := s_xor 65535 (by omega)
      have K5 := Aside0.mk (wr_put w4 w.heap.size w.heap.size 39 [] _ (65535 - (65535 : Int)) 16 hw4 (by decide) (by omega) (by omega) (by decide) (by rw [List.length_append, bitsN_length]; omega) hB4)
      rw [← HHD.out] at K5
      have F4 := Aside0.mk (F3.out.su hf4)
      clear hw4 hf4 K4 F3 hal
      go_wp2_with fail
      have K5 := K5.out
      rw [show ((16 : Nat) : Int) = 16 from rfl] at K5
      refine K5.mono ?_
      rintro e w5 ⟨rfl, hw5, hf5⟩
      have F5 : Aside0 (_ ∧ _) := ⟨hw5, HR.out.2.2.trans ((F4.out.su hf5).suBelow (Nat.le_refl _) (Nat.le_refl _) HR.out.2.2.size)⟩
      have hhd := headB_le s2 L
      clear hw5 hf5 K5 F4 HR hxr hB1 hB2 hB3 hB4
      go_wp2_with fail
      go_loopw [24] (fun v24 wq => ∃ i : Nat, v24 = .int .i64 (i : Int) ∧ i ≤ 65535 ∧ Aside0 (WrAt wq w.heap.size w.heap.size 39 [] (headB s2 L ++ flat (bytesOf (s2.extract 0 i))) ∧ Below w.heap.size w wq)) (fun v24 _ => 65535 - (intOf v24).toNat)
      case atStart => exact ⟨0, rfl, by omega, ⟨by
        have e : flat (bytesOf (s2.extract 0 0)) = [] := by rw [bytesOf_extract]; rfl
        rw [e, List.append_nil]; exact F5.out.1, F5.out.2⟩⟩
      case round =>
        clear F5
        obtain ⟨i, rfl, hi, HW⟩ := hrel
        have hlen : (bytesOf (s2.extract 0 i)).length = i := by rw [bytesOf_length, ByteArray.size_extract]; omega
        by_cases hlt : i < 65535
        · have r1 : decide ((i : Int) < (65535 : Int)) = true := decide_eq_true (by omega)
          have r1n : decide (i < 65535) = true := decide_eq_true hlt
          have hby := bt_byte s2 (i : Int)
          have a0 : i < s2.size := by omega
          have n0 : (s2[i].toNat : Int) = bt s2 (i : Int) := (bt_nat s2 i a0).symm
          have HS := Aside0.mk (bytes_extract_succ s2 i a0)
          obtain ⟨y, hy⟩ : ∃ y, y = bt s2 (i : Int) := ⟨_, rfl⟩
          rw [← hy] at hby n0 HS
          have qw : IntKind.i64.wrap y = y := IntWalk.i64_in _ (by omega)
          have K6 := Aside0.mk (wr_put wr w.heap.size w.heap.size 39 [] _ y 8 HW.out.1 (by decide) hby.1 (by omega) (by decide) (by rw [List.length_append, flat_length, hlen]; omega) HW.out.2.size)
          clear hy
          go_wp2_with fail
          have K6 := K6.out
          rw [show ((8 : Nat) : Int) = 8 from rfl] at K6
          refine K6.mono ?_
          rintro e w6 ⟨rfl, hw6, hf6⟩
          have F6 : Aside0 (_ ∧ _) := ⟨hw6, HW.out.2.trans (hf6.suBelow (Nat.le_refl _) (Nat.le_refl _) HW.out.2.size)⟩
          clear hw6 hf6 K6
          go_wp2_with fail
          go_roundw
          case rel => exact ⟨i + 1, by go_num, by omega, ⟨by rw [HS.out, flat_snoc, ← List.append_assoc]; exact F6.out.1, F6.out.2⟩⟩
          case measure => simp [intOf]; omega
        · have r1 : decide ((i : Int) < (65535 : Int)) = false := decide_eq_false (by omega)
          have r1n : decide (i < 65535) = false := decide_eq_false hlt
          obtain rfl : i = 65535 := by omega
          have hxs : (s2.extract 65535 s2.size).size = s2.size - 65535 := by rw [ByteArray.size_extract]; omega
          have hi5 : Aside0 ((65535 : Nat) = 65535) := ⟨rfl⟩
          go_wp2_with fail
          go_roundw
          case rel => exact ⟨k, s2.extract 65535 s2.size, _, rfl, by omega, by have := hi5.out; omega, by rw [List.length_append, flat_length, hlen, hxs]; have := hi5.out; omega, ⟨by rw [← HEQ.out, hi5.out], HW.out⟩⟩
          case measure => show (s2.extract 65535 s2.size).size < s2.size; have := hi5.out; omega
end Go.Proofs.Ytfoicjlkbkjfjaa.Hand
