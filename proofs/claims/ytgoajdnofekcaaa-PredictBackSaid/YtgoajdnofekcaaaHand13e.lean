/- The contract of the document's Encode of layer 13: a plain Lean function tells what it tells. -/
import Derived.Test.YtgoajdnofekcaaaHandBase
import Derived.Test.YtgoajdnofekcaaaNum
namespace Go.Proofs.Ytgoajdnofekcaaa.Hand
open Go.RowKit Go.Proofs.YtgoajdnofekcaaaW.PrintWords Go.Proofs.YtgoajdnofekcaaaW.PrintLast Go.Proofs.YtgoajdnofekcaaaW.PrintMore Go.Proofs.Ytgoajdnofekcaaa.Num
set_option linter.unusedVariables false
set_option linter.unusedSimpArgs false

/-- The byte above. -/
def aboveB (s : ByteArray) (n i : Nat) : Int := if n ≤ i then bt s ((i - n : Nat) : Int) else 0
/-- What is told of the first i bytes. -/
def pencTo (s : ByteArray) (n : Nat) : Nat → List Int
  | 0 => []
  | i + 1 => (if i % n = 0 then pencTo s n i ++ [2] else pencTo s n i) ++ [(bt s i - aboveB s n i) % 256]
theorem pencTo_length (s : ByteArray) (n : Nat) (i : Nat) : (pencTo s n i).length ≤ 2 * i := by
  induction i with
  | zero => simp [pencTo]
  | succ i ih => rw [pencTo]; split <;> simp <;> omega
def binderyref13_Encode.f (a0 : ByteArray) (a1 : Int) : Option (ByteArray × Int) :=
  if a0.size ≤ 1000000 then (if 1 ≤ a1 ∧ a1 ≤ 256 then (if (a0.size : Int) % a1 = 0 then some (strOfNums (pencTo a0 a1.toNat a0.size), 0) else some (⟨#[]⟩, 4)) else some (⟨#[]⟩, 2)) else none

set_option maxRecDepth 100000 in
set_option maxHeartbeats 2000000 in
theorem binderyref13_Encode.calls (a0 : ByteArray) (a1 : Int) (r1 : ByteArray) (r2 : Int) (w : World) (h : binderyref13_Encode.f a0 a1 = some (r1, r2)) :
    Calls Try.prog 28 #[.string a0, .int .i64 a1] w fun e w' => e = .returned (.tuple #[.string r1, .int .i64 r2]) ∧ Below w.heap.size w w' := by
  unfold binderyref13_Encode.f at h
  by_cases hs : a0.size ≤ 1000000
  · rw [if_pos hs] at h
    by_cases hm : 1 ≤ a1 ∧ a1 ≤ 256
    · rw [if_pos hm] at h
      obtain ⟨m1, m2⟩ := hm
      have d1 : decide (a1 < 1) = false := decide_eq_false (by omega)
      have d2 : decide ((256 : Int) < a1) = false := decide_eq_false (by omega)
      by_cases hd : (a0.size : Int) % a1 = 0
      · rw [if_pos hd] at h
        obtain ⟨n, rfl⟩ := Int.eq_ofNat_of_zero_le (show 0 ≤ a1 by omega)
        rw [Int.toNat_natCast] at h
        simp only [Option.some.injEq, Prod.mk.injEq] at h
        obtain ⟨h1, rfl⟩ := h
        have H1 := Aside0.mk h1
        have q1 : ((a0.size : Int) % (n : Int) != 0) = false := bne_eq_false_iff_eq.2 hd
        clear h1 hd
        go_enter Try.func28, Try.ntmps28
        go_wp2_with fail
        have hR0 := Row.empty w w.heap.size 5 .u8 (Nat.le_refl _)
        have hb0 := below_alloc (Below.refl w.heap.size w) (.cells #[] 5)
        go_loopw [6, 7] (fun v6 v7 wr => ∃ (i : Nat) (A : Option Addr) (m c : Nat), i ≤ a0.size ∧ v7 = .int .i64 i ∧ v6 = .slice A m c ∧ Aside0 (Row wr w.heap.size 5 .u8 (.slice A m c) (pencTo a0 n i)) ∧ Aside0 (Below w.heap.size w wr)) (fun _ v7 _ => a0.size - (intOf v7).toNat)
        case atStart => exact ⟨0, _, 0, 0, Nat.zero_le _, rfl, rfl, ⟨hR0⟩, ⟨hb0⟩⟩
        case round =>
          clear hR0 hb0
          obtain ⟨i, A, m, c, hi, rfl, rfl, HR, HB⟩ := hrel
          have hBw := HB.out.size
          have hlen := pencTo_length a0 n i
          by_cases hlt : i < a0.size
          · have hx : (a0[i].toNat : Int) = bt a0 i := (bt_nat a0 i hlt).symm
            have rx := bt_range a0 i
            have habv : ∃ z : Int, z = aboveB a0 n i ∧ 0 ≤ z ∧ z ≤ 255 := ⟨_, rfl, by unfold aboveB; split; exact (bt_range _ _).1; omega, by unfold aboveB; split; exact (bt_range _ _).2; omega⟩
            obtain ⟨z, hz, z0, z1⟩ := habv
            obtain ⟨x, hxx⟩ : ∃ x, x = bt a0 i := ⟨_, rfl⟩
            rw [← hxx] at hx rx
            have hstep : pencTo a0 n (i + 1) = (if i % n = 0 then pencTo a0 n i ++ [2] else pencTo a0 n i) ++ [(x - z) % 256] := by rw [hxx, hz]; rfl
            have HZ := Aside0.mk hz
            have HS := Aside0.mk hstep
            clear hz hxx hstep
            by_cases hmod : i % n = 0
            · have q2 : ((i : Int) % (n : Int) == 0) = true := beq_iff_eq.2 (by omega)
              rw [if_pos hmod] at HS
              clear hmod
              have hl2 : (pencTo a0 n i ++ [2]).length ≤ 2 * i + 1 := by rw [List.length_append, List.length_singleton]; omega
              by_cases hni : n ≤ i
              · have q3 : decide ((n : Int) ≤ (i : Int)) = true := decide_eq_true (by omega)
                have q3' : decide (n ≤ i) = true := decide_eq_true hni
                obtain ⟨j, hj⟩ : ∃ j : Nat, j = i - n := ⟨_, rfl⟩
                have hj2 : (i : Int) - (n : Int) = (j : Int) := by omega
                have hjl : j < a0.size := by omega
                have hxj : (a0[j].toNat : Int) = z := by rw [← bt_nat a0 j hjl, HZ.out, aboveB, if_pos hni, ← hj]
                clear hj
                go_wp2_with (first | (at_builtin; refine app_wp w.heap.size rfl (.tmp 31) (.tmp 32) 35 5 .u8 1 rfl Try.underlying35 infoU8 (.slice A m c) (pencTo a0 n i) [2] rfl ⟨wr.heap.size, 0, none⟩ 1 1 rfl rfl (news_lit wr .u8 [2] _ _ (by rfl)) (HR.out.alloc _) (by simp; omega) (by unfold maxLen; omega) (by omega) ?_; intro v2 w2 hap2; obtain ⟨A2, m2, c2, hv2, hn2⟩ := hap2.row.shape; subst hv2; have hR2 := hap2.row; have hb2 := hap2.below1 HR.out hBw; have hs2 := hb2.size) | (at_builtin; refine app_wp w.heap.size rfl (.tmp 42) (.tmp 48) 35 5 .u8 1 rfl Try.underlying35 infoU8 (.slice A2 m2 c2) (pencTo a0 n i ++ [2]) [(x - z) % 256] rfl ⟨w2.heap.size, 0, none⟩ 1 1 rfl rfl (news_lit w2 .u8 [(x - z) % 256] _ _ (by rfl)) (hR2.alloc _) (by simp; omega) (by unfold maxLen; omega) (by omega) ?_; intro v3 w3 hap; obtain ⟨A3, n3, m3, hv3, hn3⟩ := hap.row.shape; subst hv3))
                have hR3 := hap.row
                have hb3 := (HB.out.trans hb2).trans (hap.below1 hR2 (by omega))
                rw [← HS.out] at hR3
                go_roundw
                case rel => exact ⟨i + 1, A3, n3, m3, by omega, by go_num, rfl, ⟨hR3⟩, ⟨hb3⟩⟩
                case measure => simp [intOf]; omega
              · have q3 : decide ((n : Int) ≤ (i : Int)) = false := decide_eq_false (by omega)
                have q3' : decide (n ≤ i) = false := decide_eq_false hni
                have hz0 : z = 0 := by rw [HZ.out, aboveB, if_neg hni]
                subst hz0
                have hx0 : (x - 0) % 256 = x := by omega
                rw [hx0] at HS
                clear hx0
                go_wp2_with (first | (at_builtin; refine app_wp w.heap.size rfl (.tmp 31) (.tmp 32) 35 5 .u8 1 rfl Try.underlying35 infoU8 (.slice A m c) (pencTo a0 n i) [2] rfl ⟨wr.heap.size, 0, none⟩ 1 1 rfl rfl (news_lit wr .u8 [2] _ _ (by rfl)) (HR.out.alloc _) (by simp; omega) (by unfold maxLen; omega) (by omega) ?_; intro v2 w2 hap2; obtain ⟨A2, m2, c2, hv2, hn2⟩ := hap2.row.shape; subst hv2; have hR2 := hap2.row; have hb2 := hap2.below1 HR.out hBw; have hs2 := hb2.size) | (at_builtin; refine app_wp w.heap.size rfl (.tmp 42) (.tmp 48) 35 5 .u8 1 rfl Try.underlying35 infoU8 (.slice A2 m2 c2) (pencTo a0 n i ++ [2]) [x] rfl ⟨w2.heap.size, 0, none⟩ 1 1 rfl rfl (news_lit w2 .u8 [x] _ _ (by rfl)) (hR2.alloc _) (by simp; omega) (by unfold maxLen; omega) (by omega) ?_; intro v3 w3 hap; obtain ⟨A3, n3, m3, hv3, hn3⟩ := hap.row.shape; subst hv3))
                have hR3 := hap.row
                have hb3 := (HB.out.trans hb2).trans (hap.below1 hR2 (by omega))
                rw [← HS.out] at hR3
                go_roundw
                case rel => exact ⟨i + 1, A3, n3, m3, by omega, by go_num, rfl, ⟨hR3⟩, ⟨hb3⟩⟩
                case measure => simp [intOf]; omega
            · have q2 : ((i : Int) % (n : Int) == 0) = false := beq_eq_false_iff_ne.2 (by omega)
              rw [if_neg hmod] at HS
              clear hmod
              by_cases hni : n ≤ i
              · have q3 : decide ((n : Int) ≤ (i : Int)) = true := decide_eq_true (by omega)
                have q3' : decide (n ≤ i) = true := decide_eq_true hni
                obtain ⟨j, hj⟩ : ∃ j : Nat, j = i - n := ⟨_, rfl⟩
                have hj2 : (i : Int) - (n : Int) = (j : Int) := by omega
                have hjl : j < a0.size := by omega
                have hxj : (a0[j].toNat : Int) = z := by rw [← bt_nat a0 j hjl, HZ.out, aboveB, if_pos hni, ← hj]
                clear hj
                go_wp2_with (first | (at_builtin; refine app_wp w.heap.size rfl (.tmp 42) (.tmp 48) 35 5 .u8 1 rfl Try.underlying35 infoU8 (.slice A m c) (pencTo a0 n i) [(x - z) % 256] rfl ⟨wr.heap.size, 0, none⟩ 1 1 rfl rfl (news_lit wr .u8 [(x - z) % 256] _ _ (by rfl)) (HR.out.alloc _) (by simp; omega) (by unfold maxLen; omega) (by omega) ?_; intro v3 w3 hap; obtain ⟨A3, n3, m3, hv3, hn3⟩ := hap.row.shape; subst hv3))
                have hR3 := hap.row
                have hb3 := HB.out.trans (hap.below1 HR.out hBw)
                rw [← HS.out] at hR3
                go_roundw
                case rel => exact ⟨i + 1, A3, n3, m3, by omega, by go_num, rfl, ⟨hR3⟩, ⟨hb3⟩⟩
                case measure => simp [intOf]; omega
              · have q3 : decide ((n : Int) ≤ (i : Int)) = false := decide_eq_false (by omega)
                have q3' : decide (n ≤ i) = false := decide_eq_false hni
                have hz0 : z = 0 := by rw [HZ.out, aboveB, if_neg hni]
                subst hz0
                have hx0 : (x - 0) % 256 = x := by omega
                rw [hx0] at HS
                clear hx0
                go_wp2_with (first | (at_builtin; refine app_wp w.heap.size rfl (.tmp 42) (.tmp 48) 35 5 .u8 1 rfl Try.underlying35 infoU8 (.slice A m c) (pencTo a0 n i) [x] rfl ⟨wr.heap.size, 0, none⟩ 1 1 rfl rfl (news_lit wr .u8 [x] _ _ (by rfl)) (HR.out.alloc _) (by simp; omega) (by unfold maxLen; omega) (by omega) ?_; intro v3 w3 hap; obtain ⟨A3, n3, m3, hv3, hn3⟩ := hap.row.shape; subst hv3))
                have hR3 := hap.row
                have hb3 := HB.out.trans (hap.below1 HR.out hBw)
                rw [← HS.out] at hR3
                go_roundw
                case rel => exact ⟨i + 1, A3, n3, m3, by omega, by go_num, rfl, ⟨hR3⟩, ⟨hb3⟩⟩
                case measure => simp [intOf]; omega
          · obtain rfl : i = a0.size := by omega
            have kq := HR.out.str (P := Try.prog) (src := 35) (dst := 9) Try.underlying35 Try.underlying5 Try.underlying9
            go_wp2
            go_ret2
            rw [← H1.out]
            exact ⟨rfl, HB.out⟩
      · rw [if_neg hd] at h
        simp only [Option.some.injEq, Prod.mk.injEq] at h
        obtain ⟨rfl, rfl⟩ := h
        have q1 : ((a0.size : Int) % a1 != 0) = true := bne_iff_ne.2 hd
        clear hd
        go_enter Try.func28, Try.ntmps28
        go_wp2
        go_ret2
        exact ⟨rfl, Below.refl _ _⟩
    · rw [if_neg hm] at h
      simp only [Option.some.injEq, Prod.mk.injEq] at h
      obtain ⟨rfl, rfl⟩ := h
      by_cases h1 : a1 < 1
      · have d1 : decide (a1 < 1) = true := decide_eq_true h1
        go_enter Try.func28, Try.ntmps28
        go_wp2
        go_ret2
        exact ⟨rfl, Below.refl _ _⟩
      · have d1 : decide (a1 < 1) = false := decide_eq_false h1
        have d2 : decide ((256 : Int) < a1) = true := decide_eq_true (by omega)
        go_enter Try.func28, Try.ntmps28
        go_wp2
        go_ret2
        exact ⟨rfl, Below.refl _ _⟩
  · rw [if_neg hs] at h
    cases h
end Go.Proofs.Ytgoajdnofekcaaa.Hand
