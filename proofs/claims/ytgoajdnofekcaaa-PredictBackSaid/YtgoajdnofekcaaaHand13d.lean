/- The contract of predict.Decode of the given program: a plain Lean function in rounds tells what it tells. -/
import Derived.Test.YtgoajdnofekcaaaHand13
namespace Go.Proofs.Ytgoajdnofekcaaa.Hand
open Go.RowKit Go.Proofs.YtgoajdnofekcaaaW.PrintWords Go.Proofs.YtgoajdnofekcaaaW.PrintLast Go.Proofs.YtgoajdnofekcaaaW.PrintMore Go.Proofs.Ytgoajdnofekcaaa.Num
set_option linter.unusedVariables false
set_option linter.unusedSimpArgs false

theorem may_calls (c : Int) (w : World) : Calls Try.prog 40 #[.int .i64 c] w fun e w' => e = .returned (.bool (decide (1 ≤ c ∧ c ≤ 256))) ∧ Drawn0 w w' := by
  by_cases h1 : 1 ≤ c
  · have d1 : decide (1 ≤ c) = true := decide_eq_true h1
    have e : decide (1 ≤ c ∧ c ≤ 256) = decide (c ≤ 256) := by rw [decide_eq_decide]; omega
    have HE := Aside0.mk e
    clear e
    go_enter Try.func40, Try.ntmps40
    go_wp2
    go_ret
    rw [HE.out]
    exact ⟨rfl, Drawn0.refl _⟩
  · have d1 : decide (1 ≤ c) = false := decide_eq_false h1
    have e : decide (1 ≤ c ∧ c ≤ 256) = false := decide_eq_false (by omega)
    rw [e]
    clear e
    go_enter Try.func40, Try.ntmps40
    go_wp2
    go_ret
    exact ⟨rfl, Drawn0.refl _⟩

/-- Decode, in rounds: what is left, the row above, what came out. -/
def pdecL : Nat → ByteArray → List Int → List Int → Nat → Option (ByteArray × Int)
  | 0, _, _, _, _ => none
  | k + 1, s, ab, out, n =>
    if s.size ≤ 1000000 ∧ out.length ≤ 1000000000000 then
      (if s.size = 0 then some (strOfNums out, 0)
      else if n + 1 ≤ s.size then (match rowF (s.extract 0 (n + 1)) ab n with
        | none => some (⟨#[]⟩, 4)
        | some b => pdecL k (s.extract (n + 1) s.size) b (out ++ b) n)
      else none)
    else none
def predict_Decode.f (k : Nat) (a0 : ByteArray) (a1 : Int) : Option (ByteArray × Int) :=
  if a0.size ≤ 1000000 then (if 1 ≤ a1 ∧ a1 ≤ 256 then (if (a0.size : Int) % (a1 + 1) = 0 then pdecL k a0 (List.replicate a1.toNat 0) [] a1.toNat else some (⟨#[]⟩, 4)) else some (⟨#[]⟩, 2)) else none
theorem pdecL_mono : ∀ (k : Nat) (s : ByteArray) (ab out : List Int) (n : Nat), LeO (pdecL k s ab out n) (pdecL (k + 1) s ab out n)
  | 0 => fun _ _ _ _ r h => by simp [pdecL] at h
  | k + 1 => by
    have ih := pdecL_mono k
    intro s ab out n
    rw [pdecL, pdecL]
    cases rowF (s.extract 0 (n + 1)) ab n with
    | none => exact LeO.refl _
    | some b =>
      simp only
      repeat' first
        | (with_reducible exact ih _ _ _ _)
        | (with_reducible exact LeO.refl _)
        | (with_reducible exact LeO.none _)
        | (with_reducible refine LeO.ite ?_ ?_)
theorem predict_Decode.mono : ∀ a0 a1 k, LeO (predict_Decode.f k a0 a1) (predict_Decode.f (k + 1) a0 a1) := by
  intro a0 a1 k
  unfold predict_Decode.f
  exact LeO.ite (LeO.ite (LeO.ite (pdecL_mono _ _ _ _ _) (LeO.refl _)) (LeO.refl _)) (LeO.refl _)

set_option maxRecDepth 100000 in
set_option maxHeartbeats 2000000 in
theorem predict_Decode.calls (k : Nat) (a0 : ByteArray) (a1 : Int) (r1 : ByteArray) (r2 : Int) (w : World) (h : predict_Decode.f k a0 a1 = some (r1, r2)) :
    Calls Try.prog 29 #[.string a0, .int .i64 a1] w fun e w' => e = .returned (.tuple #[.string r1, .int .i64 r2]) ∧ Below w.heap.size w w' := by
  unfold predict_Decode.f at h
  by_cases hs : a0.size ≤ 1000000
  · rw [if_pos hs] at h
    by_cases hm : 1 ≤ a1 ∧ a1 ≤ 256
    · rw [if_pos hm] at h
      obtain ⟨m1, m2⟩ := hm
      have hmay : decide (1 ≤ a1 ∧ a1 ≤ 256) = true := decide_eq_true ⟨m1, m2⟩
      have HM := Aside0.mk hmay
      by_cases hd : (a0.size : Int) % (a1 + 1) = 0
      · rw [if_pos hd] at h
        obtain ⟨n, rfl⟩ := Int.eq_ofNat_of_zero_le (show 0 ≤ a1 by omega)
        rw [Int.toNat_natCast] at h
        have HR := Aside0.mk h
        have q1 : ((a0.size : Int) % ((n : Int) + 1) != 0) = false := bne_eq_false_iff_eq.2 hd
        have kmk := print_make (P := Try.prog) 35 5 .u8 1 Try.underlying35 infoU8 (by decide) n (by omega)
        clear h hmay hd
        go_enter Try.func29, Try.ntmps29
        go_wp2_with (first | (go_at_call 40; (with_reducible refine (may_calls (n : Int) _).mono ?_); rintro e w1 ⟨rfl, ⟨nd, rfl⟩⟩; rw [HM.out]))
        have hb0 : Below w.heap.size w ((w.drewN nd).alloc (.cells (madeCells #[.int .u8 0] n) 5)) := below_alloc (pw_below_drewN (Below.refl w.heap.size w) nd) (.cells (madeCells #[.int .u8 0] n) 5)
        have hR0 : Row ((w.drewN nd).alloc (.cells (madeCells #[.int .u8 0] n) 5)) w.heap.size 5 .u8 (.slice (some ⟨w.heap.size, 0, none⟩) n n) (List.replicate n 0) := Row.made (w.drewN nd) w.heap.size 5 .u8 n (Nat.le_refl _) (by omega)
        generalize (w.drewN nd).alloc (.cells (madeCells #[.int .u8 0] n) 5) = w0 at hb0 hR0 ⊢
        obtain ⟨g0, hg0⟩ : ∃ g, g = w.heap.size := ⟨_, rfl⟩
        have hR1 : Row w0 w.heap.size 5 .u8 (.slice (some ⟨g0, 0, none⟩) n n) (List.replicate n 0) := by rw [hg0]; exact hR0
        rw [← hg0]
        clear hR0 hg0
        go_loopg [0, 6, 7] k (fun kq v0 v6 v7 wr => ∃ (s : ByteArray) (ab out : List Int) (A : Option Addr) (m c ga ca : Nat), v0 = .string s ∧ v6 = .slice A m c ∧ v7 = .slice (some ⟨ga, 0, none⟩) n ca ∧
          Aside0 (pdecL kq s ab out n = some (r1, r2)) ∧ Aside0 (m = out.length) ∧ Aside0 (ab.length = n ∧ ∀ x ∈ ab, 0 ≤ x ∧ x < 256) ∧
          Aside0 (Row wr w.heap.size 5 .u8 (.slice A m c) out) ∧ Aside0 (Row wr w.heap.size 5 .u8 (.slice (some ⟨ga, 0, none⟩) n ca) ab) ∧ Aside0 (Below w.heap.size w wr))
        case atStart => exact ⟨a0, List.replicate n 0, [], none, 0, 0, g0, n, rfl, rfl, rfl, HR, ⟨rfl⟩, ⟨by rw [List.length_replicate], fun x hx => by rw [List.eq_of_mem_replicate hx]; omega⟩, ⟨Row.nil _ _ _ _⟩, ⟨hR1⟩, ⟨hb0⟩⟩
        case round =>
          clear HR hR1 hb0 kmk q1
          obtain ⟨s, ab, out, A, m, c, ga, ca, rfl, rfl, rfl, HA, HM2, HAB, HO, HG, HB⟩ := hrel
          cases gk with
          | zero => exact absurd HA.out (by simp [pdecL])
          | succ k1 =>
            have H := HA.out
            clear HA
            simp only [pdecL] at H
            by_cases hg : s.size ≤ 1000000 ∧ out.length ≤ 1000000000000
            · rw [if_pos hg] at H
              obtain ⟨g1, g2⟩ := hg
              have hBw : w.heap.size ≤ wr.heap.size := HB.out.size
              by_cases hs0 : s.size = 0
              · rw [if_pos hs0] at H
                simp only [Option.some.injEq, Prod.mk.injEq] at H
                obtain ⟨h1, rfl⟩ := H
                have H1 := Aside0.mk h1
                have t1 := toList_nil hs0
                have kq := HO.out.str (P := Try.prog) (src := 35) (dst := 9) Try.underlying35 Try.underlying5 Try.underlying9
                clear h1
                go_wp2
                go_ret2
                rw [← H1.out]
                exact ⟨rfl, HB.out⟩
              · rw [if_neg hs0] at H
                have t1 := toList_some hs0
                by_cases hsn : n + 1 ≤ s.size
                · rw [if_pos hsn] at H
                  have ksl : ∀ W : World, (Instr.slice 9 (.string s) none (some (.int .i64 ((n : Int) + 1))) none).run Try.prog W = .ok (.string (s.extract 0 (n + 1))) W := fun W => by
                    have := run_slice_string_h (P := Try.prog) W 9 s Try.underlying9 .i64 ((n : Int) + 1) (by omega) (by omega)
                    rwa [show ((n : Int) + 1).toNat = n + 1 by omega] at this
                  have hts : (s.extract 0 (n + 1)).size = n + 1 := by rw [ByteArray.size_extract]; omega
                  have row := fun W hW => row_calls (s.extract 0 (n + 1)) ab ga n ca w.heap.size W (by omega) (by omega) hts HAB.out.1 HAB.out.2 hW
                  have HROW := Aside0.mk row
                  clear row hts
                  generalize s.extract 0 (n + 1) = t at *
                  cases hrf : rowF t ab n with
                  | none =>
                    rw [hrf] at H
                    simp only [Option.some.injEq, Prod.mk.injEq] at H
                    obtain ⟨rfl, rfl⟩ := H
                    have HRF := Aside0.mk hrf
                    clear hrf
                    go_wp2_with (first | (go_at_call 41; (with_reducible refine (HROW.out _ HG.out).mono ?_); rintro e w1 ⟨hb1, ⟨_, rfl⟩ | ⟨o1, g1', hbad, _, _⟩⟩; rotate_left; exact absurd (HRF.out.symm.trans hbad) (by simp)))
                    go_ret2
                    exact ⟨rfl, HB.out.trans (hb1.mono hBw)⟩
                  | some b =>
                    rw [hrf] at H
                    simp only at H
                    obtain ⟨l1, l2⟩ := rowF_range hrf
                    have HH := Aside0.mk H
                    have HRF := Aside0.mk hrf
                    clear hrf H
                    go_wp2_with (first | (go_at_call 41; (with_reducible refine (HROW.out _ HG.out).mono ?_); rintro e w1 ⟨hb1, ⟨hbad, _⟩ | ⟨o1, gb, ho1, rfl, hrb⟩⟩; exact absurd (HRF.out.symm.trans hbad) (by simp)))
                    have eo : o1 = b := by have := HRF.out.symm.trans ho1; injection this with this; exact this.symm
                    subst eo
                    have hO1 := HO.out.below hb1
                    have hB1 : w.heap.size ≤ w1.heap.size := by have := hb1.size; omega
                    have hbl1 : Below w.heap.size w w1 := HB.out.trans (hb1.mono hBw)
                    obtain ⟨Ab, cb, hvb, hrdb⟩ := hrb.reads
                    injection hvb with hvb1 hvb2 hvb3
                    subst hvb1
                    obtain ⟨ad, had, hnews⟩ := news_reads hrdb (by omega)
                    injection had with had
                    subst had
                    have hne : ∀ i, (Value.slice (some ⟨gb, 0, none⟩) n n).ownBlock = some i → ¬ ((Value.slice A m c).ownBlock = some i) := by
                      intro i hi hi2
                      have a1 := (HO.out.lt i hi2).2
                      have a2 := (hrb.lt i hi).1
                      omega
                    have hl1 : out.length + n ≤ maxLen := by unfold maxLen; omega
                    have hl2 : (out.length + n) * 1 ≤ 140737488355328 := by omega
                    have HNW := Aside0.mk hnews
                    have HVB := Aside0.mk hvb2
                    have HRB := Aside0.mk hrb
                    have HNE := Aside0.mk hne
                    have ksl2 : ∀ W : World, (Instr.slice 9 (.string s) (some (.int .i64 ((n : Int) + 1))) none none).run Try.prog W = .ok (.string (s.extract (n + 1) s.size)) W := fun W => by
                      have := run_slice_string_l (P := Try.prog) W 9 s Try.underlying9 .i64 ((n : Int) + 1) (by omega) (by omega)
                      rwa [show ((n : Int) + 1).toNat = n + 1 by omega] at this
                    have q9 : IntKind.i64.wrap ((n : Int) + 1) = (n : Int) + 1 := IntWalk.i64_in _ (by omega)
                    clear HO HG HB hb1 hrb hrdb hnews hne ho1 hvb2 hvb3 ksl
                    go_region_held3 (fun _ => True) (first | trivial) ((refine app_step w.heap.size rfl _ _ 35 5 .u8 1 rfl Try.underlying35 infoU8 (.slice A m c) out o1 rfl ⟨gb, 0, none⟩ n n rfl l1 HNW.out hO1.drew hB1 hl1 hl2 ?_; intro v3 w3 hap; obtain ⟨A3, n3, m3, hv3, hn3⟩ := hap.row.shape; subst hv3))
                    all_goals
                      have hrb3 := (HRB.out.drew.fr (Fr.of_grown hap.grown) HNE.out).lower (show w.heap.size ≤ wr.heap.size by omega)
                      have hb3 := hbl1.drew.trans (hap.below hO1.drew hB1)
                      have hr3 := hap.row
                      clear hap
                      go_wp2
                      go_roundg k1
                      case measure => omega
                      case rel => exact ⟨_, o1, _, A3, n3, m3, gb, n, rfl, rfl, rfl, HH, hn3, ⟨l1, l2⟩, ⟨hr3⟩, ⟨hrb3⟩, ⟨hb3⟩⟩
                · rw [if_neg hsn] at H
                  cases H
            · rw [if_neg hg] at H
              cases H
      · rw [if_neg hd] at h
        simp only [Option.some.injEq, Prod.mk.injEq] at h
        obtain ⟨rfl, rfl⟩ := h
        have q1 : ((a0.size : Int) % (a1 + 1) != 0) = true := bne_iff_ne.2 hd
        clear hmay hd
        go_enter Try.func29, Try.ntmps29
        go_wp2_with (first | (go_at_call 40; (with_reducible refine (may_calls a1 _).mono ?_); rintro e w1 ⟨rfl, ⟨nd, rfl⟩⟩; rw [HM.out]))
        go_ret2
        exact ⟨rfl, pw_below_drewN (Below.refl _ _) _⟩
    · rw [if_neg hm] at h
      simp only [Option.some.injEq, Prod.mk.injEq] at h
      obtain ⟨rfl, rfl⟩ := h
      have hmay : decide (1 ≤ a1 ∧ a1 ≤ 256) = false := decide_eq_false hm
      have HM := Aside0.mk hmay
      clear hmay hm
      go_enter Try.func29, Try.ntmps29
      go_wp2_with (first | (go_at_call 40; (with_reducible refine (may_calls a1 _).mono ?_); rintro e w1 ⟨rfl, ⟨nd, rfl⟩⟩; rw [HM.out]))
      go_ret2
      exact ⟨rfl, pw_below_drewN (Below.refl _ _) _⟩
  · rw [if_neg hs] at h
    cases h
end Go.Proofs.Ytgoajdnofekcaaa.Hand
