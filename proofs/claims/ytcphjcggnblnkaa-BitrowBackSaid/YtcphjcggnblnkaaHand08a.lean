/- binderylaw08.BitrowReads answers true: walked by hand over the contracts of layer 8. -/
import Derived.Test.YtcphjcggnblnkaaLem08
namespace Go.Proofs.Ytcphjcggnblnkaa.Hand
open Go.RowKit Go.Proofs.YtcphjcggnblnkaaW.PrintWords Go.Proofs.YtcphjcggnblnkaaW.PrintLast Go.Proofs.YtcphjcggnblnkaaW.PrintMore Go.Proofs.Ytcphjcggnblnkaa.Num Go.Proofs.Ytcphjcggnblnkaa.Bits Go.Proofs.Ytcphjcggnblnkaa.P08
set_option linter.unusedVariables false
set_option linter.unusedSimpArgs false

/-- A slice of questions that came in. -/
structure Asks (w : World) (A : Option Addr) (n : Nat) (zs : List (Int × Int)) : Prop where
  len : zs.length = n
  at_ : ∀ i, i < n → ∃ ad, A = some ad ∧ w.cell? (ad.add (i * 2)) = some (.int .u8 (zs.getD i (0, 0)).1) ∧ w.cell? ⟨(ad.add (i * 2)).block, (ad.add (i * 2)).off + 1, none⟩ = some (.int .i64 (zs.getD i (0, 0)).2) ∧
    (Lit.int .u8 (zs.getD i (0, 0)).1).wf = true ∧ (Lit.int .i64 (zs.getD i (0, 0)).2).wf = true
theorem wf8 {x : Int} (h : (Lit.int .u8 x).wf = true) : 0 ≤ x ∧ x ≤ 255 := by
  simpa [Lit.wf, IntKind.min, IntKind.max, IntKind.bits, IntKind.signed] using h
set_option maxRecDepth 100000 in
set_option maxHeartbeats 4000000 in
theorem bitrowReads_walk (s : ByteArray) (A : Option Addr) (n c : Nat) (zs : List (Int × Int)) (w : World) (ws : s.size ≤ 140737488351232) (hz : Asks w A n zs) :
    Calls Try.prog 4 #[.string s, .slice A n c] w fun e w' => e = .returned (.bool true) ∧ Below w.heap.size w w' := by
  by_cases h1 : 500 < s.size
  · have q1 : decide ((500 : Int) < (s.size : Int)) = true := decide_eq_true (by omega)
    go_enter Try.func4, Try.ntmps4
    go_wp2_with (go_at_call 11; (with_reducible refine (rows_true _).mono ?_); rintro e w1 ⟨rfl, hb1⟩)
    go_returns
    exact ⟨rfl, hb1⟩
  · have q1 : decide ((500 : Int) < (s.size : Int)) = false := decide_eq_false (by omega)
    by_cases h2 : 100 < n
    · have q2 : decide ((100 : Int) < (n : Int)) = true := decide_eq_true (by omega)
      go_enter Try.func4, Try.ntmps4
      go_wp2_with (go_at_call 11; (with_reducible refine (rows_true _).mono ?_); rintro e w1 ⟨rfl, hb1⟩)
      go_returns
      exact ⟨rfl, hb1⟩
    · have q2 : decide ((100 : Int) < (n : Int)) = false := decide_eq_false (by omega)
      have hs : s.size ≤ 1000000 := by omega
      have HZ := Aside0.mk hz
      have hn : n ≤ 100 := by omega
      clear hz h1 h2
      go_enter Try.func4, Try.ntmps4
      go_wp2_with (go_at_call 19; (with_reducible refine (rd_new _ _).mono ?_); rintro e w1 ⟨rfl, hr1, hb1⟩; have H1 : Aside0 (_ ∧ _) := ⟨hr1, hb1⟩; clear hr1 hb1)
      obtain ⟨g, hg⟩ : ∃ g, g = w.heap.size := ⟨_, rfl⟩
      rw [← hg] at H1 ⊢
      have HG := Aside0.mk hg
      clear hg
      go_loopw [6, 7] (fun v6 v7 wr => ∃ i p : Nat, i ≤ n ∧ v6 = .int .i64 p ∧ v7 = .int .i64 i ∧ p ≤ 8 * s.size ∧ Aside0 (RdAt wr g s p ∧ Below w.heap.size w wr)) (fun _ v7 _ => n - (intOf v7).toNat)
      case atStart => exact ⟨0, 0, by omega, rfl, rfl, by omega, ⟨H1.out.1, by have h := H1.out.2; rw [HG.out] at h; exact h⟩⟩
      case round =>
        clear H1
        obtain ⟨i, p, hi, rfl, rfl, hp, HR⟩ := hrel
        by_cases hlt : i < n
        · have q3 : decide ((i : Int) < (n : Int)) = true := decide_eq_true (by omega)
          have q3n : decide (i < n) = true := decide_eq_true hlt
          obtain ⟨ad, ha, hc0, hc1, hw0, hw1⟩ := HZ.out.at_ i hlt
          cases ha
          obtain ⟨x, hx⟩ : ∃ x : Int, x = (zs.getD i (0, 0)).1 := ⟨_, rfl⟩
          obtain ⟨N, hN⟩ : ∃ N : Int, N = (zs.getD i (0, 0)).2 := ⟨_, rfl⟩
          rw [← hx] at hc0 hw0
          rw [← hN] at hc1 hw1
          have d0 : wr.cell? (ad.add (i * 2)) = some (.int .u8 x) := (HR.out.2.cell (World.block_lt_of_cell? w _ hc0)).trans hc0
          have d1 : wr.cell? ⟨(ad.add (i * 2)).block, (ad.add (i * 2)).off + 1, none⟩ = some (.int .i64 N) := (HR.out.2.cell (World.block_lt_of_cell? w _ hc1)).trans hc1
          have hxr := wf8 hw0
          clear hx hN hc0 hc1 hw0
          have hBg : w.heap.size ≤ g := by rw [HG.out]; exact Nat.le_refl _
          by_cases hx0 : x % 3 = 0
          · have r0 : (x % 3 == 0) = true := beq_iff_eq.2 hx0
            obtain ⟨m, e, p', hp', ⟨k1, hf⟩, hC⟩ := get_any s hs p hp N hw1
            have HF := Aside0.mk (binderyref08_Get.calls k1 s p N m (p' : Int) e)
            have HFF := Aside0.mk hf
            have HC := Aside0.mk hC
            clear hf hC hx0
            go_wp2_with fail
            refine (HF.out _ HFF.out).mono ?_
            rintro e2 w2 ⟨rfl, ⟨nd2, rfl⟩⟩
            have HR2 : Aside0 (_ ∧ _) := ⟨HR.out.1.drawn ⟨nd2, rfl⟩, pw_below_drewN HR.out.2 nd2⟩
            clear HR HF HFF
            go_wp2_with fail
            refine (HC.out _ _ HR2.out.1).mono ?_
            rintro e3 w3 ⟨rfl, hr3, hf3⟩
            have HR3 : Aside0 (_ ∧ _) := ⟨hr3, HR2.out.2.trans (hf3.below (B := w.heap.size) (by rintro j rfl; exact hBg) HR2.out.2.size)⟩
            clear hr3 hf3 HR2 HC d0 d1
            go_wp2_with fail
            refine (rd_at _ g s p' HR3.out.1 (by omega)).mono ?_
            rintro e4 w4 ⟨rfl, ⟨nd4, rfl⟩⟩
            go_wp2_with fail
            go_roundw
            case rel => exact ⟨i + 1, p', by omega, rfl, by go_num, hp', ⟨HR3.out.1.drawn ⟨_, rfl⟩, pw_below_drewN HR3.out.2 _⟩⟩
            case measure => simp [intOf]; omega
          · by_cases hx1 : x % 3 = 1
            · have r0 : (x % 3 == 0) = false := beq_eq_false_iff_ne.2 hx0
              have r1 : (x % 3 == 1) = true := beq_iff_eq.2 hx1
              obtain ⟨m, e, p', hp', hf, hC⟩ := bytes_any s hs p hp N hw1
              have HF := Aside0.mk (binderyref08_Bytes.calls s p N m (p' : Int) e)
              have HFF := Aside0.mk hf
              have HC := Aside0.mk hC
              clear hf hC hx0 hx1
              go_wp2_with fail
              refine (HF.out _ HFF.out).mono ?_
              rintro e2 w2 ⟨rfl, ⟨nd2, rfl⟩⟩
              have HR2 : Aside0 (_ ∧ _) := ⟨HR.out.1.drawn ⟨nd2, rfl⟩, pw_below_drewN HR.out.2 nd2⟩
              clear HR HF HFF
              go_wp2_with fail
              refine (HC.out _ _ HR2.out.1).mono ?_
              rintro e3 w3 ⟨rfl, hr3, hf3⟩
              have HR3 : Aside0 (_ ∧ _) := ⟨hr3, HR2.out.2.trans (hf3.below (B := w.heap.size) (by rintro j rfl; exact hBg) HR2.out.2.size)⟩
              clear hr3 hf3 HR2 HC d0 d1
              go_wp2_with fail
              refine (rd_at _ g s p' HR3.out.1 (by omega)).mono ?_
              rintro e4 w4 ⟨rfl, ⟨nd4, rfl⟩⟩
              go_wp2_with fail
              go_roundw
              case rel => exact ⟨i + 1, p', by omega, rfl, by go_num, hp', ⟨HR3.out.1.drawn ⟨_, rfl⟩, pw_below_drewN HR3.out.2 _⟩⟩
              case measure => simp [intOf]; omega
            · have r0 : (x % 3 == 0) = false := beq_eq_false_iff_ne.2 hx0
              have r1 : (x % 3 == 1) = false := beq_eq_false_iff_ne.2 hx1
              have HWH := Aside0.mk (whole_f p (by omega))
              have hra : 8 * rdAt p ≤ 8 * s.size := by unfold rdAt; omega
              obtain ⟨p', hp'⟩ : ∃ p', p' = 8 * rdAt p := ⟨_, rfl⟩
              rw [← hp'] at HWH hra
              have HA := Aside0.mk (fun W h => rd_align W g s p h (by omega))
              rw [← hp'] at HA
              clear hx0 hx1 hp'
              go_wp2_with fail
              refine (HA.out _ HR.out.1).mono ?_
              rintro e3 w3 ⟨rfl, hr3, hf3⟩
              have HR3 : Aside0 (_ ∧ _) := ⟨hr3, HR.out.2.trans (hf3.below (B := w.heap.size) (by rintro j rfl; exact hBg) HR.out.2.size)⟩
              clear hr3 hf3 HR HA d0 d1
              go_wp2_with fail
              refine (binderyref08_Whole.calls _ _ _ HWH.out).mono ?_
              rintro e2 w2 ⟨rfl, ⟨nd2, rfl⟩⟩
              go_wp2_with fail
              refine (rd_at _ g s p' (HR3.out.1.drawn ⟨nd2, rfl⟩) (by omega)).mono ?_
              rintro e4 w4 ⟨rfl, ⟨nd4, rfl⟩⟩
              go_wp2_with fail
              go_roundw
              case rel => exact ⟨i + 1, p', by omega, rfl, by go_num, hra, ⟨HR3.out.1.drawn ⟨_, rfl⟩, pw_below_drewN HR3.out.2 _⟩⟩
              case measure => simp [intOf]; omega
        · have q3 : decide ((i : Int) < (n : Int)) = false := decide_eq_false (by omega)
          have q3n : decide (i < n) = false := decide_eq_false hlt
          go_wp2_with fail
          refine (rows_true _).mono ?_
          rintro e2 w2 ⟨rfl, hb2⟩
          go_wp2_with fail
          go_returns
          exact ⟨rfl, HR.out.2.trans (hb2.mono HR.out.2.size)⟩
end Go.Proofs.Ytcphjcggnblnkaa.Hand
