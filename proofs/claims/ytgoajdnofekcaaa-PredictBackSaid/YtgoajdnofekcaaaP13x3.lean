-- Written for this claim by a program of this session, over the kit's print.
import Derived.Test.YtgoajdnofekcaaaP13x0
import Derived.Test.YtgoajdnofekcaaaP13x1
namespace Go.Proofs.Ytgoajdnofekcaaa.P13
open Go.RowKit Go.Proofs.YtgoajdnofekcaaaW.PrintWords Go.Proofs.YtgoajdnofekcaaaW.PrintLast Go.Proofs.YtgoajdnofekcaaaW.PrintMore Go.Proofs.Ytgoajdnofekcaaa.Hand
attribute [local go_sem] max2_int min2_int max_two min_two max_three min_three max_four min_four   -- for this text's walks alone
set_option linter.unusedVariables false
set_option linter.unusedSimpArgs false

/-! ### binderylaw13_PredictBack: function 13 -/
def binderylaw13_PredictBack.l0 : Nat → ByteArray → Int → ByteArray → Int → ByteArray → Int → ByteArray → Int → Option (Bool)
  | 0, _, _, _, _, _, _, _, _ => none
  | k + 1, x0, x5, x6, x7, x8, x9, x10, x11 => if x11 < (x0.size : Int) then (if x10.size + 1 ≤ 9223372036854775807 then (if 0 ≤ x11 then (if x11 ≤ (wrap64 (x11 + x5)) then (if (wrap64 (x11 + x5)) ≤ (x0.size : Int) then (if (x10 ++ (⟨#[0]⟩ : ByteArray)).size + (x0.extract (x11 : Int).toNat ((wrap64 (x11 + x5)) : Int).toNat).size ≤ 9223372036854775807 then (binderylaw13_PredictBack.l0 k x0 x5 x6 x7 x8 x9 ((x10 ++ (⟨#[0]⟩ : ByteArray)) ++ (x0.extract (x11 : Int).toNat ((wrap64 (x11 + x5)) : Int).toNat)) (wrap64 (x11 + x5))) else (none)) else (none)) else (none)) else (none)) else (none)) else ((predict_Decode.f k x10 x5).bind fun bt156 => (if x7 = 0 then (if x9 = 0 then (if bt156.2 = 0 then (if x8.toList = x0.toList then (if bt156.1.toList = x0.toList then (if (x6.size : Int) = (x10.size : Int) then ((binderylaw13_rows.f k).bind fun t158 => (some t158)) else (some false)) else (some false)) else (some false)) else (some false)) else (some false)) else (some false)))
def binderylaw13_PredictBack.f (k : Nat) (a0 : ByteArray) (a1 : Int) : Option (Bool) := if (a0.size : Int) > 5000 then ((binderylaw13_rows.f k).bind fun t151 => (some t151)) else (if (wrap64 ((wrap64 (a1)) + 1)) = 0 then (none) else (if 0 ≤ (wrap64 ((wrap64 ((a0.size : Int) / (wrap64 ((wrap64 (a1)) + 1)))) * (wrap64 ((wrap64 (a1)) + 1)))) then (if (wrap64 ((wrap64 ((a0.size : Int) / (wrap64 ((wrap64 (a1)) + 1)))) * (wrap64 ((wrap64 (a1)) + 1)))) ≤ (a0.size : Int) then ((predict_Encode.f k (a0.extract 0 ((wrap64 ((wrap64 ((a0.size : Int) / (wrap64 ((wrap64 (a1)) + 1)))) * (wrap64 ((wrap64 (a1)) + 1)))) : Int).toNat) (wrap64 ((wrap64 (a1)) + 1))).bind fun bt152 => ((predict_Decode.f k bt152.1 (wrap64 ((wrap64 (a1)) + 1))).bind fun bt154 => (binderylaw13_PredictBack.l0 k (a0.extract 0 ((wrap64 ((wrap64 ((a0.size : Int) / (wrap64 ((wrap64 (a1)) + 1)))) * (wrap64 ((wrap64 (a1)) + 1)))) : Int).toNat) (wrap64 ((wrap64 (a1)) + 1)) bt152.1 bt152.2 bt154.1 bt154.2 (⟨#[]⟩ : ByteArray) 0))) else (none)) else (none)))
theorem binderylaw13_PredictBack.mono_l : ∀ k, (∀ y0 y1 y2 y3 y4 y5 y6 y7, LeO (binderylaw13_PredictBack.l0 k y0 y1 y2 y3 y4 y5 y6 y7) (binderylaw13_PredictBack.l0 (k + 1) y0 y1 y2 y3 y4 y5 y6 y7))
  | 0 => fun _ _ _ _ _ _ _ _ r h => by simp [binderylaw13_PredictBack.l0] at h
  | k + 1 => by
    have ih0 := binderylaw13_PredictBack.mono_l k
    · intro y0 y1 y2 y3 y4 y5 y6 y7
      unfold binderylaw13_PredictBack.l0
      repeat' first
      | (with_reducible exact ih0 _ _ _ _ _ _ _ _)
      | (with_reducible exact binderylaw13_rows.mono _)
      | (with_reducible exact predict_Decode.mono _ _ _)
      | (with_reducible exact predict_Encode.mono _ _ _)
      | (with_reducible exact LeO.refl _)
      | (with_reducible exact LeO.none _)
      | (with_reducible refine LeO.ite ?_ ?_)
      | (with_reducible refine LeO.bind ?_ (fun _ => ?_))
      | exact ih0 _ _ _ _ _ _ _ _
      | exact binderylaw13_rows.mono _
      | exact predict_Decode.mono _ _ _
      | exact predict_Encode.mono _ _ _
      | exact LeO.none _
      | refine LeO.ite ?_ ?_
      | refine LeO.bind ?_ (fun _ => ?_)
theorem binderylaw13_PredictBack.mono : ∀ a0 a1 k, LeO (binderylaw13_PredictBack.f k a0 a1) (binderylaw13_PredictBack.f (k + 1) a0 a1) := by
  intro a0 a1 k
  have ih0 := binderylaw13_PredictBack.mono_l k
  unfold binderylaw13_PredictBack.f
  repeat' first
      | (with_reducible exact ih0 _ _ _ _ _ _ _ _)
      | (with_reducible exact binderylaw13_rows.mono _)
      | (with_reducible exact predict_Decode.mono _ _ _)
      | (with_reducible exact predict_Encode.mono _ _ _)
      | (with_reducible exact LeO.refl _)
      | (with_reducible exact LeO.none _)
      | (with_reducible refine LeO.ite ?_ ?_)
      | (with_reducible refine LeO.bind ?_ (fun _ => ?_))
      | exact ih0 _ _ _ _ _ _ _ _
      | exact binderylaw13_rows.mono _
      | exact predict_Decode.mono _ _ _
      | exact predict_Encode.mono _ _ _
      | exact LeO.none _
      | refine LeO.ite ?_ ?_
      | refine LeO.bind ?_ (fun _ => ?_)
set_option maxHeartbeats 8000000 in
set_option maxRecDepth 100000 in
theorem binderylaw13_PredictBack.calls (k : Nat) (a0 : ByteArray) (a1 : Int) (r : Bool) (w : World) (h : binderylaw13_PredictBack.f k a0 a1 = some r) :
    Calls Try.prog 13 #[.string a0, .int .u8 a1] w fun e w' => e = .returned (.bool r) ∧ Below w.heap.size w w' := by
  have HB := Aside0.mk (Below.refl w.heap.size w)
  have H : (if (a0.size : Int) > 5000 then ((binderylaw13_rows.f k).bind fun t151 => (some t151)) else (if (wrap64 ((wrap64 (a1)) + 1)) = 0 then (none) else (if 0 ≤ (wrap64 ((wrap64 ((a0.size : Int) / (wrap64 ((wrap64 (a1)) + 1)))) * (wrap64 ((wrap64 (a1)) + 1)))) then (if (wrap64 ((wrap64 ((a0.size : Int) / (wrap64 ((wrap64 (a1)) + 1)))) * (wrap64 ((wrap64 (a1)) + 1)))) ≤ (a0.size : Int) then ((predict_Encode.f k (a0.extract 0 ((wrap64 ((wrap64 ((a0.size : Int) / (wrap64 ((wrap64 (a1)) + 1)))) * (wrap64 ((wrap64 (a1)) + 1)))) : Int).toNat) (wrap64 ((wrap64 (a1)) + 1))).bind fun bt152 => ((predict_Decode.f k bt152.1 (wrap64 ((wrap64 (a1)) + 1))).bind fun bt154 => (binderylaw13_PredictBack.l0 k (a0.extract 0 ((wrap64 ((wrap64 ((a0.size : Int) / (wrap64 ((wrap64 (a1)) + 1)))) * (wrap64 ((wrap64 (a1)) + 1)))) : Int).toNat) (wrap64 ((wrap64 (a1)) + 1)) bt152.1 bt152.2 bt154.1 bt154.2 (⟨#[]⟩ : ByteArray) 0))) else (none)) else (none)))) = some r := h
  clear h
  by_cases c3 : (a0.size : Int) > 5000
  · rw [if_pos c3] at H
    have c3b0 : decide (5000 < (a0.size : Int)) = true := decide_eq_true c3
    have c3b1 : decide (5000 < a0.size) = true := decide_eq_true (by omega)
    clear c3
    replace H := Option.bind_eq_some_iff.mp H
    obtain ⟨t151, A40, H⟩ := H
    replace H : (some t151) = some r := H
    have A4 := Aside0.mk A40
    clear A40
    obtain rfl := Option.some.inj H
    go_enter Try.func13, Try.ntmps13
    go_wp2_with (first | ((with_reducible refine gate_callee (f := 26) rfl ?_); refine goesL_ (some 17) rfl rfl Try.func26 (by kernel_rfl) rfl #[] rfl (by (try simp only [List.map_toArray, List.map_cons, List.map_nil]); first | done | rfl | (simp only [List.length_drop, List.length_take]; rfl)) ?_; (with_reducible refine (binderylaw13_rows.calls k  t151 _ A4.out).mono ?_); rintro e w5 ⟨rfl, hb⟩; refine ⟨_, rfl, ?_⟩; have n0_ := Aside0.mk (below_step (by repeat (first | (with_reducible first | exact HB.out | apply below_alloc | apply pw_below_drewN | apply below_drew1) | exact HB.out)) hb); clear HB; have HB := n0_; clear n0_; (try clear hb); (try clear hb2); (try clear hk); (try clear hi)))
    go_ret
    exact ⟨by first | rfl | (simp [errW_none, errW_some] <;> rfl) | (simp [*, errW_none, errW_some] <;> rfl), by repeat (first | (with_reducible first | exact HB.out | apply below_alloc | apply pw_below_drewN | apply below_drew1) | exact HB.out)⟩
  · rw [if_neg c3] at H
    have c3b0 : decide (5000 < (a0.size : Int)) = false := decide_eq_false c3
    have c3b1 : decide (5000 < a0.size) = false := decide_eq_false (by omega)
    clear c3
    by_cases c6 : (wrap64 ((wrap64 (a1)) + 1)) = 0
    · rw [if_pos c6] at H
      exact absurd H (by simp)
    · rw [if_neg c6] at H
      have c6b0 : ((wrap64 ((wrap64 (a1)) + 1)) == 0) = false := beq_eq_false_iff_ne.mpr c6
      have c6b1 : ((wrap64 ((wrap64 (a1)) + 1)) != 0) = true := bne_iff_ne.mpr c6
      obtain ⟨ji7, hji7⟩ : ∃ j_ : Int, (wrap64 ((wrap64 ((a0.size : Int) / (wrap64 ((wrap64 (a1)) + 1)))) * (wrap64 ((wrap64 (a1)) + 1)))) = j_ := ⟨_, rfl⟩
      replace H : (if 0 ≤ (ji7) then (if (ji7) ≤ (a0.size : Int) then ((predict_Encode.f k (a0.extract 0 ((ji7) : Int).toNat) (wrap64 ((wrap64 (a1)) + 1))).bind fun bt152 => ((predict_Decode.f k bt152.1 (wrap64 ((wrap64 (a1)) + 1))).bind fun bt154 => (binderylaw13_PredictBack.l0 k (a0.extract 0 ((ji7) : Int).toNat) (wrap64 ((wrap64 (a1)) + 1)) bt152.1 bt152.2 bt154.1 bt154.2 (⟨#[]⟩ : ByteArray) 0))) else (none)) else (none)) = some r := by first | (rw [hji7] at H; exact H) | (simp only [hji7] at H ⊢; exact H)
      have hji7w : (IntKind.i64.wrap ((wrap64 ((a0.size : Int) / (wrap64 ((wrap64 (a1)) + 1)))) * (wrap64 ((wrap64 (a1)) + 1)))) = ji7 := (i64_w _).trans hji7
      by_cases c8 : 0 ≤ (ji7)
      · rw [if_pos c8] at H
        have c8b0 := eq_true c8
        have c8b1 : decide (0 ≤ (ji7)) = true := decide_eq_true c8
        clear c8
        by_cases c9 : (ji7) ≤ (a0.size : Int)
        · rw [if_pos c9] at H
          have c9b0 := eq_true c9
          have c9b1 : decide ((ji7) ≤ (a0.size : Int)) = true := decide_eq_true c9
          clear c9
          replace H := Option.bind_eq_some_iff.mp H
          obtain ⟨⟨t152, t153⟩, A100, H⟩ := H
          replace H : ((predict_Decode.f k t152 (wrap64 ((wrap64 (a1)) + 1))).bind fun bt154 => (binderylaw13_PredictBack.l0 k (a0.extract 0 ((ji7) : Int).toNat) (wrap64 ((wrap64 (a1)) + 1)) t152 t153 bt154.1 bt154.2 (⟨#[]⟩ : ByteArray) 0)) = some r := H
          have A10 := Aside0.mk A100
          clear A100
          replace H := Option.bind_eq_some_iff.mp H
          obtain ⟨⟨t154, t155⟩, A110, H⟩ := H
          replace H : (binderylaw13_PredictBack.l0 k (a0.extract 0 ((ji7) : Int).toNat) (wrap64 ((wrap64 (a1)) + 1)) t152 t153 t154 t155 (⟨#[]⟩ : ByteArray) 0) = some r := H
          have A11 := Aside0.mk A110
          clear A110
          have H' := Aside0.mk H
          clear H
          go_enter Try.func13, Try.ntmps13
          go_wp2_with (first | ((with_reducible refine gate_callee (f := 27) rfl ?_); refine goesL_ (some 32) rfl rfl Try.func27 (by kernel_rfl) rfl #[.string (a0.extract 0 ((ji7) : Int).toNat), .int .i64 (wrap64 ((wrap64 (a1)) + 1))] rfl (by (try simp only [List.map_toArray, List.map_cons, List.map_nil]); first | done | (simp only [hji7]; rfl) | rfl | (simp only [List.length_drop, List.length_take]; rfl)) ?_; (with_reducible refine (predict_Encode.calls k (a0.extract 0 ((ji7) : Int).toNat) (wrap64 ((wrap64 (a1)) + 1)) t152 t153 _ A10.out).mono ?_); rintro e w12 ⟨rfl, hb⟩; refine ⟨_, rfl, ?_⟩; have n0_ := Aside0.mk (below_step (by repeat (first | (with_reducible first | exact HB.out | apply below_alloc | apply pw_below_drewN | apply below_drew1) | exact HB.out)) hb); clear HB; have HB := n0_; clear n0_; (try clear hb); (try clear hb2); (try clear hk); (try clear hi)) | ((with_reducible refine gate_callee (f := 29) rfl ?_); refine goesL_ (some 38) rfl rfl Try.func29 (by kernel_rfl) rfl #[.string t152, .int .i64 (wrap64 ((wrap64 (a1)) + 1))] rfl (by (try simp only [List.map_toArray, List.map_cons, List.map_nil]); first | done | rfl | (simp only [List.length_drop, List.length_take]; rfl)) ?_; (with_reducible refine (predict_Decode.calls k t152 (wrap64 ((wrap64 (a1)) + 1)) t154 t155 _ A11.out).mono ?_); rintro e w13 ⟨rfl, hb⟩; refine ⟨_, rfl, ?_⟩; have n0_ := Aside0.mk (below_step (by repeat (first | (with_reducible first | exact HB.out | apply below_alloc | apply pw_below_drewN | apply below_drew1) | exact HB.out)) hb); clear HB; have HB := n0_; clear n0_; (try clear hb); (try clear hb2); (try clear hk); (try clear hi)))
          generalize (a0.extract 0 ((ji7) : Int).toNat) = S1 at *
          go_loopg [10, 11] k (fun kq v10 v11 w' => ∃ (x10_1 : ByteArray) (x11_1 : Int), v10 = .string x10_1 ∧ v11 = .int .i64 x11_1 ∧ Aside0 (binderylaw13_PredictBack.l0 kq S1 (wrap64 ((wrap64 (a1)) + 1)) t152 t153 t154 t155 x10_1 x11_1 = some r) ∧ Aside0 (kq ≤ k) ∧ Aside0 (Below w.heap.size w w'))
          case atStart => exact ⟨((⟨#[]⟩ : ByteArray)), (0), (by first | rfl | (simp; done) | (simp [*]; done)), (by first | rfl | (simp; done) | (simp [*]; done)), H', ⟨Nat.le_refl _⟩, ⟨by repeat (first | (with_reducible first | exact HB.out | apply below_alloc | apply pw_below_drewN | apply below_drew1) | exact HB.out)⟩⟩
          case round =>
            clear H'
            try clear c1
            try clear c2
            try clear p2
            try clear c3
            try clear c3b0
            try clear c3b1
            try clear c6
            try clear c6b0
            try clear c6b1
            try clear p6
            try clear c8
            try clear c8b0
            try clear c8b1
            try clear c9
            try clear c9b0
            try clear c9b1
            try clear c13
            obtain ⟨x10_1, x11_1, rfl, rfl, HA, HK1, HB⟩ := hrel
            cases gk with
            | zero => exact absurd HA.out (by simp [binderylaw13_PredictBack.l0])
            | succ k1 =>
              have H := HA.out
              clear HA
              simp only [binderylaw13_PredictBack.l0] at H
              by_cases c14 : x11_1 < (S1.size : Int)
              · rw [if_pos c14] at H
                have c14b0 : decide (x11_1 < (S1.size : Int)) = true := decide_eq_true c14
                clear c14
                by_cases c15 : x10_1.size + 1 ≤ 9223372036854775807
                · rw [if_pos c15] at H
                  have c15b0 := eq_true c15
                  have c15b1 : decide (x10_1.size + 1 ≤ 9223372036854775807) = true := decide_eq_true c15
                  try have c15b2 : (9223372036854775807 < x10_1.size + 1) = False := eq_false (Nat.not_lt.2 c15)
                  by_cases c16 : 0 ≤ x11_1
                  · rw [if_pos c16] at H
                    have c16b0 := eq_true c16
                    have c16b1 : decide (0 ≤ x11_1) = true := decide_eq_true c16
                    clear c16
                    by_cases c17 : x11_1 ≤ (wrap64 (x11_1 + (wrap64 ((wrap64 (a1)) + 1))))
                    · rw [if_pos c17] at H
                      have c17b0 := eq_true c17
                      have c17b1 : decide (x11_1 ≤ (wrap64 (x11_1 + (wrap64 ((wrap64 (a1)) + 1))))) = true := decide_eq_true c17
                      by_cases c18 : (wrap64 (x11_1 + (wrap64 ((wrap64 (a1)) + 1)))) ≤ (S1.size : Int)
                      · rw [if_pos c18] at H
                        have c18b0 := eq_true c18
                        have c18b1 : decide ((wrap64 (x11_1 + (wrap64 ((wrap64 (a1)) + 1)))) ≤ (S1.size : Int)) = true := decide_eq_true c18
                        by_cases c19 : (x10_1 ++ (⟨#[0]⟩ : ByteArray)).size + (S1.extract (x11_1 : Int).toNat ((wrap64 (x11_1 + (wrap64 ((wrap64 (a1)) + 1)))) : Int).toNat).size ≤ 9223372036854775807
                        · rw [if_pos c19] at H
                          have c19b0 := eq_true c19
                          have c19b1 : decide ((x10_1 ++ (⟨#[0]⟩ : ByteArray)).size + (S1.extract (x11_1 : Int).toNat ((wrap64 (x11_1 + (wrap64 ((wrap64 (a1)) + 1)))) : Int).toNat).size ≤ 9223372036854775807) = true := decide_eq_true c19
                          try have c19b2 : (9223372036854775807 < (x10_1 ++ (⟨#[0]⟩ : ByteArray)).size + (S1.extract (x11_1 : Int).toNat ((wrap64 (x11_1 + (wrap64 ((wrap64 (a1)) + 1)))) : Int).toNat).size) = False := eq_false (Nat.not_lt.2 c19)
                          have H' := Aside0.mk H
                          clear H
                          go_wp2
                          go_roundg k1
                          case measure => have := HK1.out; omega
                          case rel => exact ⟨((x10_1 ++ (⟨#[0]⟩ : ByteArray)) ++ (S1.extract (x11_1 : Int).toNat ((wrap64 (x11_1 + (wrap64 ((wrap64 (a1)) + 1)))) : Int).toNat)), (wrap64 (x11_1 + (wrap64 ((wrap64 (a1)) + 1)))), (by first | rfl | (simp; done) | (simp only [← hji7] <;> (first | rfl | simp)) | (simp [*]; done)), (by first | rfl | (simp; done) | (simp [*]; done)), H', ⟨by have := HK1.out; omega⟩, ⟨by repeat (first | (with_reducible first | exact HB.out | apply below_alloc | apply pw_below_drewN | apply below_drew1) | exact HB.out)⟩⟩
                        · rw [if_neg c19] at H
                          exact absurd H (by simp)
                      · rw [if_neg c18] at H
                        exact absurd H (by simp)
                    · rw [if_neg c17] at H
                      exact absurd H (by simp)
                  · rw [if_neg c16] at H
                    exact absurd H (by simp)
                · rw [if_neg c15] at H
                  exact absurd H (by simp)
              · rw [if_neg c14] at H
                have c14b0 : decide (x11_1 < (S1.size : Int)) = false := decide_eq_false c14
                clear c14
                replace H := Option.bind_eq_some_iff.mp H
                obtain ⟨⟨t156, t157⟩, A200, H⟩ := H
                replace H : (if t153 = 0 then (if t155 = 0 then (if t157 = 0 then (if t154.toList = S1.toList then (if t156.toList = S1.toList then (if (t152.size : Int) = (x10_1.size : Int) then ((binderylaw13_rows.f k1).bind fun t158 => (some t158)) else (some false)) else (some false)) else (some false)) else (some false)) else (some false)) else (some false)) = some r := H
                have A20 := Aside0.mk A200
                clear A200
                by_cases c21 : t153 = 0
                · rw [if_pos c21] at H
                  have c21b0 : (t153 == 0) = true := beq_iff_eq.mpr c21
                  have c21b1 : (t153 != 0) = false := bne_eq_false_iff_eq.mpr c21
                  clear c21
                  by_cases c22 : t155 = 0
                  · rw [if_pos c22] at H
                    have c22b0 : (t155 == 0) = true := beq_iff_eq.mpr c22
                    have c22b1 : (t155 != 0) = false := bne_eq_false_iff_eq.mpr c22
                    clear c22
                    by_cases c23 : t157 = 0
                    · rw [if_pos c23] at H
                      have c23b0 : (t157 == 0) = true := beq_iff_eq.mpr c23
                      have c23b1 : (t157 != 0) = false := bne_eq_false_iff_eq.mpr c23
                      clear c23
                      by_cases c24 : t154.toList = S1.toList
                      · rw [if_pos c24] at H
                        have c24b0 : (t154.toList == S1.toList) = true := beq_iff_eq.mpr c24
                        have c24b1 : (t154.toList != S1.toList) = false := bne_eq_false_iff_eq.mpr c24
                        clear c24
                        by_cases c25 : t156.toList = S1.toList
                        · rw [if_pos c25] at H
                          have c25b0 : (t156.toList == S1.toList) = true := beq_iff_eq.mpr c25
                          have c25b1 : (t156.toList != S1.toList) = false := bne_eq_false_iff_eq.mpr c25
                          clear c25
                          by_cases c26 : (t152.size : Int) = (x10_1.size : Int)
                          · rw [if_pos c26] at H
                            have c26b0 : ((t152.size : Int) == (x10_1.size : Int)) = true := beq_iff_eq.mpr c26
                            have c26b1 : ((t152.size : Int) != (x10_1.size : Int)) = false := bne_eq_false_iff_eq.mpr c26
                            have c26b2 : (t152.size == x10_1.size) = true := by first | simpa using c26 | (simp at c26 ⊢; omega)
                            clear c26
                            replace H := Option.bind_eq_some_iff.mp H
                            obtain ⟨t158, A270, H⟩ := H
                            replace H : (some t158) = some r := H
                            have A27 := Aside0.mk A270
                            clear A270
                            obtain rfl := Option.some.inj H
                            go_wp2_with (first | ((with_reducible refine gate_callee (f := 29) rfl ?_); refine goesL_ (some 60) rfl rfl Try.func29 (by kernel_rfl) rfl #[.string x10_1, .int .i64 (wrap64 ((wrap64 (a1)) + 1))] rfl (by (try simp only [List.map_toArray, List.map_cons, List.map_nil]); first | done | rfl | (simp only [List.length_drop, List.length_take]; rfl)) ?_; (with_reducible refine (predict_Decode.calls k1 x10_1 (wrap64 ((wrap64 (a1)) + 1)) t156 t157 _ A20.out).mono ?_); rintro e w28 ⟨rfl, hb⟩; refine ⟨_, rfl, ?_⟩; have n0_ := Aside0.mk (below_step (by repeat (first | (with_reducible first | exact HB.out | apply below_alloc | apply pw_below_drewN | apply below_drew1) | exact HB.out)) hb); clear HB; have HB := n0_; clear n0_; (try clear hb); (try clear hb2); (try clear hk); (try clear hi)) | (go_at_call 26; (with_reducible refine (binderylaw13_rows.calls k1  t158 _ A27.out).mono ?_); rintro e w29 ⟨rfl, hb⟩; have n0_ := Aside0.mk (below_step (by repeat (first | (with_reducible first | exact HB.out | apply below_alloc | apply pw_below_drewN | apply below_drew1) | exact HB.out)) hb); clear HB; have HB := n0_; clear n0_; (try clear hb); (try clear hb2); (try clear hk); (try clear hi)))
                            go_ret
                            exact ⟨by first | rfl | (simp [errW_none, errW_some] <;> rfl) | (simp only [← hji7]; first | rfl | (simp [errW_none, errW_some] <;> rfl)) | (simp [*, errW_none, errW_some] <;> rfl), by repeat (first | (with_reducible first | exact HB.out | apply below_alloc | apply pw_below_drewN | apply below_drew1) | exact HB.out)⟩
                          · rw [if_neg c26] at H
                            have c26b0 : ((t152.size : Int) == (x10_1.size : Int)) = false := beq_eq_false_iff_ne.mpr c26
                            have c26b1 : ((t152.size : Int) != (x10_1.size : Int)) = true := bne_iff_ne.mpr c26
                            have c26b2 : (t152.size == x10_1.size) = false := by first | simpa using c26 | (simp at c26 ⊢; omega)
                            obtain rfl := Option.some.inj H
                            go_wp2_with (first | ((with_reducible refine gate_callee (f := 29) rfl ?_); refine goesL_ (some 60) rfl rfl Try.func29 (by kernel_rfl) rfl #[.string x10_1, .int .i64 (wrap64 ((wrap64 (a1)) + 1))] rfl (by (try simp only [List.map_toArray, List.map_cons, List.map_nil]); first | done | rfl | (simp only [List.length_drop, List.length_take]; rfl)) ?_; (with_reducible refine (predict_Decode.calls k1 x10_1 (wrap64 ((wrap64 (a1)) + 1)) t156 t157 _ A20.out).mono ?_); rintro e w30 ⟨rfl, hb⟩; refine ⟨_, rfl, ?_⟩; have n0_ := Aside0.mk (below_step (by repeat (first | (with_reducible first | exact HB.out | apply below_alloc | apply pw_below_drewN | apply below_drew1) | exact HB.out)) hb); clear HB; have HB := n0_; clear n0_; (try clear hb); (try clear hb2); (try clear hk); (try clear hi)))
                            go_ret
                            exact ⟨by first | rfl | (simp [errW_none, errW_some] <;> rfl) | (simp only [← hji7]; first | rfl | (simp [errW_none, errW_some] <;> rfl)) | (simp [*, errW_none, errW_some] <;> rfl), by repeat (first | (with_reducible first | exact HB.out | apply below_alloc | apply pw_below_drewN | apply below_drew1) | exact HB.out)⟩
                        · rw [if_neg c25] at H
                          have c25b0 : (t156.toList == S1.toList) = false := beq_eq_false_iff_ne.mpr c25
                          have c25b1 : (t156.toList != S1.toList) = true := bne_iff_ne.mpr c25
                          obtain rfl := Option.some.inj H
                          go_wp2_with (first | ((with_reducible refine gate_callee (f := 29) rfl ?_); refine goesL_ (some 60) rfl rfl Try.func29 (by kernel_rfl) rfl #[.string x10_1, .int .i64 (wrap64 ((wrap64 (a1)) + 1))] rfl (by (try simp only [List.map_toArray, List.map_cons, List.map_nil]); first | done | rfl | (simp only [List.length_drop, List.length_take]; rfl)) ?_; (with_reducible refine (predict_Decode.calls k1 x10_1 (wrap64 ((wrap64 (a1)) + 1)) t156 t157 _ A20.out).mono ?_); rintro e w31 ⟨rfl, hb⟩; refine ⟨_, rfl, ?_⟩; have n0_ := Aside0.mk (below_step (by repeat (first | (with_reducible first | exact HB.out | apply below_alloc | apply pw_below_drewN | apply below_drew1) | exact HB.out)) hb); clear HB; have HB := n0_; clear n0_; (try clear hb); (try clear hb2); (try clear hk); (try clear hi)))
                          go_ret
                          exact ⟨by first | rfl | (simp [errW_none, errW_some] <;> rfl) | (simp only [← hji7]; first | rfl | (simp [errW_none, errW_some] <;> rfl)) | (simp [*, errW_none, errW_some] <;> rfl), by repeat (first | (with_reducible first | exact HB.out | apply below_alloc | apply pw_below_drewN | apply below_drew1) | exact HB.out)⟩
                      · rw [if_neg c24] at H
                        have c24b0 : (t154.toList == S1.toList) = false := beq_eq_false_iff_ne.mpr c24
                        have c24b1 : (t154.toList != S1.toList) = true := bne_iff_ne.mpr c24
                        obtain rfl := Option.some.inj H
                        go_wp2_with (first | ((with_reducible refine gate_callee (f := 29) rfl ?_); refine goesL_ (some 60) rfl rfl Try.func29 (by kernel_rfl) rfl #[.string x10_1, .int .i64 (wrap64 ((wrap64 (a1)) + 1))] rfl (by (try simp only [List.map_toArray, List.map_cons, List.map_nil]); first | done | rfl | (simp only [List.length_drop, List.length_take]; rfl)) ?_; (with_reducible refine (predict_Decode.calls k1 x10_1 (wrap64 ((wrap64 (a1)) + 1)) t156 t157 _ A20.out).mono ?_); rintro e w32 ⟨rfl, hb⟩; refine ⟨_, rfl, ?_⟩; have n0_ := Aside0.mk (below_step (by repeat (first | (with_reducible first | exact HB.out | apply below_alloc | apply pw_below_drewN | apply below_drew1) | exact HB.out)) hb); clear HB; have HB := n0_; clear n0_; (try clear hb); (try clear hb2); (try clear hk); (try clear hi)))
                        go_ret
                        exact ⟨by first | rfl | (simp [errW_none, errW_some] <;> rfl) | (simp only [← hji7]; first | rfl | (simp [errW_none, errW_some] <;> rfl)) | (simp [*, errW_none, errW_some] <;> rfl), by repeat (first | (with_reducible first | exact HB.out | apply below_alloc | apply pw_below_drewN | apply below_drew1) | exact HB.out)⟩
                    · rw [if_neg c23] at H
                      have c23b0 : (t157 == 0) = false := beq_eq_false_iff_ne.mpr c23
                      have c23b1 : (t157 != 0) = true := bne_iff_ne.mpr c23
                      obtain rfl := Option.some.inj H
                      go_wp2_with (first | ((with_reducible refine gate_callee (f := 29) rfl ?_); refine goesL_ (some 60) rfl rfl Try.func29 (by kernel_rfl) rfl #[.string x10_1, .int .i64 (wrap64 ((wrap64 (a1)) + 1))] rfl (by (try simp only [List.map_toArray, List.map_cons, List.map_nil]); first | done | rfl | (simp only [List.length_drop, List.length_take]; rfl)) ?_; (with_reducible refine (predict_Decode.calls k1 x10_1 (wrap64 ((wrap64 (a1)) + 1)) t156 t157 _ A20.out).mono ?_); rintro e w33 ⟨rfl, hb⟩; refine ⟨_, rfl, ?_⟩; have n0_ := Aside0.mk (below_step (by repeat (first | (with_reducible first | exact HB.out | apply below_alloc | apply pw_below_drewN | apply below_drew1) | exact HB.out)) hb); clear HB; have HB := n0_; clear n0_; (try clear hb); (try clear hb2); (try clear hk); (try clear hi)))
                      go_ret
                      exact ⟨by first | rfl | (simp [errW_none, errW_some] <;> rfl) | (simp only [← hji7]; first | rfl | (simp [errW_none, errW_some] <;> rfl)) | (simp [*, errW_none, errW_some] <;> rfl), by repeat (first | (with_reducible first | exact HB.out | apply below_alloc | apply pw_below_drewN | apply below_drew1) | exact HB.out)⟩
                  · rw [if_neg c22] at H
                    have c22b0 : (t155 == 0) = false := beq_eq_false_iff_ne.mpr c22
                    have c22b1 : (t155 != 0) = true := bne_iff_ne.mpr c22
                    obtain rfl := Option.some.inj H
                    go_wp2_with (first | ((with_reducible refine gate_callee (f := 29) rfl ?_); refine goesL_ (some 60) rfl rfl Try.func29 (by kernel_rfl) rfl #[.string x10_1, .int .i64 (wrap64 ((wrap64 (a1)) + 1))] rfl (by (try simp only [List.map_toArray, List.map_cons, List.map_nil]); first | done | rfl | (simp only [List.length_drop, List.length_take]; rfl)) ?_; (with_reducible refine (predict_Decode.calls k1 x10_1 (wrap64 ((wrap64 (a1)) + 1)) t156 t157 _ A20.out).mono ?_); rintro e w34 ⟨rfl, hb⟩; refine ⟨_, rfl, ?_⟩; have n0_ := Aside0.mk (below_step (by repeat (first | (with_reducible first | exact HB.out | apply below_alloc | apply pw_below_drewN | apply below_drew1) | exact HB.out)) hb); clear HB; have HB := n0_; clear n0_; (try clear hb); (try clear hb2); (try clear hk); (try clear hi)))
                    go_ret
                    exact ⟨by first | rfl | (simp [errW_none, errW_some] <;> rfl) | (simp only [← hji7]; first | rfl | (simp [errW_none, errW_some] <;> rfl)) | (simp [*, errW_none, errW_some] <;> rfl), by repeat (first | (with_reducible first | exact HB.out | apply below_alloc | apply pw_below_drewN | apply below_drew1) | exact HB.out)⟩
                · rw [if_neg c21] at H
                  have c21b0 : (t153 == 0) = false := beq_eq_false_iff_ne.mpr c21
                  have c21b1 : (t153 != 0) = true := bne_iff_ne.mpr c21
                  obtain rfl := Option.some.inj H
                  go_wp2_with (first | ((with_reducible refine gate_callee (f := 29) rfl ?_); refine goesL_ (some 60) rfl rfl Try.func29 (by kernel_rfl) rfl #[.string x10_1, .int .i64 (wrap64 ((wrap64 (a1)) + 1))] rfl (by (try simp only [List.map_toArray, List.map_cons, List.map_nil]); first | done | rfl | (simp only [List.length_drop, List.length_take]; rfl)) ?_; (with_reducible refine (predict_Decode.calls k1 x10_1 (wrap64 ((wrap64 (a1)) + 1)) t156 t157 _ A20.out).mono ?_); rintro e w35 ⟨rfl, hb⟩; refine ⟨_, rfl, ?_⟩; have n0_ := Aside0.mk (below_step (by repeat (first | (with_reducible first | exact HB.out | apply below_alloc | apply pw_below_drewN | apply below_drew1) | exact HB.out)) hb); clear HB; have HB := n0_; clear n0_; (try clear hb); (try clear hb2); (try clear hk); (try clear hi)))
                  go_ret
                  exact ⟨by first | rfl | (simp [errW_none, errW_some] <;> rfl) | (simp only [← hji7]; first | rfl | (simp [errW_none, errW_some] <;> rfl)) | (simp [*, errW_none, errW_some] <;> rfl), by repeat (first | (with_reducible first | exact HB.out | apply below_alloc | apply pw_below_drewN | apply below_drew1) | exact HB.out)⟩
        · rw [if_neg c9] at H
          exact absurd H (by simp)
      · rw [if_neg c8] at H
        exact absurd H (by simp)

/-- THE ONE PURE STATEMENT of binderylaw13_PredictBack: yours. -/
def binderylaw13_PredictBack.Pure : Prop := ∀ (a0 : ByteArray) (a1 : Int), a0.size ≤ 140737488351232 → (Lit.int .u8 a1).wf = true → ∃ k, binderylaw13_PredictBack.f k a0 a1 = some true
theorem binderylaw13_PredictBack.walk (P : binderylaw13_PredictBack.Pure) (a0 : ByteArray) (a1 : Int) (w : World) (w0 : a0.size ≤ 140737488351232) (w1 : (Lit.int .u8 a1).wf = true) :
    Calls Try.prog 13 #[.string a0, .int .u8 a1] w fun e w' => e = .returned (.bool true) ∧ Below w.heap.size w w' := by
  obtain ⟨k, h⟩ := P a0 a1 w0 w1
  refine (binderylaw13_PredictBack.calls k a0 a1 true w h).mono ?_
  rintro e w' ⟨rfl, hd⟩
  exact ⟨rfl, hd⟩

end Go.Proofs.Ytgoajdnofekcaaa.P13
