/- Skip of layer 15: where the next token begins; walked by hand. -/
import Derived.Test.YtkmmmlbppobifaaHand15k
import Derived.ScopeJumps
namespace Go.Proofs.Ytkmmmlbppobifaa.Hand
open Go.RowKit Go.Proofs.YtkmmmlbppobifaaW.PrintWords Go.Proofs.YtkmmmlbppobifaaW.PrintLast Go.Proofs.YtkmmmlbppobifaaW.PrintMore Go.Proofs.Ytkmmmlbppobifaa.Num Go.Proofs.Ytkmmmlbppobifaa.P01a
set_option linter.unusedVariables false
set_option linter.unusedSimpArgs false
def noteL (s : ByteArray) : Nat → Nat → Nat
 | 0, p => p
 | k + 1, p => if p < s.size ∧ endsN s p = 0 then noteL s k (p + 1) else p
def skipF (s : ByteArray) : Nat → Nat → Nat
 | 0, p => p
 | k + 1, p => if p + spanN [0] s p < s.size ∧ bt s ((p + spanN [0] s p : Nat) : Int) = 37 then skipF s k (noteL s s.size (p + spanN [0] s p)) else p + spanN [0] s p
def clampN (s : ByteArray) (a : Int) : Nat := (max 0 (min a (s.size : Int))).toNat
theorem clampN_le (s : ByteArray) (a : Int) : clampN s a ≤ s.size := by unfold clampN; omega
section
variable {P : Program} {Q : Exit → Act → World → Prop}
theorem wp_scope_back {c0 rest : Code} (l : Nat) (J : Act → World → Prop) (μ : Act → World → Nat) {a : Act} {w : World} (hf : findLabel (c0.seq ((Code.label l).seq rest)) l = some (Code.skip.seq rest))
  (first : c0.wp P (Exit.then J (Exit.jump l J Q)) a w)
  (pass : ∀ a w, J a w → rest.wp P (Exit.jump l (fun a' w' => J a' w' ∧ μ a' w' < μ a w) Q) a w) : (Code.scope (c0.seq ((Code.label l).seq rest))).wp P Q a w := by
 refine wp_scope_jumps l J μ hf (wp_seq (Code.wp_mono ?_ first)) (fun a w h => wp_seq (wp_skip (pass a w h)))
 intro e a w h
 cases e with
 | normal =>
  refine wp_seq (wp_label ?_)
  refine Code.wp_mono ?_ (pass a w h)
  intro e a' w' h'
  cases e with
  | goto l' => exact ⟨h'.1, h'.2.1⟩
  | _ => exact h'
 | _ => exact h
end
theorem span_calls2 (s : ByteArray) (p : Nat) (k : Int) (hs : s.size ≤ 1000000) (hp : p ≤ s.size) (W : World) (b : Nat) (hb : b = W.heap.size) :
  Calls Try.prog 24 #[.string s, .int .i64 (p : Int), .slice (some ⟨b, 0, none⟩) 1 1] (W.alloc (.cells #[.int .i64 k] 3)) (fun e w' => e = .returned (.int .i64 (spanN [k] s p : Int)) ∧ Drawn0 (W.alloc (.cells #[.int .i64 k] 3)) w') :=
 octet_Span.calls s p _ 1 [k] _ _ (show Kd.C (Kd.int .i64) (W.alloc (.cells #[.int .i64 k] 3)) (some ⟨b, 0, none⟩) [k].length [k] from litC15 W b hb [k] _ _ rfl (by simp)) (Nat.le_refl _) (by
  unfold octet_Span.f
  rw [if_pos ⟨hs, by simp⟩]
  by_cases h : p < s.size
  ·rw [if_pos ⟨by omega, by omega⟩, Int.toNat_natCast]; rfl
  ·rw [if_neg (by omega)]
   have : spanN [k] s p = 0 := by have := spanN_le [k] s p hp; omega
   rw [this]; rfl)
theorem noteL_le (s : ByteArray) : ∀ (k p : Nat), p ≤ s.size → p ≤ noteL s k p ∧ noteL s k p ≤ s.size
 | 0, p, h => ⟨Nat.le_refl _, h⟩
 | k + 1, p, h => by
  rw [noteL]
  split
  ·rename_i h1
   have := noteL_le s k (p + 1) (by omega)
   omega
  ·exact ⟨Nat.le_refl _, h⟩
theorem noteL_gt (s : ByteArray) (k p : Nat) (hp : p < s.size) (hc : bt s (p : Int) = 37) : p < noteL s (k + 1) p := by
 rw [noteL, if_pos ⟨hp, by unfold endsN; rw [if_pos hp, hc]; rfl⟩]
 have := noteL_le s k (p + 1) (by omega)
 omega
set_option maxRecDepth 100000 in
set_option maxHeartbeats 8000000 in
theorem skip_calls (w : World) (s : ByteArray) (a : Int) (K : Nat) (hs : s.size ≤ 60000) (hK : s.size < clampN s a + K) :
  Calls Try.prog 10 #[.string s, .int .i64 a] w fun e w' => e = .returned (.int .i64 (skipF s K (clampN s a) : Int)) ∧ Below w.heap.size w w' := by
 have hpl := clampN_le s a
 have hpd : ∃ p, p = clampN s a ∧ ((p : Int) = max 0 (min a (s.size : Int))) := ⟨_, rfl, by unfold clampN; omega⟩
 obtain ⟨p, hp, hpa⟩ := hpd
 rw [← hp] at hpl hK ⊢
 obtain ⟨r, hr⟩ : ∃ r, r = skipF s K p := ⟨_, rfl⟩
 rw [← hr]
 have HR := Aside0.mk hr
 clear hr hp
 go_enter Try.func10, Try.ntmps10
 go_wp2_with fail
 refine wp_scope_back 0 (fun a' w' => ∃ (k q : Nat) (u2 u3 u5 u6 u7 u8 u9 u10 u11 u12 u13 u14 u15 u16 u17 u18 u19 u20 u21 u22 u23 u24 u25 u26 u27 u28 u29 u30 u31 u32 u33 u34 u35 u36 u37 u38 : Value), a' = { tmps := #[.string s, .int .i64 (q : Int), u2, u3, .int .i64 0, u5, u6, u7, u8, u9, u10, u11, u12, u13, u14, u15, u16, u17, u18, u19, u20, u21, u22, u23, u24, u25, u26, u27, u28, u29, u30, u31, u32, u33, u34, u35, u36, u37, u38], defers := [] } ∧ q ≤ s.size ∧ Aside0 (s.size < q + k ∧ r = skipF s k q) ∧ Aside0 (Below w.heap.size w w')) (fun a' _ => s.size - (intOf (a'.tmps.getD 1 undef)).toNat) ?hf ?_ ?_
 case hf => rfl
 ·go_wp2_with fail
  ·exact ⟨K, p, by omega, hpl, ⟨hK, HR.out⟩, ⟨Below.refl _ _⟩⟩
  ·rename_i h1
   rw [if_neg (by omega)] at h1
   exact ⟨K, p, by omega, hpl, ⟨hK, HR.out⟩, ⟨Below.refl _ _⟩⟩
  ·rename_i h
   split at h
   all_goals exact ⟨K, p, by omega, hpl, ⟨hK, HR.out⟩, ⟨Below.refl _ _⟩⟩
 ·rintro a' W ⟨k, q, u2, u3, u5, u6, u7, u8, u9, u10, u11, u12, u13, u14, u15, u16, u17, u18, u19, u20, u21, u22, u23, u24, u25, u26, u27, u28, u29, u30, u31, u32, u33, u34, u35, u36, u37, u38, rfl, hq, HK, HB⟩
  have KS := Aside0.mk (span_calls2 s q 0 (by omega) hq W W.heap.size rfl)
  have hsp := spanN_le [0] s q hq
  obtain ⟨hk, hr⟩ := HK.out
  cases k with
  | zero => exact absurd hk (by omega)
  | succ k1 =>
   rw [skipF] at hr
   generalize spanN [0] s q = n at *
   obtain ⟨q1, hq1⟩ : ∃ q1, q1 = q + n := ⟨_, rfl⟩
   rw [← hq1] at hr
   have e1 : (q : Int) + (n : Int) = (q1 : Int) := by omega
   have hq1s : q1 ≤ s.size ∧ q ≤ q1 := by omega
   have HR1 := Aside0.mk (And.intro hr (And.intro hq1 hk))
   have hw1 : IntKind.i64.wrap (q1 : Int) = (q1 : Int) := IntWalk.i64_in _ (by omega)
   clear hr hk HK hq1 hsp
   go_upto_region 3 with (first | (go_at_call 24; (with_reducible refine KS.out.mono ?_); rintro e W2 ⟨rfl, hd2⟩))
   have HB2 : Aside0 (Below w.heap.size w W2) := ⟨by obtain ⟨m, rfl⟩ := hd2.out; exact pw_below_drewN (below_alloc HB.out _) m⟩
   clear KS hd2 HB e1 hw1
   by_cases hlt : q1 < s.size
   ·have t1 : decide ((q1 : Int) < (s.size : Int)) = true := decide_eq_true (by omega)
    have t1n : decide (q1 < s.size) = true := decide_eq_true hlt
    have i1 : (0 : Int) ≤ (q1 : Int) := by omega
    have i2 : (q1 : Int) < (s.size : Int) := by omega
    have hx := nat_bt s q1 hlt
    by_cases hc : bt s (q1 : Int) = 37
    ·have t2 : (bt s (q1 : Int) == 37) = true := beq_iff_eq.2 hc
     go_wp2_with fail
     clear t1 t1n i1 i2 hx t2
     go_loopg [1] s.size (fun kq v1 wr => ∃ j : Nat, v1 = .int .i64 (j : Int) ∧ q1 ≤ j ∧ j ≤ s.size ∧ s.size ≤ j + kq ∧ Aside0 (noteL s s.size q1 = noteL s kq j) ∧ Aside0 (Below w.heap.size w wr))
     case atStart => exact ⟨q1, rfl, Nat.le_refl _, hq1s.1, by omega, ⟨rfl⟩, HB2⟩
     case round =>
      obtain ⟨j, rfl, hj1, hj2, hj3, HN, HBj⟩ := hrel
      have KE := Aside0.mk (fun W => ends_calls s j (by omega) hj2 W)
      clear HB2
      by_cases hin : j < s.size
      ·have t3 : decide ((j : Int) < (s.size : Int)) = true := decide_eq_true (by omega)
       have t3n : decide (j < s.size) = true := decide_eq_true hin
       obtain ⟨nI, hnI⟩ : ∃ nI : Int, nI = (endsN s j : Int) := ⟨_, rfl⟩
       rw [← hnI] at KE
       by_cases he0 : endsN s j = 0
       ·have t4 : (nI == 0) = true := beq_iff_eq.2 (by omega)
        obtain ⟨j1, hj⟩ : ∃ j1, j1 = j + 1 := ⟨_, rfl⟩
        have e5 : (j : Int) + 1 = (j1 : Int) := by omega
        have hw5 : IntKind.i64.wrap (j1 : Int) = (j1 : Int) := IntWalk.i64_in _ (by omega)
        cases gk with
        | zero => exact absurd hj3 (by omega)
        | succ kk =>
         have hn := HN.out
         conv at hn => rhs; rw [noteL, if_pos ⟨hin, he0⟩, ← hj]
         have HN2 := Aside0.mk hn
         have hjs : q1 ≤ j1 ∧ j1 ≤ s.size ∧ s.size ≤ j1 + kk := by omega
         clear hn HN hj he0 hnI
         go_wp2_with (first | (go_at_call 25; (with_reducible refine (KE.out _).mono ?_); rintro e W3 ⟨rfl, ⟨nd, rfl⟩⟩))
         go_roundg kk
         case measure => omega
         case rel => exact ⟨j1, rfl, hjs.1, hjs.2.1, hjs.2.2, HN2, ⟨pw_below_drewN HBj.out nd⟩⟩
       ·have t4 : (nI == 0) = false := beq_false_of_ne (by omega)
        have hn : noteL s s.size q1 = j := by
         rw [HN.out]
         cases gk with
         | zero => rfl
         | succ kk => rw [noteL, if_neg (fun h => he0 h.2)]
        go_wp2_with (first | (go_at_call 25; (with_reducible refine (KE.out _).mono ?_); rintro e W3 ⟨rfl, ⟨nd, rfl⟩⟩))
        obtain ⟨hr, hq1, hk⟩ := HR1.out
        have hgt : q1 < j := by
         have h := noteL_gt s (s.size - 1) q1 hlt hc
         rw [show s.size - 1 + 1 = s.size by omega, hn] at h
         exact h
        rw [if_pos ⟨hlt, hc⟩, hn] at hr
        go_step3
        exact ⟨rfl, ⟨k1, j, _, _, _, _, _, _, _, _, _, _, _, _, _, _, _, _, _, _, _, _, _, _, _, _, _, _, _, _, _, _, _, _, _, _, _, _, rfl, hj2, ⟨⟨by omega, hr⟩⟩, ⟨pw_below_drewN HBj.out nd⟩⟩, by simp [intOf]; omega⟩
      ·have t3 : decide ((j : Int) < (s.size : Int)) = false := decide_eq_false (by omega)
       have t3n : decide (j < s.size) = false := decide_eq_false hin
       have hn : noteL s s.size q1 = j := by
        rw [HN.out]
        cases gk with
        | zero => rfl
        | succ kk => rw [noteL, if_neg (fun h => hin h.1)]
       go_wp2_with fail
       obtain ⟨hr, hq1, hk⟩ := HR1.out
       have hgt : q1 < j := by
        have h := noteL_gt s (s.size - 1) q1 hlt hc
        rw [show s.size - 1 + 1 = s.size by omega, hn] at h
        exact h
       rw [if_pos ⟨hlt, hc⟩, hn] at hr
       go_step3
       exact ⟨rfl, ⟨k1, j, _, _, _, _, _, _, _, _, _, _, _, _, _, _, _, _, _, _, _, _, _, _, _, _, _, _, _, _, _, _, _, _, _, _, _, _, rfl, hj2, ⟨⟨by omega, hr⟩⟩, ⟨HBj.out⟩⟩, by simp [intOf]; omega⟩
    ·have t2 : (bt s (q1 : Int) == 37) = false := beq_false_of_ne hc
     go_wp2_with fail
     have hr := HR1.out.1
     rw [if_neg (fun h => hc h.2)] at hr
     subst hr
     simp only [Exit.jump]
     go_ret
     exact ⟨rfl, HB2.out⟩
   ·have t1 : decide ((q1 : Int) < (s.size : Int)) = false := decide_eq_false (by omega)
    have t1n : decide (q1 < s.size) = false := decide_eq_false hlt
    go_wp2_with fail
    have hr := HR1.out.1
    rw [if_neg (fun h => hlt h.1)] at hr
    subst hr
    simp only [Exit.jump]
    go_ret
    exact ⟨rfl, HB2.out⟩
end Go.Proofs.Ytkmmmlbppobifaa.Hand
