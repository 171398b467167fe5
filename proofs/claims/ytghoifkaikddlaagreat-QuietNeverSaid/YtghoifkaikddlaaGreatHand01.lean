/- Contracts of layer 1 (octet), with plain functions: Kind, Hex, Digit, Ends, Span. -/
import Derived.Test.YtghoifkaikddlaaGreatBits
import Derived.Test.YtghoifkaikddlaaGreatP01ax1
namespace Go.Proofs.YtghoifkaikddlaaGreat.Hand
open Go.RowKit Go.Proofs.YtghoifkaikddlaaGreatW.PrintWords Go.Proofs.YtghoifkaikddlaaGreatW.PrintLast Go.Proofs.YtghoifkaikddlaaGreatW.PrintMore Go.Proofs.YtghoifkaikddlaaGreat.Num Go.Proofs.YtghoifkaikddlaaGreat.P01a
set_option linter.unusedVariables false
set_option linter.unusedSimpArgs false
def kF (c : Int) : Int :=
 if c = 0 ∨ c = 9 ∨ c = 10 ∨ c = 12 ∨ c = 13 ∨ c = 32 then 0
 else if c = 40 ∨ c = 41 ∨ c = 60 ∨ c = 62 ∨ c = 91 ∨ c = 93 ∨ c = 123 ∨ c = 125 ∨ c = 47 ∨ c = 37 then 1 else 2
theorem kF_eq (k : Nat) (c : Int) : octet_Kind.f (k + 1) c = some (kF c) := by
 have hn : ∀ {a b : Int}, a ≠ b → (a == b) = false := fun h => beq_eq_false_iff_ne.2 h
 unfold octet_Kind.f
 by_cases h0 : c = 0
 ·subst h0; rfl
 by_cases h9 : c = 9
 ·subst h9; rfl
 by_cases h10 : c = 10
 ·subst h10; rfl
 by_cases h12 : c = 12
 ·subst h12; rfl
 by_cases h13 : c = 13
 ·subst h13; rfl
 by_cases h32 : c = 32
 ·subst h32; rfl
 rw [if_neg h0, if_neg h9, if_neg h10, if_neg h12, if_neg h13, hn h32, octet_Kind.j0, if_neg (show ¬ (false = true) by decide)]
 by_cases a1 : c = 40
 ·subst a1; rfl
 by_cases a2 : c = 41
 ·subst a2; rfl
 by_cases a3 : c = 60
 ·subst a3; rfl
 by_cases a4 : c = 62
 ·subst a4; rfl
 by_cases a5 : c = 91
 ·subst a5; rfl
 by_cases a6 : c = 93
 ·subst a6; rfl
 by_cases a7 : c = 123
 ·subst a7; rfl
 by_cases a8 : c = 125
 ·subst a8; rfl
 by_cases a9 : c = 47
 ·subst a9; rfl
 by_cases a10 : c = 37
 ·subst a10; rfl
 rw [if_neg a1, if_neg a2, if_neg a3, if_neg a4, if_neg a5, if_neg a6, if_neg a7, if_neg a8, if_neg a9, if_neg a10, kF, if_neg (by omega), if_neg (by omega)]
theorem kind_calls (c : Int) (w : World) : Calls Tryz.prog 70 #[.int .u8 c] w fun e w' => e = .returned (.int .i64 (kF c)) ∧ Drawn0 w w' := octet_Kind.calls 1 c (kF c) w (kF_eq 0 c)
def spanL (ks : List Int) : List Int → Nat
 | [] => 0
 | c :: cs => if ks.contains (kF c) then spanL ks cs + 1 else 0
theorem spanL_le (ks : List Int) : ∀ cs, spanL ks cs ≤ cs.length
 | [] => Nat.le_refl _
 | c :: cs => by
  rw [spanL]
  have := spanL_le ks cs
  split
  ·rw [List.length_cons]; omega
  ·exact Nat.zero_le _
theorem drop_bytes (s : ByteArray) (i : Nat) (h : i < s.size) : (bytesOf s).drop i = bt s (i : Int) :: (bytesOf s).drop (i + 1) := by
 have h' : i < (bytesOf s).length := by rw [bytesOf_length]; exact h
 have e := bytesOf_get? s i
 rw [if_pos h, List.getElem?_eq_getElem h'] at e
 injection e with e
 rw [List.drop_eq_getElem_cons h', e]
def octet_Span.f (a0 : ByteArray) (a1 : Int) (l2 : List Int) : Option Int :=
 if a0.size ≤ 1000000 ∧ l2.length ≤ 1000000 then (if 0 ≤ a1 ∧ a1 < (a0.size : Int) then some ((spanL l2 ((bytesOf a0).drop a1.toNat) : Nat) : Int) else some 0) else none
set_option maxRecDepth 100000 in
set_option maxHeartbeats 2000000 in
theorem octet_Span.calls (a0 : ByteArray) (a1 : Int) (A2 : Option Addr) (c2 : Nat) (l2 : List Int) (r : Int) (w : World) (hr2 : Kd.C (Kd.int .i64) w A2 l2.length l2) (hc2 : l2.length ≤ c2) (h : octet_Span.f a0 a1 l2 = some r) :
  Calls Tryz.prog 100 #[.string a0, .int .i64 a1, .slice A2 l2.length c2] w fun e w' => e = .returned (.int .i64 r) ∧ Drawn0 w w' := by
 unfold octet_Span.f at h
 by_cases hg : a0.size ≤ 1000000 ∧ l2.length ≤ 1000000
 ·rw [if_pos hg] at h
  obtain ⟨g1, g2⟩ := hg
  by_cases hin : 0 ≤ a1 ∧ a1 < (a0.size : Int)
  ·rw [if_pos hin] at h
   have hwi : octet_within.f a0 a1 = some true := by unfold octet_within.f; rw [if_pos hin.1, decide_eq_true hin.2]
   have HWI := Aside0.mk hwi
   obtain ⟨n, rfl⟩ := Int.eq_ofNat_of_zero_le hin.1
   rw [Int.toNat_natCast] at h
   obtain ⟨i1, i2⟩ := hin
   have hn : n < a0.size := by omega
   obtain ⟨z, hz⟩ : ∃ z : Nat, z = spanL l2 ((bytesOf a0).drop n) := ⟨_, rfl⟩
   rw [← hz] at h
   have HZ := Aside0.mk hz
   have HR2 := Aside0.mk hr2
   have HC2 := Aside0.mk hc2
   obtain rfl := Option.some.inj h
   clear hwi h hr2 hc2 hz
   go_enter Tryz.func100, Tryz.ntmps100
   go_wp2_with fail
   go_step3
   go_wp2_with (first | (go_at_call 123; (with_reducible refine (octet_within.calls a0 (n : Int) true _ HWI.out).mono ?_); rintro e w1 ⟨rfl, ⟨nd, rfl⟩⟩))
   go_step3
   go_wp2
   go_loopw [7] (fun v7 wr => ∃ (i : Nat), n + i ≤ a0.size ∧ v7 = .int .i64 i ∧ Aside0 (z = i + spanL l2 ((bytesOf a0).drop (n + i))) ∧ Drawn0 w wr) (fun v7 _ => a0.size - (intOf v7).toNat)
   case atStart => exact ⟨0, by omega, rfl, ⟨by rw [HZ.out, Nat.zero_add]; rfl⟩, by repeat (first | exact Drawn0.refl _ | apply Drawn0.step)⟩
   case round =>
    clear HZ i2
    obtain ⟨i, hi, rfl, HI, ⟨m1, rfl⟩⟩ := hrel
    have q0 : IntKind.i64.wrap ((a0.size : Int) - (n : Int)) = (a0.size : Int) - (n : Int) := IntWalk.i64_in _ (by omega)
    by_cases hlt : n + i < a0.size
    ·obtain ⟨p, hp⟩ : ∃ p : Nat, p = n + i := ⟨_, rfl⟩
     have hpl : p < a0.size := by omega
     have hpi : IntKind.i64.wrap ((n : Int) + (i : Int)) = (p : Int) := (IntWalk.i64_in _ (by omega)).trans (by omega)
     have HP := Aside0.mk hp
     clear hp
     have q1 : decide ((i : Int) < (a0.size : Int) - (n : Int)) = true := decide_eq_true (by omega)
     obtain ⟨x, hx⟩ : ∃ x : Int, x = bt a0 (p : Int) := ⟨_, rfl⟩
     have hxx : (a0[p].toNat : Int) = x := by rw [hx]; exact (bt_nat a0 p hpl).symm
     have hI := HI.out
     rw [← HP.out, drop_bytes a0 p hpl, ← hx, spanL] at hI
     have HI2 := Aside0.mk hI
     clear hI HI hx
     obtain ⟨y, hy⟩ : ∃ y : Int, y = kF x := ⟨_, rfl⟩
     rw [← hy] at HI2
     have HK := Aside0.mk (kind_calls x)
     have HY := Aside0.mk hy
     clear hy
     go_wp2_with fail
     obtain ⟨wo, hwo⟩ : ∃ wo : World, wo = w.drewN m1 := ⟨_, rfl⟩
     rw [← hwo]
     go_loopw [24] (fun v24 wr => ∃ (j : Nat), j ≤ l2.length ∧ v24 = .int .i64 j ∧ Aside0 ((l2.drop j).contains y = l2.contains y) ∧ Drawn0 w wr) (fun v24 _ => l2.length - (intOf v24).toNat)
     case atStart => exact ⟨0, by omega, rfl, ⟨rfl⟩, ⟨m1, hwo⟩⟩
     case round =>
      clear hwo
      obtain ⟨j, hj, rfl, HJ, ⟨m2, rfl⟩⟩ := hrel
      by_cases hjl : j < l2.length
      ·obtain ⟨ad, ead, hcell⟩ := Kd.at_int HR2.out (j : Int) (by omega) (by omega)
       cases ead
       obtain ⟨u, hu⟩ : ∃ u : Int, u = rd l2 (j : Int) := ⟨_, rfl⟩
       have hd : l2.drop j = u :: l2.drop (j + 1) := by
        rw [List.drop_eq_getElem_cons hjl, hu, rd, Int.toNat_natCast, List.getD_eq_getElem?_getD, List.getElem?_eq_getElem hjl]; rfl
       rw [← hu, Int.toNat_natCast] at hcell
       have hJ := HJ.out
       rw [hd, List.contains_cons] at hJ
       clear hu hd HJ
       have q2 : decide ((j : Int) < (l2.length : Int)) = true := decide_eq_true (by omega)
       by_cases hyu : y = u
       ·have q3 : (y == u) = true := beq_iff_eq.2 hyu
        rw [q3, Bool.true_or] at hJ
        have hI2 := HI2.out
        rw [if_pos hJ.symm] at hI2
        have HI3 := Aside0.mk hI2
        clear hJ hI2 hyu
        go_wp2_with (first | (go_at_call 70; (with_reducible refine (HK.out _).mono ?_); rintro e w1 ⟨rfl, ⟨nd, rfl⟩⟩; rw [← HY.out]))
        exact ⟨⟨i + 1, by have := HP.out; omega, by go_num, ⟨by have := HI3.out; rw [← Nat.add_assoc n i 1, ← HP.out]; omega⟩, ⟨_, rfl⟩⟩, by simp [intOf]; have := HP.out; omega⟩
       ·have q3 : (y == u) = false := beq_eq_false_iff_ne.2 hyu
        rw [q3, Bool.false_or] at hJ
        have HJ2 := Aside0.mk hJ
        clear hJ hyu
        go_wp2_with (first | (go_at_call 70; (with_reducible refine (HK.out _).mono ?_); rintro e w1 ⟨rfl, ⟨nd, rfl⟩⟩; rw [← HY.out]))
        exact ⟨⟨j + 1, by omega, by go_num, ⟨HJ2.out⟩, ⟨_, rfl⟩⟩, by simp [intOf]; omega⟩
      ·have ej : j = l2.length := by omega
       have hJ := HJ.out
       rw [ej, List.drop_length, List.contains_nil] at hJ
       have hI2 := HI2.out
       rw [← hJ, if_neg (by decide)] at hI2
       obtain rfl : z = i := by omega
       have q2 : decide ((j : Int) < (l2.length : Int)) = false := decide_eq_false (by omega)
       clear hJ hI2 ej
       go_wp2
       repeat (rw [Exit.noGoto_ret])
       go_ret
       exact ⟨rfl, ⟨_, rfl⟩⟩
    ·have q1 : decide ((i : Int) < (a0.size : Int) - (n : Int)) = false := decide_eq_false (by omega)
     have hI := HI.out
     rw [List.drop_eq_nil_of_le (by rw [bytesOf_length]; omega)] at hI
     obtain rfl : z = i := by rw [spanL] at hI; omega
     clear hI
     go_wp2
     repeat (rw [Exit.noGoto_ret])
     go_ret
     exact ⟨rfl, ⟨_, rfl⟩⟩
  ·rw [if_neg hin] at h
   obtain rfl := Option.some.inj h
   have hwi : octet_within.f a0 a1 = some false := by
    unfold octet_within.f
    by_cases h0 : a1 ≥ 0
    ·rw [if_pos h0, decide_eq_false (by omega)]
    ·rw [if_neg h0]
   have HWI := Aside0.mk hwi
   have HR2 := Aside0.mk hr2
   clear hwi hin h hr2
   go_enter Tryz.func100, Tryz.ntmps100
   go_wp2_with fail
   go_step3
   go_wp2_with (first | (go_at_call 123; (with_reducible refine (octet_within.calls a0 a1 false _ HWI.out).mono ?_); rintro e w1 ⟨rfl, ⟨nd, rfl⟩⟩))
   repeat (rw [Exit.noGoto_ret])
   go_ret
   exact ⟨rfl, ⟨_, rfl⟩⟩
 ·rw [if_neg hg] at h
  cases h
end Go.Proofs.YtghoifkaikddlaaGreat.Hand
