/- The document's Ends of layer 1 (over the token's seat). -/
import Derived.Test.YtkmmmlbppobifaaHand15a
import Derived.Test.YtkmmmlbppobifaaP01bx1
namespace Go.Proofs.Ytkmmmlbppobifaa.Hand
open Go.RowKit Go.Proofs.YtkmmmlbppobifaaW.PrintWords Go.Proofs.YtkmmmlbppobifaaW.PrintLast Go.Proofs.YtkmmmlbppobifaaW.PrintMore Go.Proofs.Ytkmmmlbppobifaa.Num Go.Proofs.Ytkmmmlbppobifaa.P01b
set_option linter.unusedVariables false
set_option linter.unusedSimpArgs false
theorem in_all : ∀ c : Fin 256, binderyref01_in.f 5 ⟨#[13, 10]⟩ ((c.val : Nat) : Int) = some (decide (((c.val : Nat) : Int) = 13 ∨ ((c.val : Nat) : Int) = 10)) := by decide +kernel
theorem in_f (s : ByteArray) (i : Int) : binderyref01_in.f 5 ⟨#[13, 10]⟩ (bt s i) = some (decide (bt s i = 13 ∨ bt s i = 10)) := by
 have h := bt_range s i
 obtain ⟨m, hm⟩ := Int.eq_ofNat_of_zero_le h.1
 rw [hm]
 exact in_all ⟨m, by omega⟩
theorem two (t : ByteArray) (h : 1 < t.size) : ((t.extract 0 2).toList == [13, 10]) = decide (bt t 0 = 13 ∧ bt t 1 = 10) := by
 have e0 : bytesOf (t.extract 0 2) = [bt t 0, bt t 1] := by
  have d0 := drop_bytes t 0 (by omega)
  have d1 := drop_bytes t 1 h
  rw [List.drop_zero] at d0
  rw [bytesOf_extract, d0, Nat.zero_add, d1]
  rfl
 have e1 : ([13, 10] : List UInt8) = (⟨#[13, 10]⟩ : ByteArray).toList := by decide +kernel
 have e2 : bytesOf (⟨#[13, 10]⟩ : ByteArray) = [13, 10] := by decide +kernel
 rw [Bool.eq_iff_iff, beq_iff_eq, e1, toList_inj, decide_eq_true_eq]
 constructor
 ·intro h
  rw [h, e2] at e0
  injection e0 with a b
  injection b with b
  exact ⟨a.symm, b.symm⟩
 ·intro h
  apply bytes_ext
  rw [e0, e2, h.1, h.2]
def binderyref01_Ends.f (a0 : ByteArray) (a1 : Int) : Option Int := if a0.size ≤ 1000000 then (if 0 ≤ a1 ∧ a1 < (a0.size : Int) then some (endsN a0 a1.toNat : Int) else some 0) else none
set_option maxRecDepth 100000 in
set_option maxHeartbeats 2000000 in
theorem binderyref01_Ends.calls (a0 : ByteArray) (a1 : Int) (r : Int) (w : World) (h : binderyref01_Ends.f a0 a1 = some r) :
  Calls Try.prog 34 #[.string a0, .int .i64 a1] w fun e w' => e = .returned (.int .i64 r) ∧ Drawn0 w w' := by
 unfold binderyref01_Ends.f at h
 by_cases hs : a0.size ≤ 1000000
 ·rw [if_pos hs] at h
  by_cases hin : 0 ≤ a1 ∧ a1 < (a0.size : Int)
  ·rw [if_pos hin] at h
   obtain ⟨n, rfl⟩ := Int.eq_ofNat_of_zero_le hin.1
   rw [Int.toNat_natCast] at h
   obtain rfl := Option.some.inj h
   have hn : n < a0.size := by omega
   have d1 : decide ((n : Int) < 0) = false := decide_eq_false (by omega)
   have d2 : decide ((a0.size : Int) ≤ (n : Int)) = false := decide_eq_false (by omega)
   have ksl : ∀ W : World, (Instr.slice 9 (.string a0) (some (.int .i64 (n : Int))) none none).run Try.prog W = .ok (.string (a0.extract n a0.size)) W := fun W => by
    have := run_slice_string_l (P := Try.prog) W 9 a0 Try.underlying9 .i64 (n : Int) (by omega) (by omega)
    rwa [show ((n : Int)).toNat = n by omega] at this
   obtain ⟨t, ht⟩ : ∃ t, t = a0.extract n a0.size := ⟨_, rfl⟩
   have hsz : t.size = a0.size - n := by rw [ht, ByteArray.size_extract]; omega
   have hb0 : bt t 0 = bt a0 (n : Int) := by rw [ht]; exact bt_extract a0 n a0.size 0 (by omega) (by omega)
   have hb1 : 1 < t.size → bt t 1 = bt a0 ((n + 1 : Nat) : Int) := fun h => by rw [ht]; exact bt_extract a0 n a0.size 1 (by omega) (by omega)
   rw [← ht] at ksl
   clear ht
   have hinf := in_f t 0
   have h0 : 0 < t.size := by clear hb1; omega
   have hx : ((t[0]'h0).toNat : Int) = bt t 0 := bt_at t 0 h0
   obtain ⟨x, hxx⟩ : ∃ x, x = bt t 0 := ⟨_, rfl⟩
   have hen : endsN a0 n = if x = 10 then 1 else if x = 13 then (if 1 < t.size ∧ bt t 1 = 10 then 2 else 1) else 0 := by
    unfold endsN
    rw [if_pos hn, ← hb0, ← hxx]
    by_cases h1 : 1 < t.size
    ·rw [hb1 h1]
     have : n + 1 < a0.size := by omega
     simp only [h1, this, true_and]
    ·rw [if_neg (show ¬ (n + 1 < a0.size ∧ _) from fun h => by omega), if_neg (show ¬ (1 < t.size ∧ _) from fun h => h1 h.1)]
   rw [← hxx] at hinf hx
   have HX := Aside0.mk hxx
   have HSZ := Aside0.mk hsz
   have HEN := Aside0.mk hen
   have two' := two t
   rw [← hxx] at two'
   clear hsz hen hxx hb0 hb1 hin
   have k0 : decide ((0 : Int) < (t.size : Int)) = true := decide_eq_true (by omega)
   by_cases h1 : 1 < t.size
   ·have q1 : decide ((1 : Int) < (t.size : Int)) = true := decide_eq_true (by omega)
    have q2 := two' h1
    clear two'
    by_cases hcr : x = 13 ∧ bt t 1 = 10
    ·rw [decide_eq_true hcr] at q2
     have hr : endsN a0 n = 2 := by rw [HEN.out, if_neg (by omega), if_pos hcr.1, if_pos ⟨h1, hcr.2⟩]
     rw [hr]
     clear hr hcr
     go_enter Try.func34, Try.ntmps34
     go_wp2_with fail
     go_ret
     exact ⟨rfl, Drawn0.refl _⟩
    ·rw [decide_eq_false hcr] at q2
     by_cases hio : x = 13 ∨ x = 10
     ·have hr : endsN a0 n = 1 := by
       rw [HEN.out]
       by_cases h10 : x = 10
       ·rw [if_pos h10]
       ·rw [if_neg h10, if_pos (hio.resolve_right h10), if_neg (fun h => hcr ⟨hio.resolve_right h10, h.2⟩)]
      rw [hr]
      rw [decide_eq_true hio] at hinf
      have HI := Aside0.mk hinf
      clear hr hcr hio hinf
      go_enter Try.func34, Try.ntmps34
      go_wp2_with (first | (go_at_call 36; (with_reducible refine (binderyref01_in.calls 5 ⟨#[13, 10]⟩ x true _ HI.out).mono ?_); rintro e w1 ⟨rfl, ⟨nd, rfl⟩⟩))
      go_ret
      exact ⟨rfl, ⟨_, rfl⟩⟩
     ·have hr : endsN a0 n = 0 := by rw [HEN.out, if_neg (fun h => hio (Or.inr h)), if_neg (fun h => hio (Or.inl h))]
      rw [hr]
      rw [decide_eq_false hio] at hinf
      have HI := Aside0.mk hinf
      clear hr hcr hio hinf
      go_enter Try.func34, Try.ntmps34
      go_wp2_with (first | (go_at_call 36; (with_reducible refine (binderyref01_in.calls 5 ⟨#[13, 10]⟩ x false _ HI.out).mono ?_); rintro e w1 ⟨rfl, ⟨nd, rfl⟩⟩))
      go_ret
      exact ⟨rfl, ⟨_, rfl⟩⟩
   ·have q1 : decide ((1 : Int) < (t.size : Int)) = false := decide_eq_false (by omega)
    clear two'
    by_cases hio : x = 13 ∨ x = 10
    ·have hr : endsN a0 n = 1 := by
      rw [HEN.out]
      by_cases h10 : x = 10
      ·rw [if_pos h10]
      ·rw [if_neg h10, if_pos (hio.resolve_right h10), if_neg (fun h => h1 h.1)]
     rw [hr]
     rw [decide_eq_true hio] at hinf
     have HI := Aside0.mk hinf
     clear hr hio hinf
     go_enter Try.func34, Try.ntmps34
     go_wp2_with (first | (go_at_call 36; (with_reducible refine (binderyref01_in.calls 5 ⟨#[13, 10]⟩ x true _ HI.out).mono ?_); rintro e w1 ⟨rfl, ⟨nd, rfl⟩⟩))
     go_ret
     exact ⟨rfl, ⟨_, rfl⟩⟩
    ·have hr : endsN a0 n = 0 := by rw [HEN.out, if_neg (fun h => hio (Or.inr h)), if_neg (fun h => hio (Or.inl h))]
     rw [hr]
     rw [decide_eq_false hio] at hinf
     have HI := Aside0.mk hinf
     clear hr hio hinf
     go_enter Try.func34, Try.ntmps34
     go_wp2_with (first | (go_at_call 36; (with_reducible refine (binderyref01_in.calls 5 ⟨#[13, 10]⟩ x false _ HI.out).mono ?_); rintro e w1 ⟨rfl, ⟨nd, rfl⟩⟩))
     go_ret
     exact ⟨rfl, ⟨_, rfl⟩⟩
  ·rw [if_neg hin] at h
   obtain rfl := Option.some.inj h
   by_cases h0 : a1 < 0
   ·have d1 : decide (a1 < 0) = true := decide_eq_true h0
    clear hin h
    go_enter Try.func34, Try.ntmps34
    go_wp2_with fail
    go_ret
    exact ⟨rfl, Drawn0.refl _⟩
   ·have d1 : decide (a1 < 0) = false := decide_eq_false h0
    have d2 : decide ((a0.size : Int) ≤ a1) = true := decide_eq_true (by omega)
    clear hin h
    go_enter Try.func34, Try.ntmps34
    go_wp2_with fail
    go_ret
    exact ⟨rfl, Drawn0.refl _⟩
 ·rw [if_neg hs] at h; cases h
end Go.Proofs.Ytkmmmlbppobifaa.Hand
