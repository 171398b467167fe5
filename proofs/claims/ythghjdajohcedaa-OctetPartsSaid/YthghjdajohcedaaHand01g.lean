/- binderylaw01.OctetLines answers true: walked by hand over the contracts of layer 1. -/
import Derived.Test.YthghjdajohcedaaLem01
namespace Go.Proofs.Ythghjdajohcedaa.Hand
open Go.RowKit Go.Proofs.YthghjdajohcedaaW.PrintWords Go.Proofs.YthghjdajohcedaaW.PrintLast Go.Proofs.YthghjdajohcedaaW.PrintMore Go.Proofs.Ythghjdajohcedaa.Num Go.Proofs.Ythghjdajohcedaa.P01a Go.Proofs.Ythghjdajohcedaa.P01b Go.Proofs.Ythghjdajohcedaa.Lem01
set_option linter.unusedVariables false
set_option linter.unusedSimpArgs false

theorem func_nil_neq (k : Nat) (cap : Array Value) (W : World) : (Go.binOp .neq 32 (.func (.func k) #[] cap) .nilFunc).run Try.prog W = .ok (.bool true) W := by
  have h := func_nil0 9999 k cap W
  have e : Go.Op.equal 32 (.func (.func k) #[] cap) .nilFunc = Go.Op.equalIn (9999 + 1) 32 (.func (.func k) #[] cap) .nilFunc := rfl
  simp only [go_sem, Go.binOp, e]
  simp [go_sem, h]
theorem octets_true (w : World) : Calls Try.prog 21 #[] w fun e w' => e = .returned (.bool true) ∧ Below w.heap.size w w' := binderylaw01_octets.calls true w rfl
theorem rdD {xs : List Int} (i : Nat) : rd xs (i : Int) = xs.getD i 0 := by unfold rd; rw [Int.toNat_natCast]
set_option maxRecDepth 100000 in
set_option maxHeartbeats 4000000 in
theorem octetLines_walk (s : ByteArray) (frm : Int) (word : ByteArray) (w : World) (ws : s.size ≤ 140737488351232) (wf : (Lit.int .i64 frm).wf = true) (ww : word.size ≤ 140737488351232) :
    Calls Try.prog 5 #[.string s, .int .i64 frm, .string word] w fun e w' => e = .returned (.bool true) ∧ Below w.heap.size w w' := by
  clear wf
  have hfn := func_nil 47
  have hfq := func_nil_neq 47
  by_cases h1 : 2000 < s.size
  · have q1 : decide ((2000 : Int) < (s.size : Int)) = true := decide_eq_true (by omega)
    go_enter Try.func5, Try.ntmps5
    go_wp2_with (first | (go_at_call 21; (with_reducible refine (octets_true _).mono ?_); rintro e w1 ⟨rfl, hb1⟩) | (go_at_call 26; (with_reducible refine (octet_Lines_calls _ _).mono ?_); rintro e w2 ⟨rfl, rfl⟩))
    go_ret
    exact ⟨rfl, below_alloc hb1 _⟩
  · have q1 : decide ((2000 : Int) < (s.size : Int)) = false := decide_eq_false (by omega)
    by_cases h2 : 2000 < word.size
    · have q2 : decide ((2000 : Int) < (word.size : Int)) = true := decide_eq_true (by omega)
      go_enter Try.func5, Try.ntmps5
      go_wp2_with (first | (go_at_call 21; (with_reducible refine (octets_true _).mono ?_); rintro e w1 ⟨rfl, hb1⟩) | (go_at_call 26; (with_reducible refine (octet_Lines_calls _ _).mono ?_); rintro e w2 ⟨rfl, rfl⟩))
      go_ret
      exact ⟨rfl, below_alloc hb1 _⟩
    · have q2 : decide ((2000 : Int) < (word.size : Int)) = false := decide_eq_false (by omega)
      have hs : s.size ≤ 2000 := by omega
      obtain ⟨k1, e1⟩ := (lines_ev s hs).rounds
      obtain ⟨k2, e2⟩ := (line_ev s word frm hs (by omega)).rounds
      have E1 := Aside0.mk e1
      have E2 := Aside0.mk e2
      have e3 : octet_Line.f s frm word = some (lineF s frm word) := by unfold octet_Line.f; rw [if_pos (by omega)]
      have E3 := Aside0.mk e3
      have hln := lineNums_len s
      clear e1 e2 e3 h1 h2
      obtain ⟨r, hr⟩ : ∃ r, r = lineF s frm word := ⟨_, rfl⟩
      rw [← hr] at E2 E3
      clear hr
      go_enter Try.func5, Try.ntmps5
      go_wp2_with (first | (go_at_call 21; (with_reducible refine (octets_true _).mono ?_); rintro e w1 ⟨rfl, hb1⟩) | (go_at_call 26; (with_reducible refine (octet_Lines_calls _ _).mono ?_); rintro e w2 ⟨rfl, rfl⟩) | (go_at_call 27; (with_reducible refine (lines_calls s (by omega) _).mono ?_); rintro e w3 ⟨v, rfl, hrow, hb3⟩; obtain ⟨A, c, hv, hrd⟩ := hrow.reads; subst hv; have HB := Aside0.mk ((below_alloc hb1 _).trans (hb3.mono (by have := hb1.size; simp; omega))); clear hb1 hb3) | (go_at_call 28; (with_reducible refine (binderyref01_Lines.calls k1 s _ _ E1.out).mono ?_); rintro e w4 ⟨v2, rfl, hr2, hb4⟩; obtain ⟨A2, c2, hv2, hl2, hC2⟩ := Kd.R_reads hr2; subst hv2; have HB2 := Aside0.mk (HB.out.trans (hb4.mono HB.out.size)); have HRD := Aside0.mk (hrd.below hb4); have HC2 := Aside0.mk hC2; clear hrd hr2 hb4 hC2 hrow HB))
      go_loopw [9] (fun v9 wr => ∃ i : Nat, i ≤ (lineNums s).length ∧ v9 = .int .i64 i ∧ Drawn0 w4 wr) (fun v9 _ => (lineNums s).length - (intOf v9).toNat)
      case atStart => exact ⟨0, by omega, rfl, Drawn0.refl _⟩
      case round =>
        obtain ⟨i, hi, rfl, ⟨m, rfl⟩⟩ := hrel
        by_cases hlt : i < (lineNums s).length
        · have q3 : decide ((i : Int) < ((lineNums s).length : Int)) = true := decide_eq_true (by omega)
          obtain ⟨ad, ha, hc⟩ := ReadsInt.at_ HRD.out (i : Int) (by omega) (by omega)
          obtain ⟨ad2, ha2, hc2⟩ := Kd.at_int HC2.out (i : Int) (by omega) (by omega)
          cases ha
          cases ha2
          obtain ⟨u, hu⟩ : ∃ u : Int, u = rd (lineNums s) (i : Int) := ⟨_, rfl⟩
          rw [← hu] at hc hc2
          rw [Int.toNat_natCast] at hc hc2
          clear hu
          go_wp2
          go_quiet (fail)
          go_wp2
          exact ⟨⟨i + 1, by omega, by go_num, ⟨_, rfl⟩⟩, by simp [intOf]; omega⟩
        · have q3 : decide ((i : Int) < ((lineNums s).length : Int)) = false := decide_eq_false (by omega)
          go_wp2_with (first | (go_at_call 29; (with_reducible refine (octet_Line.calls s frm word _ _ E3.out).mono ?_); rintro e w5 ⟨rfl, hb5⟩) | (go_at_call 30; (with_reducible refine (binderyref01_Line.calls k2 s frm word _ _ E2.out).mono ?_); rintro e w6 ⟨rfl, ⟨nd6, rfl⟩⟩))
          go_ret
          exact ⟨rfl, pw_below_drewN ((HB2.out.trans ((pw_below_drewN (Below.refl _ _) m).mono HB2.out.size)).trans (hb5.mono (by have := HB2.out.size; simp; omega))) _⟩
end Go.Proofs.Ythghjdajohcedaa.Hand
