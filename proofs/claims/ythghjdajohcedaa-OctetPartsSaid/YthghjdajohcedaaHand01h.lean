/- binderylaw01.OctetParts answers true: walked by hand over the contracts of layer 1. -/
import Derived.Test.YthghjdajohcedaaHand01g
namespace Go.Proofs.Ythghjdajohcedaa.Hand
open Go.RowKit Go.Proofs.YthghjdajohcedaaW.PrintWords Go.Proofs.YthghjdajohcedaaW.PrintLast Go.Proofs.YthghjdajohcedaaW.PrintMore Go.Proofs.Ythghjdajohcedaa.Num Go.Proofs.Ythghjdajohcedaa.P01a Go.Proofs.Ythghjdajohcedaa.P01b Go.Proofs.Ythghjdajohcedaa.Lem01
set_option linter.unusedVariables false
set_option linter.unusedSimpArgs false

theorem spanL_all : ∀ cs : List Int, spanL [0, 1, 2] cs = cs.length
  | [] => rfl
  | c :: cs => by
    have h := kF_range c
    rw [spanL, spanL_all cs, if_pos, List.length_cons]
    have h3 : kF c = 0 ∨ kF c = 1 ∨ kF c = 2 := by omega
    rcases h3 with h3 | h3 | h3 <;> rw [h3] <;> decide
theorem span_kinds (s : ByteArray) (hs : s.size ≤ 2000) (p : Nat) (hp : p < s.size) : ∃ n : Nat, 1 ≤ n ∧ p + n ≤ s.size ∧ octet_Span.f s (p : Int) [kF (bt s (p : Int))] = some (n : Int) ∧ octet_Span.f s (p : Int) [0, 1, 2] = some ((s.size : Int) - (p : Int)) := by
  refine ⟨spanL [kF (bt s (p : Int))] ((bytesOf s).drop p), ?_, ?_, ?_, ?_⟩
  · rw [drop_bytes s p hp, spanL, if_pos (by simp)]; omega
  · have := spanL_le [kF (bt s (p : Int))] ((bytesOf s).drop p)
    rw [List.length_drop, bytesOf_length] at this
    omega
  · unfold octet_Span.f
    rw [if_pos ⟨by omega, by simp⟩, if_pos (by omega), Int.toNat_natCast]
  · unfold octet_Span.f
    rw [if_pos ⟨by omega, by simp⟩, if_pos (by omega), Int.toNat_natCast, spanL_all, List.length_drop, bytesOf_length]
    congr 1; omega
theorem span_lit (s : ByteArray) (i : Int) (xs : List Int) (r : Int) (h : octet_Span.f s i xs = some r) (hl : xs.length ≤ 1000) (cs : Array Value) (hcs : cs = (nums .i64 xs).toArray) (m : Nat) (hm : m = xs.length) (W : World) (b : Nat) (hb : b = W.heap.size) :
    Calls Try.prog 22 #[.string s, .int .i64 i, .slice (some ⟨b, 0, none⟩) m m] (W.alloc (.cells cs 3)) (fun e w' => e = .returned (.int .i64 r) ∧ Drawn0 (W.alloc (.cells cs 3)) w') := by
  subst hm
  exact octet_Span.calls s i _ xs.length xs r _ (litC W b hb xs cs _ hcs hl) (Nat.le_refl _) h

set_option maxRecDepth 100000 in
set_option maxHeartbeats 8000000 in
theorem octetParts_walk (s : ByteArray) (w : World) (ws : s.size ≤ 140737488351232) :
    Calls Try.prog 6 #[.string s] w fun e w' => e = .returned (.bool true) ∧ Below w.heap.size w w' := by
  have hfn := func_nil 47
  have hfq := func_nil_neq 47
  by_cases h1 : 2000 < s.size
  · have q1 : decide ((2000 : Int) < (s.size : Int)) = true := decide_eq_true (by omega)
    go_enter Try.func6, Try.ntmps6
    go_wp2_with (first | (go_at_call 21; (with_reducible refine (octets_true _).mono ?_); rintro e w1 ⟨rfl, hb1⟩) | (go_at_call 26; (with_reducible refine (octet_Lines_calls _ _).mono ?_); rintro e w2 ⟨rfl, rfl⟩))
    go_ret
    exact ⟨rfl, below_alloc hb1 _⟩
  · have q1 : decide ((2000 : Int) < (s.size : Int)) = false := decide_eq_false (by omega)
    have hs : s.size ≤ 2000 := by omega
    have hln := lineNums_len s
    clear h1
    go_enter Try.func6, Try.ntmps6
    go_wp2_with (first | (go_at_call 21; (with_reducible refine (octets_true _).mono ?_); rintro e w1 ⟨rfl, hb1⟩) | (go_at_call 26; (with_reducible refine (octet_Lines_calls _ _).mono ?_); rintro e w2 ⟨rfl, rfl⟩))
    go_loopw [3] (fun v3 wr => ∃ p : Nat, p ≤ s.size ∧ v3 = .int .i64 p ∧ Aside0 (Below w.heap.size w wr)) (fun v3 _ => s.size - (intOf v3).toNat)
    case atStart => exact ⟨0, by omega, rfl, ⟨below_alloc hb1 _⟩⟩
    case round =>
      clear hb1
      obtain ⟨p, hp, rfl, HB⟩ := hrel
      by_cases hlt : p < s.size
      · have q2 : decide ((p : Int) < (s.size : Int)) = true := decide_eq_true (by omega)
        obtain ⟨n, hn1, hn2, hf1, hf2⟩ := span_kinds s hs p hlt
        obtain ⟨x, hx⟩ : ∃ x : Int, x = bt s (p : Int) := ⟨_, rfl⟩
        have hxx : (s[p].toNat : Int) = x := by rw [hx]; exact (bt_nat s p hlt).symm
        rw [← hx] at hf1
        have hk := kF_range x
        have HKC := Aside0.mk (kind_calls x)
        obtain ⟨y, hy⟩ : ∃ y : Int, y = kF x := ⟨_, rfl⟩
        rw [← hy] at hf1 hk HKC
        have q3 : decide (y < 0) = false := decide_eq_false (by omega)
        have q4 : decide (2 < y) = false := decide_eq_false (by omega)
        have q5 : decide ((n : Int) < 1) = false := decide_eq_false (by omega)
        have q6 : IntKind.i64.wrap ((s.size : Int) - (p : Int)) = (s.size : Int) - (p : Int) := IntWalk.i64_in _ (by omega)
        have q7 : decide ((s.size : Int) - (p : Int) < (n : Int)) = false := decide_eq_false (by omega)
        have q8 : IntKind.i64.wrap ((p : Int) + (n : Int)) = ((p + n : Nat) : Int) := (IntWalk.i64_in _ (by omega)).trans (by omega)
        have S1 := Aside0.mk (span_lit s (p : Int) [y] n hf1 (by simp) #[.int .i64 y] rfl 1 rfl)
        have S2 := Aside0.mk (span_lit s (p : Int) [0, 1, 2] _ hf2 (by simp) #[.int .i64 0, .int .i64 1, .int .i64 2] rfl 3 rfl)
        clear hf1 hf2 hx hy hk
        go_wp2_with (first | (go_at_call 15; (with_reducible refine (HKC.out _).mono ?_); rintro e w3 ⟨rfl, ⟨nd3, rfl⟩⟩) | (go_at_call 22; (with_reducible refine (S1.out _ _ ?hb).mono ?_); (case hb => first | rfl | (simp; done)); rintro e w4 ⟨rfl, ⟨nd4, rfl⟩⟩) | (go_at_call 22; (with_reducible refine (S2.out _ _ ?hb).mono ?_); (case hb => first | rfl | (simp; done)); rintro e w5 ⟨rfl, ⟨nd5, rfl⟩⟩))
        first | exact ⟨⟨p + n, by omega, rfl, ⟨by repeat (first | exact HB.out | apply below_alloc | apply pw_below_drewN)⟩⟩, by simp [intOf]; omega⟩ | trace_state
      · have q2 : decide ((p : Int) < (s.size : Int)) = false := decide_eq_false (by omega)
        go_wp2_with (first | (go_at_call 27; (with_reducible refine (lines_calls s (by omega) _).mono ?_); rintro e w3 ⟨v, rfl, hrow, hb3⟩; have HR := Aside0.mk (hrow.lower HB.out.size); have HB3 := Aside0.mk (HB.out.trans (hb3.mono HB.out.size)); clear hrow hb3) | (at_builtin; refine app_wp w.heap.size rfl _ _ 26 3 .i64 8 rfl Try.underlying26 infoI64 v (lineNums s) [(s.size : Int)] rfl ⟨w3.heap.size, 0, none⟩ 1 1 ?a1 ?a2 ?a3 ?a4 ?a5 ?a6 ?a7 ?_))
        case a1 => rfl
        case a2 => rfl
        case a3 => exact news_lit w3 .i64 [(s.size : Int)] _ _ (by rfl)
        case a4 => exact HR.out.alloc _
        case a5 => have := HB3.out.size; simp; omega
        case a6 => unfold maxLen; omega
        case a7 => omega
        intro v4 w4 hap
        obtain ⟨A, c, hv4, hrd⟩ := hap.row.reads
        subst hv4
        have HB4 := Aside0.mk (HB3.out.trans (hap.below1 HR.out HB3.out.size))
        have hch := lines_chain s
        have hll : (lineNums s ++ [(s.size : Int)]).length ≤ 2001 := by rw [List.length_append, List.length_singleton]; omega
        have hl0 : 0 < (lineNums s ++ [(s.size : Int)]).length := by rw [List.length_append, List.length_singleton]; omega
        generalize lineNums s ++ [(s.size : Int)] = L at hch hll hl0 hrd hap ⊢
        have HRD := Aside0.mk hrd
        have HCH := Aside0.mk hch
        clear hrd hap HR HB3 HB hch
        go_wp2
        go_loopw [7] (fun v7 wr => ∃ i : Nat, i < L.length ∧ v7 = .int .i64 i ∧ Drawn0 w4 wr) (fun v7 _ => L.length - (intOf v7).toNat)
        case atStart => exact ⟨0, by omega, rfl, Drawn0.refl _⟩
        case round =>
          obtain ⟨i, hi, rfl, ⟨m, rfl⟩⟩ := hrel
          have g1 : IntKind.i64.wrap ((i : Int) + 1) = ((i + 1 : Nat) : Int) := (IntWalk.i64_in _ (by omega)).trans (by omega)
          by_cases hlt2 : i + 1 < L.length
          · have q3 : decide ((i : Int) + 1 < (L.length : Int)) = true := decide_eq_true (by omega)
            obtain ⟨b, hb, hb1, hb2⟩ := HCH.out i hlt2
            obtain ⟨ad, ha, hc⟩ := ReadsInt.at_ HRD.out (i : Int) (by omega) (by omega)
            obtain ⟨ad2, ha2, hc2⟩ := ReadsInt.at_ HRD.out ((i + 1 : Nat) : Int) (by omega) (by omega)
            rw [rdD, hb1] at hc
            rw [rdD, hb2] at hc2
            cases ha
            cases ha2
            rw [Int.toNat_natCast] at hc hc2
            obtain ⟨nx, hnx⟩ : ∃ nx : Nat, nx = nextN s b := ⟨_, rfl⟩
            rw [← hnx] at hc2
            have HNX := Aside0.mk hnx
            clear hb1 hb2 hnx
            go_wp2
            have hzg : b ≤ endAt s b := scanN_ge s _ _
            have hzl := endAt_le s _ b rfl (by omega)
            have hze := endAt_end s _ b rfl
            have hnx := HNX.out
            unfold nextN at hnx
            obtain ⟨z, hz⟩ : ∃ z : Nat, z = endAt s b := ⟨_, rfl⟩
            rw [← hz] at hzg hzl hze hnx
            have HZ := Aside0.mk hz
            have HZE := Aside0.mk hze
            have HN2 := Aside0.mk hnx
            clear hz hze hnx
            have hc3 : w4.cell? ⟨ad.block, ad.off + (i + 1), none⟩ = some (.int .i64 nx) := hc2
            go_loopw [8, 9] (fun v8 v9 wr => ∃ e : Nat, b ≤ e ∧ e ≤ z ∧ v8 = .int .i64 0 ∧ v9 = .int .i64 e ∧ Drawn0 w4 wr) (fun _ v9 _ => s.size + 1 - (intOf v9).toNat)
            case atStart => exact ⟨b, by omega, hzg, rfl, rfl, ⟨m, rfl⟩⟩
            case round =>
              obtain ⟨e, he1, he2, rfl, rfl, ⟨m2, rfl⟩⟩ := hrel
              have HEN := Aside0.mk (ends_calls s e (by omega) (by omega))
              by_cases hez : e < z
              · have hin : e < nx := by have := HN2.out; omega
                have q4 : decide ((e : Int) < (nx : Int)) = true := decide_eq_true (by omega)
                have q4n : decide (e < nx) = true := decide_eq_true (by omega)
                obtain ⟨h5, h6⟩ := scan_zero s _ b rfl e he1 (by rw [← HZ.out]; exact hez)
                rw [h6] at HEN
                clear h6
                go_wp2_with (first | (go_at_call 24; (with_reducible refine (HEN.out _).mono ?_); rintro e9 w9 ⟨rfl, ⟨nd, rfl⟩⟩))
                go_roundw
                case rel =>
                  exact ⟨e + 1, by omega, by omega, rfl, by go_num, ⟨_, rfl⟩⟩
                case measure => simp [intOf]; omega
              · have hez : e = z := by omega
                subst hez
                obtain ⟨y, hy⟩ : ∃ y : Nat, y = endsN s e := ⟨_, rfl⟩
                have hn2 := HN2.out
                rw [← hy] at HEN hn2
                by_cases hes : e < s.size
                · have hy0 : y ≠ 0 := fun h => HZE.out ⟨hes, by rw [← hy]; exact h⟩
                  have q4 : decide ((e : Int) < (nx : Int)) = true := decide_eq_true (by omega)
                  have q4n : decide (e < nx) = true := decide_eq_true (by omega)
                  have q5 : decide ((0 : Int) < (y : Int)) = true := decide_eq_true (by omega)
                  have q5n : decide (0 < y) = true := decide_eq_true (by omega)
                  have hyl : y ≤ 2 := by
                    rw [hy]; unfold endsN
                    repeat' split
                    all_goals omega
                  have q6 : IntKind.i64.wrap ((e : Int) + (y : Int)) = (nx : Int) := (IntWalk.i64_in _ (by omega)).trans (by omega)
                  clear hy hn2
                  go_wp2_with (first | (go_at_call 24; (with_reducible refine (HEN.out _).mono ?_); rintro e9 w9 ⟨rfl, ⟨nd, rfl⟩⟩))
                  go_roundw
                  case rel => exact ⟨i + 1, by omega, by go_num, ⟨_, rfl⟩⟩
                  case measure => simp [intOf]; omega
                · have hes : e = s.size := by omega
                  have hy0 : y = 0 := by rw [hy]; unfold endsN; rw [if_neg (by omega)]
                  have hnx : nx = e := by omega
                  subst hnx
                  have q4 : decide ((nx : Int) < (nx : Int)) = false := decide_eq_false (by omega)
                  have q5n : decide (nx < s.size) = false := decide_eq_false (by omega)
                  have q5 : decide ((nx : Int) < (s.size : Int)) = false := decide_eq_false (by omega)
                  clear hes hy hn2 hy0
                  go_wp2
                  go_roundw
                  case rel => exact ⟨i + 1, by omega, by go_num, ⟨_, rfl⟩⟩
                  case measure => simp [intOf]; omega
          · have q3 : decide ((i : Int) + 1 < (L.length : Int)) = false := decide_eq_false (by omega)
            go_wp2
            go_ret
            exact ⟨rfl, pw_below_drewN HB4.out _⟩
end Go.Proofs.Ythghjdajohcedaa.Hand
