/- The law's own 'octets': the page's examples of layer 1. -/
import Derived.Test.YthghjdajohcedaaHand01d
namespace Go.Proofs.Ythghjdajohcedaa.Hand
open Go.RowKit Go.Proofs.YthghjdajohcedaaW.PrintWords Go.Proofs.YthghjdajohcedaaW.PrintLast Go.Proofs.YthghjdajohcedaaW.PrintMore Go.Proofs.Ythghjdajohcedaa.Num Go.Proofs.Ythghjdajohcedaa.P01a
set_option linter.unusedVariables false
set_option linter.unusedSimpArgs false

theorem litC (W : World) (b : Nat) (hb : b = W.heap.size) (xs : List Int) (cs : Array Value) (e : TypeId) (hcs : cs = (nums .i64 xs).toArray) (hl : xs.length ≤ 1000) : Kd.C (Kd.int .i64) (W.alloc (.cells cs e)) (some ⟨b, 0, none⟩) xs.length xs := by
  subst hb
  refine ⟨rfl, by omega, fun _ => ⟨_, rfl, fun j p hp => ⟨[.int .i64 p], rfl, rfl, fun i u hu => ?_⟩⟩⟩
  have hn := news_lit W .i64 xs cs e hcs j (.int .i64 p) (by rw [nums, List.getElem?_map, hp]; rfl)
  cases i with
  | zero =>
    simp only [List.getElem?_cons_zero, Option.some.injEq] at hu
    subst hu
    have e1 : j * (Kd.int .i64).sz + 0 = j := by show j * 1 + 0 = j; omega
    rw [e1]
    exact hn
  | succ i => simp at hu
theorem func_nil0 (d k : Nat) (cap : Array Value) (W : World) : (Go.Op.equalIn (d + 1) 32 (.func (.func k) #[] cap) .nilFunc).run Try.prog W = .ok false W := by
  rw [Go.Op.equalIn]
  simp [go_sem]
theorem func_nil (k : Nat) (cap : Array Value) (W : World) : (Go.binOp .eql 32 (.func (.func k) #[] cap) .nilFunc).run Try.prog W = .ok (.bool false) W := by
  have h := func_nil0 9999 k cap W
  have e : Go.Op.equal 32 (.func (.func k) #[] cap) .nilFunc = Go.Op.equalIn (9999 + 1) 32 (.func (.func k) #[] cap) .nilFunc := rfl
  simp only [go_sem, Go.binOp, e]
  simp [go_sem, h]
def binderylaw01_octets.f : Option Bool := some true

set_option maxRecDepth 100000 in
set_option maxHeartbeats 8000000 in
theorem binderylaw01_octets.calls (r : Bool) (w : World) (h : binderylaw01_octets.f = some r) :
    Calls Try.prog 21 #[] w fun e w' => e = .returned (.bool r) ∧ Below w.heap.size w w' := by
  obtain rfl := Option.some.inj h
  clear h
  have hfn := func_nil 47
  have k1 : kF 47 = 1 := by decide
  have k2 : kF 32 = 0 := by decide
  have k3 : kF 97 = 2 := by decide
  have e2 : octet_Ends.f ⟨#[13, 10]⟩ 0 = some 2 := by decide +kernel
  have d1 : octet_Digit.f 1 11 = some 66 := by decide +kernel
  have x1 : octet_Hex.f 3 98 = some 11 := by decide +kernel
  have x2 : octet_Hex.f 3 103 = some (-1) := by decide +kernel
  have s1 : octet_Span.f ⟨#[97, 98, 32, 47, 99]⟩ 0 [2] = some 2 := by decide +kernel
  have s2 : octet_Span.f ⟨#[97, 98, 32, 47, 99]⟩ 0 [2, 0] = some 3 := by decide +kernel
  have l1 : octet_Line.f ⟨#[97, 13, 10, 98]⟩ 0 ⟨#[98]⟩ = some 3 := by decide +kernel
  have sp1 : ∀ (W : World) (b : Nat), b = W.heap.size → Calls Try.prog 22 #[.string ⟨#[97, 98, 32, 47, 99]⟩, .int .i64 0, .slice (some ⟨b, 0, none⟩) 1 1] (W.alloc (.cells #[.int .i64 2] 3)) (fun e w' => e = .returned (.int .i64 2) ∧ Drawn0 (W.alloc (.cells #[.int .i64 2] 3)) w') := fun W b hb => octet_Span.calls _ 0 _ 1 [2] 2 _ (litC W b hb [2] _ _ rfl (by decide)) (Nat.le_refl _) s1
  have sp2 : ∀ (W : World) (b : Nat), b = W.heap.size → Calls Try.prog 22 #[.string ⟨#[97, 98, 32, 47, 99]⟩, .int .i64 0, .slice (some ⟨b, 0, none⟩) 2 2] (W.alloc (.cells #[.int .i64 2, .int .i64 0] 3)) (fun e w' => e = .returned (.int .i64 3) ∧ Drawn0 (W.alloc (.cells #[.int .i64 2, .int .i64 0] 3)) w') := fun W b hb => octet_Span.calls _ 0 _ 2 [2, 0] 3 _ (litC W b hb [2, 0] _ _ rfl (by decide)) (Nat.le_refl _) s2
  go_enter Try.func21, Try.ntmps21
  go_wp2_with (first | (go_at_call 26; (with_reducible refine (octet_Lines_calls _ _).mono ?_); rintro e w1 ⟨rfl, rfl⟩) | (go_at_call 15; (with_reducible refine (kind_calls _ _).mono ?_); rintro e w1 ⟨rfl, ⟨nd, rfl⟩⟩) | (go_at_call 19; (with_reducible refine (octet_Digit.calls 1 11 66 _ d1).mono ?_); rintro e w1 ⟨rfl, ⟨nd, rfl⟩⟩) | (go_at_call 17; (with_reducible refine (octet_Hex.calls 3 98 11 _ x1).mono ?_); rintro e w1 ⟨rfl, ⟨nd, rfl⟩⟩) | (go_at_call 17; (with_reducible refine (octet_Hex.calls 3 103 (-1) _ x2).mono ?_); rintro e w1 ⟨rfl, ⟨nd, rfl⟩⟩) | (go_at_call 22; (with_reducible refine (sp1 _ _ (by simp)).mono ?_); rintro e w1 ⟨rfl, ⟨nd, rfl⟩⟩) | (go_at_call 22; (with_reducible refine (sp2 _ _ (by simp)).mono ?_); rintro e w1 ⟨rfl, ⟨nd, rfl⟩⟩) | (go_at_call 24; (with_reducible refine (octet_Ends.calls ⟨#[13, 10]⟩ 0 2 _ e2).mono ?_); rintro e w1 ⟨rfl, ⟨nd, rfl⟩⟩) | (go_at_call 29; (with_reducible refine (octet_Line.calls _ _ _ 3 _ l1).mono ?_); rintro e w1 ⟨rfl, hb1⟩))
  go_ret
  refine ⟨rfl, Below.trans ?_ (hb1.mono ?_)⟩
  · repeat (first | exact Below.refl _ _ | apply below_alloc | apply pw_below_drewN)
  · simp; try omega
end Go.Proofs.Ythghjdajohcedaa.Hand
