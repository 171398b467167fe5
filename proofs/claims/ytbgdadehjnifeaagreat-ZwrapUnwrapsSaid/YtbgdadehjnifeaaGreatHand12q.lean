/- binderylaw12.ZwrapUnwraps answers true: walked by hand. -/
import Derived.Test.YtbgdadehjnifeaaGreatHand12u
namespace Go.Proofs.YtbgdadehjnifeaaGreat.Hand
open Go.RowKit Go.Proofs.YtbgdadehjnifeaaGreatW.PrintWords Go.Proofs.YtbgdadehjnifeaaGreatW.PrintLast Go.Proofs.YtbgdadehjnifeaaGreatW.PrintMore Go.Proofs.YtbgdadehjnifeaaGreat.Num Go.Proofs.YtbgdadehjnifeaaGreat.Bits
set_option linter.unusedVariables false
set_option linter.unusedSimpArgs false
set_option maxRecDepth 100000
theorem un_at (s : ByteArray) (m : Int) (r : ByteArray × Int) (hs : s.size ≤ 1000000) (hm : m ≤ 10000000) (h : unwrapF s m = r) (W : World) :
  Calls Tryz.prog 5 #[.string s, .int .i64 m] W fun e w' => e = .returned (.tuple #[.string r.1, .int .i64 r.2]) ∧ Below W.heap.size W w' := by
 have := unwrap_calls W s m hs hm
 rw [h] at this
 exact this
set_option maxHeartbeats 2000000 in
theorem wrapped_true (w : World) : Calls Tryz.prog 4 #[] w fun e w' => e = .returned (.bool true) ∧ Below w.heap.size w w' := by
 have K1 := Aside0.mk (fun W => un_at ⟨#[120, 1, 75, 4, 0, 0, 98, 0, 98]⟩ 1 (⟨#[97]⟩, 0) (by decide) (by decide) zw1 W)
 have K2 := Aside0.mk (fun W => un_at ⟨#[120, 1, 75, 4, 0, 0, 98, 0, 99]⟩ 1 (⟨#[]⟩, 6) (by decide) (by decide) zw2 W)
 have K3 := Aside0.mk (fun W => un_at ⟨#[120, 2, 75, 4, 0, 0, 98, 0, 98]⟩ 1 (⟨#[]⟩, 4) (by decide) (by decide) zw3 W)
 have K4 := Aside0.mk (fun W => un_at ⟨#[120, 1, 75, 4, 0, 0, 98, 0, 98, 120]⟩ 1 (⟨#[]⟩, 4) (by decide) (by decide) zw4 W)
 have K5 : Aside0 (∀ W : World, Calls Tryz.prog 7 #[.string ⟨#[97]⟩] W fun e w' => e = .returned (.string ⟨#[120, 1, 75, 4, 0, 0, 98, 0, 98]⟩) ∧ Below W.heap.size W w') := ⟨fun W => by
  have := wrap_calls W ⟨#[97]⟩ (by decide)
  rw [zw5] at this
  exact this⟩
 go_enter Tryz.func4, Tryz.ntmps4
 go_wp2_with fail
 refine (K1.out _).mono ?_
 rintro e w1 ⟨rfl, h1⟩
 go_wp2_with fail
 refine (K2.out _).mono ?_
 rintro e w2 ⟨rfl, h2⟩
 go_wp2_with fail
 refine (K3.out _).mono ?_
 rintro e w3 ⟨rfl, h3⟩
 go_wp2_with fail
 refine (K4.out _).mono ?_
 rintro e w4 ⟨rfl, h4⟩
 have HB := Aside0.mk (((h1.trans (h2.mono h1.size)).trans (h3.mono (Nat.le_trans h1.size h2.size))).trans (h4.mono (Nat.le_trans h1.size (Nat.le_trans h2.size h3.size))))
 clear h1 h2 h3 h4 K1 K2 K3 K4
 go_wp2_with fail
 refine (K5.out _).mono ?_
 rintro e w5 ⟨rfl, h5⟩
 have HC := Aside0.mk (HB.out.trans (h5.mono HB.out.size))
 clear h5
 go_wp2_with fail
 go_returns
 exact ⟨rfl, HC.out⟩
set_option maxHeartbeats 2000000 in
theorem zwrapUnwraps_walk (s : ByteArray) (m : Int) (w : World) (ws : s.size ≤ 140737488351232) (wm : (Lit.int .i64 m).wf = true) :
  Calls Tryz.prog 3 #[.string s, .int .i64 m] w fun e w' => e = .returned (.bool true) ∧ Below w.heap.size w w' := by
 have KW := Aside0.mk wrapped_true
 by_cases h4 : 400 < s.size
 ·have d1 : decide ((400 : Int) < (s.size : Int)) = true := decide_eq_true (by omega)
  have d1n : decide (400 < s.size) = true := decide_eq_true h4
  go_enter Tryz.func3, Tryz.ntmps3
  go_wp2_with fail
  refine (KW.out _).mono ?_
  rintro e w1 ⟨rfl, hb⟩
  go_wp2_with fail
  go_returns
  exact ⟨rfl, hb⟩
 have d1 : decide ((400 : Int) < (s.size : Int)) = false := decide_eq_false (by omega)
 have d1n : decide (400 < s.size) = false := decide_eq_false h4
 by_cases h5 : 5000 < m
 ·have d2 : decide (5000 < m) = true := decide_eq_true h5
  go_enter Tryz.func3, Tryz.ntmps3
  go_wp2_with fail
  refine (KW.out _).mono ?_
  rintro e w1 ⟨rfl, hb⟩
  go_wp2_with fail
  go_returns
  exact ⟨rfl, hb⟩
 have d2 : decide (5000 < m) = false := decide_eq_false h5
 have K1 := fun W => unwrap_calls W s m (by omega) (by omega)
 have K2 := fun W => runwrap_calls W s m (by omega) (by omega)
 obtain ⟨⟨t, c⟩, hr⟩ : ∃ r, r = unwrapF s m := ⟨_, rfl⟩
 rw [← hr] at K1 K2
 have H1 := Aside0.mk K1
 have H2 := Aside0.mk K2
 have e1 : (t.toList == t.toList) = true := beq_self_eq_true _
 have e2 : (c == c) = true := beq_self_eq_true _
 clear K1 K2 hr wm h4 h5
 go_enter Tryz.func3, Tryz.ntmps3
 go_wp2_with fail
 refine (H1.out _).mono ?_
 rintro e w1 ⟨rfl, h1⟩
 go_wp2_with fail
 refine (H2.out _).mono ?_
 rintro e w2 ⟨rfl, h2⟩
 have HB := Aside0.mk (h1.trans (h2.mono h1.size))
 clear h1 h2
 go_wp2_with fail
 refine (KW.out _).mono ?_
 rintro e w3 ⟨rfl, h3⟩
 have HC := Aside0.mk (HB.out.trans (h3.mono HB.out.size))
 clear h3
 go_wp2_with fail
 go_returns
 exact ⟨rfl, HC.out⟩
end Go.Proofs.YtbgdadehjnifeaaGreat.Hand
