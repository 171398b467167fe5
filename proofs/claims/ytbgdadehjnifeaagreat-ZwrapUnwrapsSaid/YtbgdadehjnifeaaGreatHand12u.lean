/- Zwrap: the document's Unwrap; walked by hand. -/
import Derived.Test.YtbgdadehjnifeaaGreatHand12r
import Derived.Test.YtbgdadehjnifeaaGreatRef10j
namespace Go.Proofs.YtbgdadehjnifeaaGreat.Hand
open Go.RowKit Go.Proofs.YtbgdadehjnifeaaGreat.P12t Go.Proofs.YtbgdadehjnifeaaGreatW.PrintWords Go.Proofs.YtbgdadehjnifeaaGreatW.PrintLast Go.Proofs.YtbgdadehjnifeaaGreatW.PrintMore Go.Proofs.YtbgdadehjnifeaaGreat.Num Go.Proofs.YtbgdadehjnifeaaGreat.Bits
set_option linter.unusedVariables false
set_option linter.unusedSimpArgs false
theorem extract2 (s : ByteArray) (n : Nat) (h : 2 ≤ s.size) : (s.extract 2 s.size).extract n (s.extract 2 s.size).size = s.extract (2 + n) s.size := by
 apply bytes_ext
 have h1 : (s.extract 2 s.size).size = s.size - 2 := by rw [ByteArray.size_extract]; omega
 have h2 : (bytesOf s).length = s.size := bytesOf_length s
 rw [h1, bytesOf_extract, bytesOf_extract, bytesOf_extract, List.take_of_length_le (i := s.size) (by omega), List.take_of_length_le (by rw [List.length_drop]; omega), List.drop_drop]
theorem headE_val {s : ByteArray} (h : 2 ≤ s.size) : headE s = if bt s 0 % 16 = 8 ∧ bt s 0 / 16 ≤ 7 ∧ (256 * bt s 0 + bt s 1) % 31 = 0 ∧ bt s 1 / 32 % 2 = 0 then 0 else 4 := by
 unfold headE
 rw [if_neg (by omega), Int.mul_comm]
 by_cases h1 : bt s 0 % 16 = 8 ∧ bt s 0 / 16 ≤ 7
 ·rw [if_neg (fun h => h h1)]
  by_cases h2 : (256 * bt s 0 + bt s 1) % 31 = 0
  ·rw [if_neg (fun h => h h2)]
   by_cases h3 : bt s 1 / 32 % 2 = 0
   ·rw [if_neg (fun h => h h3), if_pos ⟨h1.1, h1.2, h2, h3⟩]
   ·rw [if_pos h3, if_neg (fun h => h3 h.2.2.2)]
  ·rw [if_pos h2, if_neg (fun h => h2 h.2.2.1)]
 ·rw [if_pos h1, if_neg (fun h => h1 ⟨h.1, h.2.1⟩)]
set_option maxRecDepth 100000 in
set_option maxHeartbeats 4000000 in
theorem runwrap_calls (w : World) (s : ByteArray) (m : Int) (hs : s.size ≤ 1000000) (hm : m ≤ 10000000) :
  Calls Tryz.prog 6 #[.string s, .int .i64 m] w fun e w' => e = .returned (.tuple #[.string (unwrapF s m).1, .int .i64 (unwrapF s m).2]) ∧ Below w.heap.size w w' := by
 by_cases h0 : m < 0
 ·have q0 : decide (m < 0) = true := decide_eq_true h0
  have e0 : unwrapF s m = (⟨#[]⟩, 2) := by unfold unwrapF; rw [if_pos h0]
  rw [e0]
  go_enter Tryz.func6, Tryz.ntmps6
  go_wp2_with fail
  go_returns
  exact ⟨rfl, Below.refl _ _⟩
 have q0 : decide (m < 0) = false := decide_eq_false h0
 by_cases h2 : 2 ≤ s.size
 rotate_left
 ·have q1 : decide ((s.size : Int) < 2) = true := decide_eq_true (by omega)
  have q1n : decide (s.size < 2) = true := decide_eq_true (by omega)
  have e0 : unwrapF s m = (⟨#[]⟩, 5) := by
   have h9 : headE s = 5 := by unfold headE; rw [if_pos (by omega)]
   unfold unwrapF; rw [if_neg h0, h9, if_neg (by decide)]
  rw [e0]
  go_enter Tryz.func6, Tryz.ntmps6
  go_wp2_with fail
  go_returns
  exact ⟨rfl, Below.refl _ _⟩
 have q1 : decide ((s.size : Int) < 2) = false := decide_eq_false (by omega)
 have q1n : decide (s.size < 2) = false := decide_eq_false (by omega)
 have hh := headE_val h2
 have ha0 := bt_range s 0
 have hb0 := bt_range s 1
 have hx0 : ((s[0]'(by omega)).toNat : Int) = bt s 0 := bt_at s 0 (by show 0 < s.size; omega)
 have hx1 : ((s[1]'(by omega)).toNat : Int) = bt s 1 := bt_at s 1 (by show 1 < s.size; omega)
 have s0 : (0 : Int) < (s.size : Int) := by omega
 have s1 : (1 : Int) < (s.size : Int) := by omega
 have s0n : 0 < s.size := by omega
 have s1n : 1 < s.size := by omega
 have HU : Aside0 (headE s ≠ 0 → unwrapF s m = (⟨#[]⟩, headE s)) := ⟨fun h => by unfold unwrapF; rw [if_neg h0, if_neg h]⟩
 by_cases hok : bt s 0 % 16 = 8 ∧ bt s 0 / 16 ≤ 7 ∧ (256 * bt s 0 + bt s 1) % 31 = 0 ∧ bt s 1 / 32 % 2 = 0
 rotate_left
 ·rw [if_neg hok] at hh
  rw [HU.out (by rw [hh]; decide), hh]
  generalize bt s 0 = a at *
  generalize bt s 1 = b at *
  have hcs : ((a % 16 != 8) = true) ∨ ((a % 16 != 8) = false ∧ decide (7 < a / 16) = true) ∨ ((a % 16 != 8) = false ∧ decide (7 < a / 16) = false ∧ ((256 * a + b) % 31 != 0) = true) ∨ ((a % 16 != 8) = false ∧ decide (7 < a / 16) = false ∧ ((256 * a + b) % 31 != 0) = false ∧ (b / 32 % 2 == 1) = true) := by
   simp only [bne_iff_ne, bne_eq_false_iff_eq, decide_eq_true_eq, decide_eq_false_iff_not, beq_iff_eq, ne_eq]
   omega
  clear hh hok HU h0
  rcases hcs with t1 | ⟨t1, t2⟩ | ⟨t1, t2, t3⟩ | ⟨t1, t2, t3, t4⟩
  all_goals
   go_enter Tryz.func6, Tryz.ntmps6
   go_wp2_with fail
   go_quiet (fail)
   go_wp2_with fail
   go_returns
   exact ⟨rfl, pw_below_drewN (Below.refl _ _) _⟩
 rw [if_pos hok] at hh
 have hx : (s.extract 2 s.size).size ≤ 1000000 := by rw [ByteArray.size_extract]; omega
 have KI := fun W => rinflate_calls W (s.extract 2 s.size) m hx hm
 rw [rinfl_eq] at KI
 have hun : unwrapF s m = if (inflF (s.extract 2 s.size) m).2.2 = 0 then
   (if tailE (s.extract (2 + (inflF (s.extract 2 s.size) m).2.1.toNat) s.size) (inflF (s.extract 2 s.size) m).1 = 0 then ((inflF (s.extract 2 s.size) m).1, 0)
    else (⟨#[]⟩, tailE (s.extract (2 + (inflF (s.extract 2 s.size) m).2.1.toNat) s.size) (inflF (s.extract 2 s.size) m).1))
   else (⟨#[]⟩, (inflF (s.extract 2 s.size) m).2.2) := by
  unfold unwrapF
  rw [if_neg h0, if_pos hh, extract2 s _ h2]
 have hcase := inflF_cases (s.extract 2 s.size) m (by omega)
 have hxs : (s.extract 2 s.size).size = s.size - 2 := by rw [ByteArray.size_extract]; omega
 have ksl : ∀ W : World, (Instr.slice 9 (.string s) (some (.int .i64 2)) none none).run Tryz.prog W = .ok (.string (s.extract 2 s.size)) W := fun W => by
  have := run_slice_string_l (P := Tryz.prog) W 9 s Tryz.underlying9 .i64 (2 : Int) (by omega) (by omega)
  simpa using this
 obtain ⟨t, ht⟩ : ∃ t, t = s.extract 2 s.size := ⟨_, rfl⟩
 rw [← ht] at KI hun hcase hxs ksl
 obtain ⟨⟨out, n, er⟩, hin⟩ : ∃ r, r = inflF t m := ⟨_, rfl⟩
 rw [← hin] at KI hun hcase
 dsimp only at KI hun
 have hn : er = 0 → 0 ≤ n ∧ n ≤ (s.size : Int) - 2 ∧ out.size ≤ 10000000 := fun h => by
  rcases hcase with ⟨e, he, _, hr⟩ | ⟨p, o, hi, hr, hp1, hp2, ho⟩
  ·injection hr with _ hr; injection hr with _ hr; exact absurd (hr.symm.trans h) he
  ·injection hr with h3 hr; injection hr with h4 _
   have h5 : (strOfNums o).size = o.length := strOfNums_size o
   refine ⟨by omega, ?_, by rw [h3, h5]; omega⟩
   rw [h4]
   unfold rdAt
   omega
 have HUN := Aside0.mk hun
 have HKI := Aside0.mk KI
 have hcs : ((bt s 0 % 16 != 8) = false) ∧ decide (7 < bt s 0 / 16) = false ∧ ((256 * bt s 0 + bt s 1) % 31 != 0) = false ∧ (bt s 1 / 32 % 2 == 1) = false := by
  simp only [bne_iff_ne, bne_eq_false_iff_eq, decide_eq_true_eq, decide_eq_false_iff_not, beq_eq_false_iff_ne, ne_eq]
  omega
 obtain ⟨t1, t2, t3, t4⟩ := hcs
 generalize bt s 0 = a at *
 generalize bt s 1 = b at *
 clear hh hok HU KI hun hcase ht hin hxs hx
 by_cases he : er = 0
 rotate_left
 ·have q2 : (er != 0) = true := bne_iff_ne.2 he
  have hun := HUN.out
  rw [if_neg he] at hun
  rw [hun]
  clear he hn hun HUN
  go_enter Tryz.func6, Tryz.ntmps6
  go_wp2_with fail
  go_quiet (fail)
  go_wp2_with fail
  refine (HKI.out _).mono ?_
  rintro e w2 ⟨rfl, hb2⟩
  have HB2 := Aside0.mk ((pw_below_drewN (Below.refl w.heap.size w) _).trans (hb2.mono (by exact Nat.le_refl _)))
  clear hb2
  go_wp2_with fail
  go_returns
  exact ⟨rfl, HB2.out⟩
 subst he
 obtain ⟨hn0, hn1, hout⟩ := hn rfl
 obtain ⟨nn, rfl⟩ := Int.eq_ofNat_of_zero_le hn0
 have hun := HUN.out
 rw [if_pos rfl, Int.toNat_natCast] at hun
 obtain ⟨k, hk⟩ : ∃ k, k = 2 + nn := ⟨_, rfl⟩
 have e2 : (2 : Int) + (nn : Int) = (k : Int) := by omega
 have hks : k ≤ s.size := by omega
 have ksr : ∀ W : World, (Instr.slice 9 (.string s) (some (.int .i64 (k : Int))) none none).run Tryz.prog W = .ok (.string (s.extract k s.size)) W := fun W => by
  have := run_slice_string_l (P := Tryz.prog) W 9 s Tryz.underlying9 .i64 (k : Int) (by omega) (by omega)
  rwa [show ((k : Int)).toNat = k by omega] at this
 rw [← hk] at hun
 obtain ⟨r, hr⟩ : ∃ r, r = s.extract k s.size := ⟨_, rfl⟩
 rw [← hr] at hun ksr
 have hrs : r.size ≤ 1000000 := by rw [hr, ByteArray.size_extract]; omega
 have KT := Aside0.mk (fun W => rt_calls W out (by omega))
 have HUN2 := Aside0.mk hun
 clear hun HUN hn hk hr hn0 hn1
 by_cases h4 : r.size < 4
 ·have u1 : decide ((r.size : Int) < 4) = true := decide_eq_true (by omega)
  have u1n : decide (r.size < 4) = true := decide_eq_true h4
  have hun := HUN2.out
  have ht5 : tailE r out = 5 := by unfold tailE; rw [if_pos h4]
  rw [ht5, if_neg (by decide)] at hun
  rw [hun]
  clear ht5 hun HUN2
  go_enter Tryz.func6, Tryz.ntmps6
  go_wp2_with fail
  go_quiet (fail)
  go_wp2_with fail
  refine (HKI.out _).mono ?_
  rintro e w2 ⟨rfl, hb2⟩
  have HB2 := Aside0.mk ((pw_below_drewN (Below.refl w.heap.size w) _).trans (hb2.mono (by exact Nat.le_refl _)))
  clear hb2
  go_wp2_with fail
  go_returns
  exact ⟨rfl, HB2.out⟩
 have u1 : decide ((r.size : Int) < 4) = false := decide_eq_false (by omega)
 have u1n : decide (r.size < 4) = false := decide_eq_false h4
 have ks4 : ∀ W : World, (Instr.slice 9 (.string r) none (some (.int .i64 4)) none).run Tryz.prog W = .ok (.string (r.extract 0 4)) W := fun W => by
  have := run_slice_string_h (P := Tryz.prog) W 9 r Tryz.underlying9 .i64 (4 : Int) (by omega) (by omega)
  simpa using this
 obtain ⟨r4, hr4⟩ : ∃ r4, r4 = r.extract 0 4 := ⟨_, rfl⟩
 rw [← hr4] at ks4
 obtain ⟨tl, htl⟩ : ∃ tl, tl = tailF out := ⟨_, rfl⟩
 rw [← htl] at KT
 have HT4 : Aside0 (tailE r out = if ¬ r4 = tl then 6 else if ¬ r.size = 4 then 4 else 0) := ⟨by unfold tailE; rw [if_neg h4, hr4, htl]⟩
 have hun := HUN2.out
 have hte := HT4.out
 have h3 : ((r4.toList == tl.toList) = false ∧ decide (4 < (r.size : Int)) = decide (4 < (r.size : Int)) ∧ decide (4 < r.size) = decide (4 < r.size) ∧ unwrapF s m = (⟨#[]⟩, 6)) ∨ ((r4.toList == tl.toList) = true ∧ decide (4 < (r.size : Int)) = true ∧ decide (4 < r.size) = true ∧ unwrapF s m = (⟨#[]⟩, 4)) ∨ ((r4.toList == tl.toList) = true ∧ decide (4 < (r.size : Int)) = false ∧ decide (4 < r.size) = false ∧ unwrapF s m = (out, 0)) := by
  by_cases hq : r4 = tl
  ·rw [if_neg (fun h => h hq)] at hte
   have hb : (r4.toList == tl.toList) = true := by rw [hq]; exact beq_self_eq_true _
   by_cases h9 : r.size = 4
   ·rw [if_neg (fun h => h h9)] at hte
    rw [hte, if_pos rfl] at hun
    exact .inr (.inr ⟨hb, decide_eq_false (by omega), decide_eq_false (by omega), hun⟩)
   ·rw [if_pos h9] at hte
    rw [hte, if_neg (by decide)] at hun
    exact .inr (.inl ⟨hb, decide_eq_true (by omega), decide_eq_true (by omega), hun⟩)
  ·rw [if_pos hq] at hte
   rw [hte, if_neg (by decide)] at hun
   exact .inl ⟨beq_false_of_ne (fun h => hq (toList_inj.1 h)), rfl, rfl, hun⟩
 clear hr4 htl hun hte HUN2 HT4
 rcases h3 with ⟨v1, -, -, hun⟩ | ⟨v1, v2, v3, hun⟩ | ⟨v1, v2, v3, hun⟩
 all_goals
  rw [hun]
  clear hun
  go_enter Tryz.func6, Tryz.ntmps6
  go_wp2_with fail
  go_quiet (fail)
  go_wp2_with fail
  refine (HKI.out _).mono ?_
  rintro e w2 ⟨rfl, hb2⟩
  have HB2 := Aside0.mk ((pw_below_drewN (Below.refl w.heap.size w) _).trans (hb2.mono (by exact Nat.le_refl _)))
  clear hb2
  go_wp2_with fail
  go_region_with (go_at_call 12; refine (KT.out _).mono ?_; rintro e w3 ⟨rfl, hb3⟩)
  have HB3 : Aside0 (Below w.heap.size w w3) := ⟨HB2.out.trans ((show Below w2.heap.size w2 w3 from ⟨hb3.os, hb3.tape, hb3.output, hb3.size, hb3.block⟩).mono HB2.out.size)⟩
  clear hb3 HB2
  go_wp2_with fail
  go_returns
  exact ⟨rfl, HB3.out⟩
def binderyref12_Unwrap.f (a0 : ByteArray) (a1 : Int) : Option (ByteArray × Int) := if a0.size ≤ 1000000 ∧ a1 ≤ 10000000 then some (unwrapF a0 a1) else none
theorem binderyref12_Unwrap.calls (a0 : ByteArray) (a1 : Int) (r1 : ByteArray) (r2 : Int) (w : World) (h : binderyref12_Unwrap.f a0 a1 = some (r1, r2)) :
  Calls Tryz.prog 6 #[.string a0, .int .i64 a1] w fun e w' => e = .returned (.tuple #[.string r1, .int .i64 r2]) ∧ Below w.heap.size w w' := by
 unfold binderyref12_Unwrap.f at h
 split at h
 ·rename_i hc
  injection h with h
  have hh := runwrap_calls w a0 a1 hc.1 hc.2
  rw [h] at hh
  exact hh
 ·cases h
end Go.Proofs.YtbgdadehjnifeaaGreat.Hand
