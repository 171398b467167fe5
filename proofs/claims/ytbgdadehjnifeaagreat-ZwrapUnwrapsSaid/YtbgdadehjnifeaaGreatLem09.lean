/- Layer 8: the document's texts of bits. Codes: what the document's own functions tell. -/
import Derived.Test.YtbgdadehjnifeaaGreatHand08p
import Derived.Test.YtbgdadehjnifeaaGreatInf
import Derived.Test.YtbgdadehjnifeaaGreatP09rx1
import Derived.Test.YtbgdadehjnifeaaGreatP09rx2
namespace Go.Proofs.YtbgdadehjnifeaaGreat.Hand
open Go.RowKit Go.Proofs.YtbgdadehjnifeaaGreatW.PrintWords Go.Proofs.YtbgdadehjnifeaaGreatW.PrintLast Go.Proofs.YtbgdadehjnifeaaGreat.Num Go.Proofs.YtbgdadehjnifeaaGreat.Bits Go.Proofs.YtbgdadehjnifeaaGreat.P08
set_option linter.unusedVariables false
end Go.Proofs.YtbgdadehjnifeaaGreat.Hand
namespace Go.Proofs.YtbgdadehjnifeaaGreat.Hand
open Go.RowKit Go.Proofs.YtbgdadehjnifeaaGreatW.PrintWords Go.Proofs.YtbgdadehjnifeaaGreatW.PrintLast Go.Proofs.YtbgdadehjnifeaaGreatW.PrintMore Go.Proofs.YtbgdadehjnifeaaGreat.Num Go.Proofs.YtbgdadehjnifeaaGreat.Bits Go.Proofs.YtbgdadehjnifeaaGreat.P09r
set_option linter.unusedVariables false
set_option linter.unusedSimpArgs false
theorem rd_nat (l : List Int) (i : Nat) : rd l (i : Int) = l.getD i 0 := by rw [rd, Int.toNat_natCast]
theorem nat_ne9 {l : List Int} {i : Nat} {n : Int} {t : List Int} (h : l.drop i = n :: t) : i < l.length ∧ l.getD i 0 = n ∧ l.drop (i + 1) = t := by
 have h1 : i < l.length := by
  have := congrArg List.length h
  rw [List.length_drop, List.length_cons] at this
  omega
 rw [List.drop_eq_getElem_cons h1] at h
 injection h with h2 h3
 exact ⟨h1, by rw [List.getD_eq_getElem?_getD, List.getElem?_eq_getElem h1]; exact h2, h3⟩
def chkFin (S : Int) : Int := if S = 0 then 12 else if 32768 < S then 7 else if S < 32768 then 5 else 0
def chkGo : List Int → Int → Int
 | [], S => chkFin S
 | n :: t, S => if n < 0 ∨ 15 < n then 3 else chkGo t (S + part9 n)
theorem chk_l1 (l : List Int) (S : Int) (i n : Nat) (hi : i < l.length) (hl : l.length ≤ 320) (hn : l.getD i 0 = (n : Int)) (h15 : n ≤ 15) (h0 : 0 ≤ S) (h1 : S ≤ 16384 * i) {r : Int} (hr : Ev (fun k => binderyref09_Check.l0 k l (S + part9 n) ((i + 1 : Nat) : Int)) r) :
  ∀ d m, m + d = n → Ev (fun k => binderyref09_Check.l1 k l S i (2 ^ (15 - m)) m) r
 | 0, m, h => by
  obtain rfl : m = n := by omega
  refine ev_step hr (fun k => ?_)
  simp only [binderyref09_Check.l1]
  have hp := pow_le2 (show 15 - m ≤ 15 by omega)
  have hp0 := pow_pos' (15 - m)
  rw [if_pos (by omega), if_pos (by omega), rd_nat, hn, if_neg (by omega), w64 (x := (i : Int) + 1) (by omega) (by omega)]
  unfold part9
  by_cases h2 : (m : Int) > 0
  ·have hp2 := pow_le2 (show 15 - m ≤ 14 by omega)
   rw [if_pos h2, if_pos (by omega), w64 (by omega) (by omega), Int.toNat_natCast]; rfl
  ·rw [if_neg h2, if_neg (by omega), Int.add_zero]; rfl
 | d + 1, m, h => by
  refine ev_step (chk_l1 l S i n hi hl hn h15 h0 h1 hr d (m + 1) (by omega)) (fun k => ?_)
  simp only [binderyref09_Check.l1]
  have hp := pow_le2 (show 15 - m ≤ 15 by omega)
  have hp0 := pow_pos' (15 - m)
  rw [if_pos (by omega), if_pos (by omega), rd_nat, hn, if_pos (by omega), w64 (x := (m : Int) + 1) (by omega) (by omega), td _ (by omega), w64 (by omega) (by omega)]
  have e : (2 : Int) ^ (15 - m) / 2 = 2 ^ (15 - (m + 1)) := by
   rw [show 15 - m = (15 - (m + 1)) + 1 by omega, Int.pow_succ]; omega
  rw [e]
  rfl
theorem part9_le (n : Int) : part9 n ≤ 16384 := by
 unfold part9
 split
 ·have := pow_le2 (show 15 - n.toNat ≤ 14 by omega); simpa using this
 ·omega
theorem chk_l0 (l : List Int) (hl : l.length ≤ 320) : ∀ (t : List Int) (i : Nat) (S : Int), l.drop i = t → i ≤ l.length → 0 ≤ S → S ≤ 16384 * i → Ev (fun k => binderyref09_Check.l0 k l S i) (chkGo t S)
 | [], i, S, hd, hi, h0, h1 => by
  have h2 : l.length ≤ i := by have := congrArg List.length hd; rw [List.length_drop] at this; simp at this; omega
  refine ev_now (fun k => ?_)
  simp only [binderyref09_Check.l0]
  rw [if_neg (by omega)]
  unfold chkGo chkFin
  split
  ·rfl
  ·split
   ·rfl
   ·split <;> rfl
 | n :: t, i, S, hd, hi, h0, h1 => by
  obtain ⟨h2, h3, h4⟩ := nat_ne9 hd
  have e : ∀ k, binderyref09_Check.l0 (k + 1) l S i = binderyref09_Check.j1 k l S i (decide (n < 0 ∨ 15 < n)) := fun k => by
   simp only [binderyref09_Check.l0]
   rw [if_pos (by omega), if_pos (by omega), rd_nat, h3]
   by_cases h5 : n < 0
   ·rw [if_pos h5, decide_eq_true (.inl h5)]
   ·rw [if_neg h5]
    congr 1
    exact decide_eq_decide.2 (by omega)
  refine ev_step ?_ e
  rw [chkGo]
  by_cases h5 : n < 0 ∨ 15 < n
  ·rw [if_pos h5, decide_eq_true h5]
   exact ev_now (fun k => by simp only [binderyref09_Check.j1]; rw [if_pos trivial])
  ·rw [if_neg h5, decide_eq_false h5]
   obtain ⟨m, rfl⟩ := Int.eq_ofNat_of_zero_le (show 0 ≤ n by omega)
   have hp := part9_le m
   have hp2 := part9_nonneg m
   have ih := chk_l0 l hl t (i + 1) (S + part9 m) h4 (by omega) (by omega) (by omega)
   exact ev_step (chk_l1 l S i m h2 hl h3 (by omega) h0 h1 ih m 0 (by omega)) (fun k => by
    simp only [binderyref09_Check.j1]; rw [if_neg (by decide)]; rfl)
theorem chkGo_eq : ∀ (t : List Int) (S : Int), chkGo t S = if t.all (fun n => decide (0 ≤ n ∧ n ≤ 15)) then chkFin (S + kraft t) else 3
 | [], S => by simp [chkGo, kraft]
 | n :: t, S => by
  rw [chkGo, chkGo_eq t, kraft, List.all_cons, Int.add_assoc]
  by_cases h : n < 0 ∨ 15 < n
  ·rw [if_pos h, decide_eq_false (by omega)]; rfl
  ·rw [if_neg h, decide_eq_true (by omega), Bool.true_and]
theorem check_ev (l : List Int) : Ev (fun k => binderyref09_Check.f k l) (chkF l) := by
 rw [chk_eq]
 unfold binderyref09_Check.f
 by_cases h : 320 < l.length
 ·rw [if_pos h]
  exact Ev.congr (f := fun _ => some 2) (fun k => by rw [if_pos (by omega)]) (Ev.now _)
 ·rw [if_neg h]
  have h1 := chk_l0 l (by omega) l 0 0 rfl (by omega) (by omega) (by omega)
  rw [chkGo_eq, Int.zero_add] at h1
  exact Ev.congr (fun k => by rw [if_neg (by omega)]; rfl) h1
theorem refused_ev (l : List Int) : Ev (fun k => binderyref09_Refused.f k l) (mayF l) := by
 unfold binderyref09_Refused.f
 refine Ev.bind (check_ev l) ?_
 unfold mayF
 by_cases h1 : chkF l = 12
 ·rw [if_pos h1, if_pos (.inl h1)]; exact Ev.now _
 ·rw [if_neg h1]
  by_cases h2 : chkF l = 5
  ·rw [if_pos h2, if_pos (.inr h2)]; exact Ev.now _
  ·rw [if_neg h2, if_neg (by omega)]; exact Ev.now _
def outF (l : List Int) (n i : Nat) : List Int := (List.range l.length).map (fun j => if 0 < l.getD j 0 ∧ (l.getD j 0 < n ∨ (l.getD j 0 = (n : Int) ∧ j < i)) then (codesF l).getD j 0 else 0)
theorem outF_length (l : List Int) (n i : Nat) : (outF l n i).length = l.length := by simp [outF]
theorem outF_skip (l : List Int) (n i : Nat) (h : l.getD i 0 ≠ (n : Int)) : outF l n (i + 1) = outF l n i := by
 unfold outF
 refine List.map_congr_left (fun j _ => ?_)
 by_cases hj : j = i
 ·subst hj
  have e : (0 < l.getD j 0 ∧ (l.getD j 0 < (n : Int) ∨ (l.getD j 0 = (n : Int) ∧ j < j + 1))) ↔ (0 < l.getD j 0 ∧ (l.getD j 0 < (n : Int) ∨ (l.getD j 0 = (n : Int) ∧ j < j))) := by omega
  simp only [e]
 ·have e : (0 < l.getD j 0 ∧ (l.getD j 0 < (n : Int) ∨ (l.getD j 0 = (n : Int) ∧ j < i + 1))) ↔ (0 < l.getD j 0 ∧ (l.getD j 0 < (n : Int) ∨ (l.getD j 0 = (n : Int) ∧ j < i))) := by omega
  simp only [e]
theorem outF_set (l : List Int) (n i : Nat) (h : l.getD i 0 = (n : Int)) (h0 : 0 < n) (hi : i < l.length) : (outF l n i).set i ((codesF l).getD i 0) = outF l n (i + 1) := by
 refine List.ext_getElem (by rw [List.length_set, outF_length, outF_length]) (fun j h1 h2 => ?_)
 rw [List.getElem_set]
 simp only [outF, List.getElem_map, List.getElem_range]
 by_cases hj : i = j
 ·subst hj
  rw [if_pos rfl, if_pos (by omega)]
 ·rw [if_neg hj]
  have e : (0 < l.getD j 0 ∧ (l.getD j 0 < (n : Int) ∨ (l.getD j 0 = (n : Int) ∧ j < i + 1))) ↔ (0 < l.getD j 0 ∧ (l.getD j 0 < (n : Int) ∨ (l.getD j 0 = (n : Int) ∧ j < i))) := by omega
  simp only [e]
theorem outF_next (l : List Int) (n : Nat) : outF l n l.length = outF l (n + 1) 0 := by
 unfold outF
 refine List.map_congr_left (fun j hj => ?_)
 have hj := List.mem_range.1 hj
 have e : (0 < l.getD j 0 ∧ (l.getD j 0 < (n : Int) ∨ (l.getD j 0 = (n : Int) ∧ j < l.length))) ↔ (0 < l.getD j 0 ∧ (l.getD j 0 < ((n + 1 : Nat) : Int) ∨ (l.getD j 0 = ((n + 1 : Nat) : Int) ∧ j < 0))) := by omega
 simp only [e]
theorem outF_zero (l : List Int) : outF l 1 0 = List.replicate l.length 0 := by
 refine List.ext_getElem (by simp [outF_length]) (fun j h1 h2 => ?_)
 simp only [outF, List.getElem_map, List.getElem_range, List.getElem_replicate]
 rw [if_neg (by omega)]
theorem outF_end {l : List Int} (h : mayF l = 0) : outF l 16 0 = codesF l := by
 refine List.ext_getElem (by rw [outF_length, codesF_length h]) (fun j h1 h2 => ?_)
 have hj : j < l.length := by rwa [outF_length] at h1
 simp only [outF, List.getElem_map, List.getElem_range]
 have e : (codesF l)[j] = (codesF l).getD j 0 := by rw [List.getD_eq_getElem?_getD, List.getElem?_eq_getElem h2]; rfl
 rw [e]
 have hm : l.getD j 0 ∈ l := by rw [List.getD_eq_getElem?_getD, List.getElem?_eq_getElem hj]; exact List.getElem_mem _
 have hx := (may_zero h).2 _ hm
 by_cases h0 : 0 < l.getD j 0
 ·rw [if_pos ⟨h0, .inl (by omega)⟩]
 ·rw [if_neg (by omega), codesF_getD h j hj, if_neg h0]
theorem refcodes_ev (l : List Int) (hl : l.length ≤ 100000) : Ev (fun k => binderyref09_Codes.f k l) (codesF l, mayF l) := by
 unfold binderyref09_Codes.f
 refine Ev.bind (refused_ev l) ?_
 by_cases h : mayF l = 0
 ·refine Ev.congr (fun k => if_pos h) ?_
  rw [h]
  have hlen := (may_zero h).1
  have hcn := may_cnt h
  have l1 : ∀ d n : Nat, n + d = 16 → 1 ≤ n → ∀ y : Int, 2 * y = fst9 (cntL l) n → Ev (fun k => binderyref09_Codes.l1 k l (outF l n 0) y n) (codesF l, (0 : Int)) := fun d => by
   induction d with
   | zero =>
    intro n hn h1 y hy
    obtain rfl : n = 16 := by omega
    refine ev_now (fun k => ?_)
    simp only [binderyref09_Codes.l1]
    rw [if_neg (by decide), outF_end h]
   | succ d ih =>
    intro n hn h1 y hy
    have hf := fst9_small (cntL l) (cntL_range l) n (by omega)
    have hg := cntL_getD hcn n
    rw [if_neg (by omega)] at hg
    have l2 : ∀ e i : Nat, i + e = l.length → Ev (fun k => binderyref09_Codes.l2 k l (outF l n i) (fst9 (cntL l) n + ((l.take i).count (n : Int) : Nat)) n i) (codesF l, (0 : Int)) := fun e => by
     induction e with
     | zero =>
      intro i hi
      obtain rfl : i = l.length := by omega
      refine ev_step (ih (n + 1) (by omega) (by omega) (fst9 (cntL l) n + (l.count (n : Int) : Nat)) (by rw [fst9]; omega)) (fun k => ?_)
      simp only [binderyref09_Codes.l2]
      rw [if_neg (by omega), List.take_length, outF_next, w64 (by omega) (by omega)]
      rfl
     | succ e ih2 =>
      intro i hi
      have hc := List.count_le_length (a := (n : Int)) (l := l.take i)
      rw [List.length_take] at hc
      refine ev_step (ih2 (i + 1) (by omega)) (fun k => ?_)
      simp only [binderyref09_Codes.l2]
      rw [if_pos (by omega), if_pos (by omega), rd_nat, w64 (x := (i : Int) + 1) (by omega) (by omega), take_succ9 l i (by omega), List.count_append, List.count_singleton]
      by_cases hn2 : l.getD i 0 = (n : Int)
      ·have hcc := codesF_getD h i (by omega)
       rw [hn2, if_pos (by omega), Int.toNat_natCast] at hcc
       rw [if_pos hn2, outF_length, if_pos (by omega), w64 (by omega) (by omega), Int.toNat_natCast, ← hcc, outF_set l n i hn2 (by omega) (by omega), if_pos (by simpa using hn2)]
       rw [hcc]
       congr 1
       omega
      ·rw [if_neg hn2, if_neg (by simpa using hn2), outF_skip l n i hn2]
       rfl
    refine ev_step (l2 l.length 0 (by omega)) (fun k => ?_)
    simp only [binderyref09_Codes.l1]
    rw [if_pos (by omega), hy, w64 (by omega) (by omega)]
    simp
  have l0 : ∀ e i : Nat, i + e = l.length → Ev (fun k => binderyref09_Codes.l0 k l (List.replicate i 0) i) (codesF l, (0 : Int)) := fun e => by
   induction e with
   | zero =>
    intro i hi
    refine ev_step (l1 15 1 rfl (by omega) 0 (by rw [fst9, fst9, cntL_getD hcn]; rfl)) (fun k => ?_)
    simp only [binderyref09_Codes.l0]
    rw [if_neg (by omega), outF_zero, show i = l.length by omega]
    rfl
   | succ e ih =>
    intro i hi
    refine ev_step (ih (i + 1) (by omega)) (fun k => ?_)
    simp only [binderyref09_Codes.l0]
    rw [if_pos (by omega), List.length_replicate, if_pos (by omega), w64 (by omega) (by omega), List.replicate_succ']
    rfl
  exact l0 l.length 0 (by omega)
 ·have e : codesF l = [] := by unfold codesF; rw [if_neg h]
  refine Ev.congr (fun k => if_neg h) ?_
  rw [e]
  exact Ev.now _
theorem kdC_reads {w : World} {A : Option Addr} {n : Nat} {xs : List Int} (h : ReadsInt w .i64 A n xs) : Kd.C (Kd.int .i64) w A n xs := Kd.C_of_reads (enc := Value.int .i64) (d := (0 : Int)) (h1 := fun _ => rfl) h
theorem reads_kdC {w : World} {A : Option Addr} {n : Nat} {xs : List Int} (h : Kd.C (Kd.int .i64) w A n xs) : ReadsInt w .i64 A n xs := Kd.reads_of_C (enc := Value.int .i64) (d := (0 : Int)) (h1 := fun _ => rfl) h
end Go.Proofs.YtbgdadehjnifeaaGreat.Hand
