/- The contract of runs.Decode of the given program: a plain Lean function in rounds tells what it tells. -/
import Derived.Test.YtghoifkaikddlaaGreatBits
namespace Go.Proofs.YtghoifkaikddlaaGreat.Hand
open Go.RowKit Go.Proofs.YtghoifkaikddlaaGreatW.PrintWords Go.Proofs.YtghoifkaikddlaaGreatW.PrintLast Go.Proofs.YtghoifkaikddlaaGreatW.PrintMore
set_option linter.unusedVariables false
set_option linter.unusedSimpArgs false
def partF (s : ByteArray) : Option (List Int × Nat) :=
 if s.size < 2 then none
 else if bt s 0 < 128 then (if (s.size : Int) < bt s 0 + 2 then none else some (bytesOf (s.extract 1 (bt s 0 + 2).toNat), (bt s 0 + 2).toNat))
 else some (List.replicate (257 - bt s 0).toNat (bt s 1), 2)
theorem part_no (s : ByteArray) (w : World) (h : partF s = none) (hs : s.size ≤ 1000000) :
  Calls Tryz.prog 101 #[.string s] w fun e w' => e = .returned (.tuple #[.slice none 0 0, .int .i64 0, .bool false]) ∧ Below w.heap.size w w' := by
 unfold partF at h
 by_cases h2 : s.size < 2
 ·have d1 : decide ((s.size : Int) < 2) = true := decide_eq_true (by omega)
  have d2 : decide (s.size < 2) = true := decide_eq_true (by omega)
  clear h
  go_enter Tryz.func101, Tryz.ntmps101
  go_wp2
  go_ret3
  exact ⟨rfl, Below.refl _ _⟩
 ·rw [if_neg h2] at h
  have d1 : decide ((s.size : Int) < 2) = false := decide_eq_false (by omega)
  by_cases h3 : bt s 0 < 128
  ·rw [if_pos h3] at h
   by_cases h4 : (s.size : Int) < bt s 0 + 2
   ·have hx := bt_nat s 0 (by omega)
    have hx' : (s[0].toNat : Int) = bt s 0 := hx.symm
    have r0 := bt_range s 0
    clear h hx
    generalize bt s 0 = c at *
    have d3 : decide (c < 128) = true := decide_eq_true h3
    have d4 : decide ((s.size : Int) < c + 2) = true := decide_eq_true h4
    have d5 : 0 < s.size := by omega
    go_enter Tryz.func101, Tryz.ntmps101
    go_wp2
    go_ret3
    exact ⟨rfl, Below.refl _ _⟩
   ·rw [if_neg h4] at h
    cases h
  ·rw [if_neg h3] at h
   cases h
theorem rep_set (x : Int) (k m : Nat) (h : k < m) : (List.replicate k x ++ List.replicate (m - k) 0).set k x = List.replicate (k + 1) x ++ List.replicate (m - (k + 1)) 0 := by
 rw [List.set_append_right _ _ (by simp)]
 simp only [List.length_replicate, Nat.sub_self]
 obtain ⟨d, hd⟩ : ∃ d, m - k = d + 1 := ⟨m - k - 1, by omega⟩
 rw [hd, List.replicate_succ, List.set_cons_zero, List.replicate_succ', List.append_assoc, show m - (k + 1) = d by omega]
 rfl
def PartPost (ys : List Int) (n : Nat) (w : World) (e : Ending) (w' : World) : Prop :=
 ∃ A m, e = .returned (.tuple #[.slice A ys.length m, .int .i64 n, .bool true]) ∧ ReadsInt w' .u8 A ys.length ys ∧ Below w.heap.size w w'
theorem part_yes (s : ByteArray) (w : World) (ys : List Int) (n : Nat) (h : partF s = some (ys, n)) (hs : s.size ≤ 1000000) :
  Calls Tryz.prog 101 #[.string s] w (PartPost ys n w) := by
 unfold partF at h
 by_cases h2 : s.size < 2
 ·rw [if_pos h2] at h
  cases h
 ·rw [if_neg h2] at h
  have d1 : decide ((s.size : Int) < 2) = false := decide_eq_false (by omega)
  have hx := bt_nat s 0 (by omega)
  have hx' : (s[0].toNat : Int) = bt s 0 := hx.symm
  have r0 := bt_range s 0
  have d5 : 0 < s.size := by omega
  by_cases h3 : bt s 0 < 128
  ·rw [if_pos h3] at h
   by_cases h4 : (s.size : Int) < bt s 0 + 2
   ·rw [if_pos h4] at h
    cases h
   ·rw [if_neg h4] at h
    simp only [Option.some.injEq, Prod.mk.injEq] at h
    obtain ⟨h5, h6⟩ := h
    clear hx
    obtain ⟨c, hc⟩ := Int.eq_ofNat_of_zero_le r0.1
    rw [hc] at h3 h4 h5 h6 hx' r0
    have hn : n = c + 2 := by omega
    subst hn
    have h7 : ((c : Int) + 2).toNat = c + 2 := by omega
    rw [h7] at h5
    have hl : ys.length = (s.extract 1 (c + 2)).size := by rw [← h5, bytesOf_length]
    have HL := Aside0.mk hl
    have HY := Aside0.mk h5
    clear h5 h6 h7 hc hl
    have d3 : decide ((c : Int) < 128) = true := decide_eq_true h3
    have d4 : decide ((s.size : Int) < (c : Int) + 2) = false := decide_eq_false h4
    have kb := fun W => print_bytes (P := Tryz.prog) 9 59 5 Tryz.underlying9 Tryz.underlying59 Tryz.underlying5 (s.extract 1 (c + 2)) W
    have hlt : c + 2 ≤ s.size := by omega
    go_enter Tryz.func101, Tryz.ntmps101
    have ksl := slice_str (P := Tryz.prog) 9 s 1 (c + 2) 1 ((c : Int) + 2) Tryz.underlying9 rfl (by omega) (by omega) hlt
    go_wp2
    go_ret3
    have hrd := bytes_reads w 5 (s.extract 1 (c + 2)) (by rw [ByteArray.size_extract]; omega)
    rw [← HL.out, HY.out] at hrd
    have hlc : ys.length = c + 1 := by rw [HL.out, ByteArray.size_extract]; omega
    exact ⟨some ⟨w.heap.size, 0, none⟩, grownCap w (c + 1) 0 5, by rw [hlc]; rfl, hrd, bytes_below (Below.refl _ _) (Nat.le_refl _) _ _⟩
  ·rw [if_neg h3] at h
   simp only [Option.some.injEq, Prod.mk.injEq] at h
   obtain ⟨h5, h6⟩ := h
   subst h6
   clear hx
   have hy := bt_nat s 1 (by omega)
   have hy' : (s[1].toNat : Int) = bt s 1 := hy.symm
   clear hy
   generalize bt s 0 = c at *
   generalize bt s 1 = x at *
   obtain ⟨m, hm⟩ : ∃ m : Nat, 257 - c = m := ⟨(257 - c).toNat, by omega⟩
   rw [hm, Int.toNat_natCast] at h5
   have hl : ys.length = m := by rw [← h5, List.length_replicate]
   have HL := Aside0.mk hl
   have HY := Aside0.mk h5
   have d3 : decide (c < 128) = false := decide_eq_false h3
   have kmk := print_make (P := Tryz.prog) 59 5 .u8 1 Tryz.underlying59 infoU8 (by decide) m (by omega)
   have d7 : 1 < s.size := by omega
   clear h5 hl
   go_enter Tryz.func101, Tryz.ntmps101
   go_wp2_with fail
   have hbl := below_alloc (Below.refl w.heap.size w) (.cells (madeCells #[.int .u8 0] m) 5)
   obtain ⟨g, hg⟩ : ∃ g, g = w.heap.size := ⟨_, rfl⟩
   have bg : w.heap.size ≤ g := by omega
   have hR : Row (w.alloc (.cells (madeCells #[.int .u8 0] m) 5)) w.heap.size 5 .u8 (.slice (some ⟨g, 0, none⟩) m m) (List.replicate m 0) := by
    rw [hg]; exact Row.made w w.heap.size 5 .u8 m (Nat.le_refl _) (by omega)
   rw [← hg]
   generalize w.alloc (.cells (madeCells #[.int .u8 0] m) 5) = w0 at hR hbl ⊢
   clear hg
   go_loopw [33] (fun i wr => ∃ k : Nat, k ≤ m ∧ i = .int .i64 k ∧ Aside0 (Row wr w.heap.size 5 .u8 (.slice (some ⟨g, 0, none⟩) m m) (List.replicate k x ++ List.replicate (m - k) 0)) ∧ Aside0 (Below w.heap.size w wr)) (fun i _ => m - (intOf i).toNat)
   case atStart => exact ⟨0, Nat.zero_le _, rfl, ⟨by simpa using hR⟩, ⟨hbl⟩⟩
   case round =>
    obtain ⟨k, hk, rfl, HR, HB⟩ := hrel
    by_cases hlt : k < m
    ·obtain ⟨hc, hf⟩ := HR.out.at_ k (by simp; omega)
     go_wp2
     go_roundw
     case rel =>
      refine ⟨k + 1, by omega, by go_num, ⟨?_⟩, ⟨HB.out.setCell (p := ⟨g, k, none⟩) bg _⟩⟩
      have := HR.out.store k x
      rw [rep_set x k m hlt] at this
      exact this
     case measure => simp [intOf]; omega
    ·have hkm : k = m := by omega
     subst hkm
     have hR := HR.out
     simp only [Nat.sub_self, List.replicate_zero, List.append_nil] at hR
     go_wp2
     go_ret3
     obtain ⟨A, cap, h1, hrd⟩ := hR.reads
     rw [HY.out, HL.out] at hrd
     rw [List.length_replicate] at h1
     injection h1 with h1 _ h2
     rw [← h1] at hrd
     rw [← HL.out] at hrd
     exact ⟨some ⟨g, 0, none⟩, k, by rw [HL.out]; rfl, hrd, HB.out⟩
def decL : Nat → ByteArray → List Int → Int → Option (ByteArray × Int)
 | 0, _, _, _ => none
 | k + 1, s, xs, room =>
  if s.size ≤ 1000000 ∧ xs.length ≤ 1000000000000 then
   (if s.size = 0 then some (⟨#[]⟩, 5)
   else if bt s 0 = 128 then (if s.size = 1 then some (strOfNums xs, 0) else some (⟨#[]⟩, 4))
   else match partF s with
    | none => some (⟨#[]⟩, 5)
    | some (ys, n) => if room < ((xs ++ ys).length : Int) then some (⟨#[]⟩, 7) else decL k (s.extract n s.size) (xs ++ ys) room)
  else none
def runs_Decode.f (k : Nat) (a0 : ByteArray) (a1 : Int) : Option (ByteArray × Int) := if a1 < 0 then some (⟨#[]⟩, 2) else decL k a0 [] a1
theorem partF_le {s : ByteArray} {ys : List Int} {n : Nat} (h : partF s = some (ys, n)) : 2 ≤ n ∧ n ≤ s.size ∧ 1 ≤ ys.length ∧ ys.length ≤ 1000 := by
 unfold partF at h
 have r := bt_range s 0
 split at h
 ·cases h
 ·split at h
  ·split at h
   ·cases h
   ·simp only [Option.some.injEq, Prod.mk.injEq] at h
    obtain ⟨h1, h2⟩ := h
    refine ⟨by omega, by omega, ?_⟩
    rw [← h1, bytesOf_length, ByteArray.size_extract]
    omega
  ·simp only [Option.some.injEq, Prod.mk.injEq] at h
   obtain ⟨h1, h2⟩ := h
   refine ⟨by omega, by omega, ?_⟩
   rw [← h1, List.length_replicate]
   omega
set_option maxHeartbeats 4000000 in
theorem runs_Decode.calls (k : Nat) (a0 : ByteArray) (a1 : Int) (r1 : ByteArray) (r2 : Int) (w : World) (h : runs_Decode.f k a0 a1 = some (r1, r2)) :
  Calls Tryz.prog 73 #[.string a0, .int .i64 a1] w fun e w' => e = .returned (.tuple #[.string r1, .int .i64 r2]) ∧ Below w.heap.size w w' := by
 unfold runs_Decode.f at h
 by_cases h0 : a1 < 0
 ·rw [if_pos h0] at h
  simp only [Option.some.injEq, Prod.mk.injEq] at h
  obtain ⟨rfl, rfl⟩ := h
  have d0 : decide (a1 < 0) = true := decide_eq_true h0
  go_enter Tryz.func73, Tryz.ntmps73
  go_wp2
  go_ret2
  exact ⟨rfl, Below.refl _ _⟩
 ·rw [if_neg h0] at h
  have d0 : decide (a1 < 0) = false := decide_eq_false h0
  have HR := Aside0.mk h
  clear h
  go_enter Tryz.func73, Tryz.ntmps73
  go_wp2_with fail
  go_loopg [0, 6] k (fun kq v0 v6 wr => ∃ (s : ByteArray) (xs : List Int) (A : Option Addr) (n m : Nat), v0 = .string s ∧ v6 = .slice A n m ∧ Aside0 (decL kq s xs a1 = some (r1, r2)) ∧
   Aside0 (n = xs.length) ∧ Aside0 (Row wr w.heap.size 5 .u8 (.slice A n m) xs) ∧ Aside0 (Below w.heap.size w wr))
  case atStart => exact ⟨a0, [], none, 0, 0, rfl, rfl, HR, ⟨rfl⟩, ⟨Row.nil _ _ _ _⟩, ⟨Below.refl _ _⟩⟩
  case round =>
   clear HR
   obtain ⟨s, xs, A, n, m, rfl, rfl, HA, HN, HW, HB⟩ := hrel
   cases gk with
   | zero => exact absurd HA.out (by simp [decL])
   | succ k1 =>
    have H := HA.out
    clear HA
    simp only [decL] at H
    by_cases hg : s.size ≤ 1000000 ∧ xs.length ≤ 1000000000000
    ·rw [if_pos hg] at H
     obtain ⟨g1, g2⟩ := hg
     have hBw : w.heap.size ≤ wr.heap.size := HB.out.size
     by_cases hs0 : s.size = 0
     ·rw [if_pos hs0] at H
      simp only [Option.some.injEq, Prod.mk.injEq] at H
      obtain ⟨rfl, rfl⟩ := H
      have t1 := toList_nil hs0
      have t2 : (s.toList == []) = true := by simpa using t1
      have t3 : ((s.size : Int) == 0) = true := by rw [hs0]; rfl
      go_wp2
      go_ret2
      exact ⟨rfl, HB.out⟩
     ·rw [if_neg hs0] at H
      have t1 := toList_some hs0
      have t3 : ((s.size : Int) == 0) = false := beq_eq_false_iff_ne.2 (by omega)
      have t4 : 0 < s.size := by omega
      have hx := bt_nat s 0 t4
      have hx' : (s[0].toNat : Int) = bt s 0 := hx.symm
      have r0 := bt_range s 0
      clear hx
      by_cases h1 : bt s 0 = 128
      ·rw [if_pos h1] at H
       have t5 : (bt s 0 != 128) = false := by rw [h1]; rfl
       have t6 : (bt s 0 == 128) = true := by rw [h1]; rfl
       clear h1
       by_cases h2 : s.size = 1
       ·rw [if_pos h2] at H
        simp only [Option.some.injEq, Prod.mk.injEq] at H
        obtain ⟨h3, rfl⟩ := H
        have H3 := Aside0.mk h3
        have t7 : ((s.size : Int) == 1) = true := by rw [h2]; rfl
        have kq := HW.out.str (P := Tryz.prog) (src := 59) (dst := 9) Tryz.underlying59 Tryz.underlying5 Tryz.underlying9
        clear h3 h2
        go_wp2
        go_ret2
        rw [← H3.out]
        exact ⟨rfl, HB.out⟩
       ·rw [if_neg h2] at H
        simp only [Option.some.injEq, Prod.mk.injEq] at H
        obtain ⟨rfl, rfl⟩ := H
        have t7 : ((s.size : Int) == 1) = false := beq_eq_false_iff_ne.2 (by omega)
        go_wp2
        go_ret2
        exact ⟨rfl, HB.out⟩
      ·rw [if_neg h1] at H
       have t5 : (bt s 0 != 128) = true := by rw [bne_iff_ne]; exact h1
       have t6 : (bt s 0 == 128) = false := beq_eq_false_iff_ne.2 h1
       clear h1
       cases hp : partF s with
       | none =>
        rw [hp] at H
        simp only [Option.some.injEq, Prod.mk.injEq] at H
        obtain ⟨rfl, rfl⟩ := H
        have HP := Aside0.mk hp
        clear hp
        go_wp2_with (first | (go_at_call 101; (with_reducible refine (part_no s _ HP.out g1).mono ?_); rintro e w1 ⟨rfl, hb1⟩))
        go_ret2
        exact ⟨rfl, HB.out.trans (hb1.mono hBw)⟩
       | some p =>
        obtain ⟨ys, q⟩ := p
        rw [hp] at H
        simp only at H
        have hle := partF_le hp
        obtain ⟨l1, l2, l3, l4⟩ := hle
        have HP := Aside0.mk hp
        have HH := Aside0.mk H
        clear hp H
        go_wp2_with (first | (go_at_call 101; (with_reducible refine (part_yes s _ ys q HP.out g1).mono ?_); rintro e w1 ⟨A2, m2, rfl, hrd, hb1⟩))
        have hr1 := HW.out.below hb1
        have hB1 : w.heap.size ≤ w1.heap.size := by have := hb1.size; omega
        have hbl1 : Below w.heap.size w w1 := HB.out.trans (hb1.mono hBw)
        obtain ⟨ad, rfl, hnews⟩ := news_reads hrd (by omega)
        have hl1 : xs.length + ys.length ≤ maxLen := by unfold maxLen; omega
        have hl2 : (xs.length + ys.length) * 1 ≤ 140737488355328 := by omega
        have HNW := Aside0.mk hnews
        clear HW HB hb1 hBw hrd hnews
        go_region_law (refine app_step w.heap.size rfl _ _ 59 5 .u8 1 rfl Tryz.underlying59 infoU8 (.slice A n m) xs ys rfl ad ys.length m2 rfl rfl HNW.out hr1.drew hB1 hl1 hl2 ?_; intro v3 w3 hap; obtain ⟨A3, n3, m3, hv3, hn3⟩ := hap.row.shape; subst hv3)
        all_goals
         have hb3 := hbl1.trans ((Below.refl w.heap.size w1).drew.trans (hap.below hr1.drew hB1))
         have hR3 := hap.row
         clear hap HNW hr1 hbl1
         have H := HH.out
         clear HH
         have hle3 : n3 ≤ 1000000001000 := by rw [hn3.out, List.length_append]; omega
         by_cases h9 : a1 < ((xs ++ ys).length : Int)
         ·rw [if_pos h9] at H
          simp only [Option.some.injEq, Prod.mk.injEq] at H
          obtain ⟨rfl, rfl⟩ := H
          have q1 : decide (a1 < (n3 : Int)) = true := decide_eq_true (by rw [hn3.out]; exact h9)
          clear h9
          go_wp2
          go_ret2
          exact ⟨rfl, hb3⟩
         ·rw [if_neg h9] at H
          have H' := Aside0.mk H
          have q1 : decide (a1 < (n3 : Int)) = false := decide_eq_false (by rw [hn3.out]; exact h9)
          clear h9 H
          go_wp2
          go_roundg k1
          case measure => omega
          case rel => exact ⟨_, _, _, _, _, rfl, rfl, H', hn3, ⟨hR3⟩, ⟨hb3⟩⟩
    ·rw [if_neg hg] at H
     cases H
theorem decL_mono : ∀ (k : Nat) (s : ByteArray) (xs : List Int) (room : Int), LeO (decL k s xs room) (decL (k + 1) s xs room)
 | 0 => fun _ _ _ r h => by simp [decL] at h
 | k + 1 => by
  have ih := decL_mono k
  intro s xs room
  rw [decL, decL]
  cases partF s with
  | none => exact LeO.refl _
  | some p =>
   simp only
   repeat' first
    | (with_reducible exact ih _ _ _)
    | (with_reducible exact LeO.refl _)
    | (with_reducible exact LeO.none _)
    | (with_reducible refine LeO.ite ?_ ?_)
theorem runs_Decode.mono : ∀ a0 a1 k, LeO (runs_Decode.f k a0 a1) (runs_Decode.f (k + 1) a0 a1) := by
 intro a0 a1 k
 unfold runs_Decode.f
 exact LeO.ite (LeO.refl _) (decL_mono k a0 [] a1)
end Go.Proofs.YtghoifkaikddlaaGreat.Hand
