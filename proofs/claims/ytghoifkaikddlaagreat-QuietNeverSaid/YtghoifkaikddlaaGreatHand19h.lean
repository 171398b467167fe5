/- quiet.Loud: whether bytes have a word of the format; walked by hand. quiet.Names, over the contracts of what the filters do; walked by hand. The law's own 'Same' and 'hidden' of layer 19; walked by hand. -/
import Derived.Test.YtghoifkaikddlaaGreatBits
import Derived.Great.BuildSlice
import Derived.Handy
import Derived.WalkMore
import Derived.Test.YtghoifkaikddlaaGreatHand14d
import Derived.Test.YtghoifkaikddlaaGreatHand14r
namespace Go.Proofs.YtghoifkaikddlaaGreat.Hand
open Go.RowKit Go.Proofs.YtghoifkaikddlaaGreatW.PrintWords Go.Proofs.YtghoifkaikddlaaGreatW.PrintLast Go.Proofs.YtghoifkaikddlaaGreat.Num
set_option linter.unusedVariables false
set_option linter.unusedSimpArgs false
def preB (t p : ByteArray) : Bool := decide (p.size ≤ t.size ∧ (t.extract 0 p.size).toList = p.toList)
theorem shas_calls (t p : ByteArray) (w : World) :
  Calls Tryz.prog 35 #[.string t, .string p] w fun e w' => e = .returned (.bool (preB t p)) ∧ w = w' := by
 by_cases h : p.size ≤ t.size
 ·have q1 : decide ((p.size : Int) ≤ (t.size : Int)) = true := decide_eq_true (by omega)
  by_cases h2 : (t.extract 0 p.size).toList = p.toList
  ·have tq : ((t.extract 0 p.size).toList == p.toList) = true := beq_iff_eq.2 h2
   have hr : preB t p = true := decide_eq_true ⟨h, h2⟩
   rw [hr]
   clear hr h2
   go_enter Tryz.func35, Tryz.ntmps35
   go_wp2
   go_ret
   exact ⟨rfl, rfl⟩
  ·have tq : ((t.extract 0 p.size).toList == p.toList) = false := beq_false_of_ne h2
   have hr : preB t p = false := decide_eq_false (fun h => h2 h.2)
   rw [hr]
   clear hr h2
   go_enter Tryz.func35, Tryz.ntmps35
   go_wp2
   go_ret
   exact ⟨rfl, rfl⟩
 ·have q1 : decide ((p.size : Int) ≤ (t.size : Int)) = false := decide_eq_false (by omega)
  have hr : preB t p = false := decide_eq_false (fun h2 => h h2.1)
  rw [hr]
  clear hr
  go_enter Tryz.func35, Tryz.ntmps35
  go_wp2
  go_ret
  exact ⟨rfl, rfl⟩
theorem hasp_calls (t p : ByteArray) (w : World) :
  Calls Tryz.prog 23 #[.string t, .string p] w fun e w' => e = .returned (.bool (preB t p)) ∧ w = w' := by
 go_enter Tryz.func23, Tryz.ntmps23
 go_wp2_with (first | (go_at_call 35; (with_reducible refine (shas_calls _ _ _).mono ?_); rintro e w1 ⟨rfl, rfl⟩))
 go_ret
 exact ⟨rfl, rfl⟩
abbrev wO : ByteArray := ⟨#[111, 98, 106]⟩
abbrev wX : ByteArray := ⟨#[120, 114, 101, 102]⟩
abbrev wS : ByteArray := ⟨#[115, 116, 114, 101, 97, 109]⟩
def loudAt (s : ByteArray) (i : Nat) : Bool := preB (s.extract i s.size) wO || (preB (s.extract i s.size) wX || preB (s.extract i s.size) wS)
def loudB (s : ByteArray) : Bool := (List.range s.size).any (loudAt s)
theorem loud_t {s : ByteArray} {i : Nat} (h : i < s.size) (h2 : loudAt s i = true) : loudB s = true := List.any_eq_true.2 ⟨i, List.mem_range.2 h, h2⟩
theorem loud_f {s : ByteArray} (h : ∀ i, i < s.size → loudAt s i = false) : loudB s = false := by
 unfold loudB
 rw [List.any_eq_false]
 intro i hi
 rw [h i (List.mem_range.1 hi)]
 decide
theorem pre_first {s p : ByteArray} {i : Nat} (hp : 0 < p.size) (h : preB (s.extract i s.size) p = true) : ∃ h1 : i < s.size, s[i] = p[0] := by
 obtain ⟨h1, h2⟩ := of_decide_eq_true h
 rw [ByteArray.size_extract] at h1
 refine ⟨by omega, ?_⟩
 rw [ByteArray.toList_eq, ByteArray.toList_eq] at h2
 have h3 := congrArg (fun l => l[0]?) h2
 simp only [Array.getElem?_toList] at h3
 have h4 : ((s.extract i s.size).extract 0 p.size).data[0]? = some s[i] := by
  rw [ByteArray.data_extract, ByteArray.data_extract, Array.getElem?_extract, Array.getElem?_extract]
  simp
  exact ⟨by omega, by omega, Array.getElem?_eq_getElem (show i < s.size by omega)⟩
 rw [h4] at h3
 have h5 : p.data[0]? = some p[0] := Array.getElem?_eq_getElem hp
 rw [h5] at h3
 exact Option.some.inj h3
def wordN : Nat → ByteArray | 0 => wO | 1 => wX | _ => wS
theorem infoStr : (Tryz.prog.info? 9).map (·.size) = some 1 := by kernel_rfl
theorem aggStr (W : World) : (isAgg 9).run Tryz.prog W = .ok false W := by
 unfold isAgg; rw [Sem.run_bind, run_underlying Tryz.underlying9 W]; rfl
theorem index_words (W : World) (k : Nat) (hk : k < 3) : (Instr.index 44 (.agg #[.string wO, .string wX, .string wS]) (.int .i64 (k : Int))).run Tryz.prog W = .ok (.string (wordN k)) W := by
 obtain ⟨ie, hie, hsz⟩ := Option.map_eq_some_iff.1 infoStr
 rcases (by omega : k = 0 ∨ k = 1 ∨ k = 2) with rfl | rfl | rfl <;> simp [Instr.index, asIntOf, run_underlying Tryz.underlying44, sizeOf, typeInfo, hie, hsz, part, Sem.run_bind, aggStr, wordN]
theorem loudAt_words {s : ByteArray} {i : Nat} (h : ∀ q, q < 3 → preB (s.extract i s.size) (wordN q) = false) : loudAt s i = false := by
 have a := h 0 (by omega)
 have b := h 1 (by omega)
 have c := h 2 (by omega)
 unfold loudAt
 simp only [wordN] at a b c
 rw [a, b, c]
 rfl
theorem loudAt_first {s : ByteArray} {i : Nat} (hi : i < s.size) (x : Int) (hx : (s[i].toNat : Int) = x) (h1 : x ≠ 111) (h2 : x ≠ 120) (h3 : x ≠ 115) : loudAt s i = false := by
 refine loudAt_words (fun q hq => ?_)
 rw [Bool.eq_false_iff]
 intro hp
 rcases (by omega : q = 0 ∨ q = 1 ∨ q = 2) with rfl | rfl | rfl
 ·obtain ⟨_, he⟩ := pre_first (by decide) hp
  rw [he] at hx
  exact h1 (hx.symm.trans (by decide))
 ·obtain ⟨_, he⟩ := pre_first (by decide) hp
  rw [he] at hx
  exact h2 (hx.symm.trans (by decide))
 ·obtain ⟨_, he⟩ := pre_first (by decide) hp
  rw [he] at hx
  exact h3 (hx.symm.trans (by decide))
set_option maxRecDepth 100000 in
set_option maxHeartbeats 8000000 in
theorem loud_calls (s : ByteArray) (w : World) (hs : s.size ≤ 1000000) :
  Calls Tryz.prog 13 #[.string s] w fun e w' => e = .returned (.bool (loudB s)) ∧ Below w.heap.size w w' := by
 obtain ⟨r, hr⟩ : ∃ r, r = loudB s := ⟨_, rfl⟩
 rw [← hr]
 have HR := Aside0.mk hr
 clear hr
 go_enter Tryz.func13, Tryz.ntmps13
 go_wp2_with fail
 refine wp_scope_straight ?_
 go_wp2_with fail
 refine wp_label ?_
 go_wp2_with fail
 have hz := heap_alloc_new w (.cells #[.string wO, .string wX, .string wS] 44)
 have hB := below_alloc (Below.refl w.heap.size w) (.cells #[.string wO, .string wX, .string wS] 44)
 obtain ⟨z, hz'⟩ : ∃ z, z = w.heap.size := ⟨_, rfl⟩
 rw [← hz'] at hz
 have HW := Aside0.mk hz'
 rw [← hz']
 clear hz'
 generalize w.alloc _ = w1 at hz hB ⊢
 go_loopw [10] (fun v10 wr => ∃ i : Nat, i ≤ s.size ∧ v10 = .int .i64 (i : Int) ∧ Aside0 (∀ q, q < i → loudAt s q = false) ∧ Aside0 (wr.heap[z]? = some (.cells #[.string wO, .string wX, .string wS] 44 (0, 0))) ∧ Aside0 (Below w.heap.size w wr)) (fun v10 _ => s.size - (intOf v10).toNat)
 case atStart => exact ⟨0, Nat.zero_le _, rfl, ⟨fun q hq => absurd hq (Nat.not_lt_zero q)⟩, ⟨hz⟩, ⟨hB⟩⟩
 case round =>
  obtain ⟨i, hi, rfl, HI, HZ, HB⟩ := hrel
  clear hz hB
  by_cases hlt : i < s.size
  ·have r1 : decide ((i : Int) < (s.size : Int)) = true := decide_eq_true (by omega)
   obtain ⟨x, hx⟩ : ∃ x : Int, (s[i].toNat : Int) = x := ⟨_, rfl⟩
   by_cases hpre : x ≠ 111 ∧ x ≠ 120 ∧ x ≠ 115
   ·have n1 : (x != 111) = true := bne_iff_ne.2 hpre.1
    have n2 : (x != 120) = true := bne_iff_ne.2 hpre.2.1
    have n3 : (x != 115) = true := bne_iff_ne.2 hpre.2.2
    have hno := Aside0.mk (loudAt_first hlt x hx hpre.1 hpre.2.1 hpre.2.2)
    clear hpre
    go_wp2_with fail
    go_roundw
    case rel => exact ⟨i + 1, by omega, by go_num, ⟨fun q hq => by
     rcases Nat.lt_or_ge q i with h | h
     ·exact HI.out q h
     ·obtain rfl : q = i := by omega
      exact hno.out⟩, HZ, HB⟩
    case measure => simp [intOf]; omega
   ·have hc3 : x = 111 ∨ x = 120 ∨ x = 115 := by omega
    clear hpre
    rcases hc3 with rfl | rfl | rfl
    ·have c0 : wr.cell? ⟨z, 0, none⟩ = some (.string wO) := blk_cell HZ.out 0
     have c1 : wr.cell? ⟨z, 1, none⟩ = some (.string wX) := blk_cell HZ.out 1
     have c2 : wr.cell? ⟨z, 2, none⟩ = some (.string wS) := blk_cell HZ.out 2
     go_wp2_with fail
     go_loopw [30] (fun v30 ws => ∃ j : Nat, j ≤ 3 ∧ v30 = .int .i64 (j : Int) ∧ Aside0 (∀ q, q < j → preB (s.extract i s.size) (wordN q) = false) ∧ Aside0 (wr = ws)) (fun v30 _ => 3 - (intOf v30).toNat)
     case atStart => exact ⟨0, Nat.zero_le _, rfl, ⟨fun q hq => absurd hq (Nat.not_lt_zero q)⟩, ⟨rfl⟩⟩
     case round =>
      obtain ⟨j, hj, rfl, HJ, HWS⟩ := hrel
      obtain rfl := HWS.out
      clear c0 c1 c2
      rcases (by omega : j = 0 ∨ j = 1 ∨ j = 2 ∨ j = 3) with rfl | rfl | rfl | rfl
      ·have KH := Aside0.mk (fun W => hasp_calls (s.extract i s.size) wO W)
       have hix : ∀ W : World, (Instr.index 44 (.agg #[.string wO, .string wX, .string wS]) (.int .i64 0)).run Tryz.prog W = .ok (.string wO) W := fun W => index_words W 0 (by omega)
       by_cases hb : preB (s.extract i s.size) wO = true
       ·rw [hb] at KH
        have hr : loudB s = true := loud_t hlt (by unfold loudAt; simp [hb])
        rw [hr] at HR
        clear hb hr
        have HR2 := HR.out
        subst HR2
        go_wp2_with (first | (go_at_call 23; (with_reducible refine (KH.out _).mono ?_); rintro e w1 ⟨rfl, rfl⟩))
        repeat (rw [Exit.noGoto_ret])
        show bodyPost _ _ _ _ _ _
        go_ret
        exact ⟨rfl, HB.out⟩
       ·rw [Bool.eq_false_iff.2 hb] at KH
        have hb2 := Bool.eq_false_iff.2 hb
        go_wp2_with (first | (go_at_call 23; (with_reducible refine (KH.out _).mono ?_); rintro e w1 ⟨rfl, rfl⟩))
        go_roundw
        case rel => exact ⟨1, by omega, rfl, ⟨fun q hq => by
         rcases (by omega : q < 0 ∨ q = 0 ∨ q = 1 ∨ q = 2) with h | rfl | rfl | rfl <;> first | omega | exact hb2 | exact HJ.out _ (by omega)⟩, ⟨by first | rfl | trivial⟩⟩
        case measure => simp [intOf]
      ·have KH := Aside0.mk (fun W => hasp_calls (s.extract i s.size) wX W)
       have hix : ∀ W : World, (Instr.index 44 (.agg #[.string wO, .string wX, .string wS]) (.int .i64 1)).run Tryz.prog W = .ok (.string wX) W := fun W => index_words W 1 (by omega)
       by_cases hb : preB (s.extract i s.size) wX = true
       ·rw [hb] at KH
        have hr : loudB s = true := loud_t hlt (by unfold loudAt; simp [hb])
        rw [hr] at HR
        clear hb hr
        have HR2 := HR.out
        subst HR2
        go_wp2_with (first | (go_at_call 23; (with_reducible refine (KH.out _).mono ?_); rintro e w1 ⟨rfl, rfl⟩))
        repeat (rw [Exit.noGoto_ret])
        show bodyPost _ _ _ _ _ _
        go_ret
        exact ⟨rfl, HB.out⟩
       ·rw [Bool.eq_false_iff.2 hb] at KH
        have hb2 := Bool.eq_false_iff.2 hb
        go_wp2_with (first | (go_at_call 23; (with_reducible refine (KH.out _).mono ?_); rintro e w1 ⟨rfl, rfl⟩))
        go_roundw
        case rel => exact ⟨2, by omega, rfl, ⟨fun q hq => by
         rcases (by omega : q < 0 ∨ q = 0 ∨ q = 1 ∨ q = 2) with h | rfl | rfl | rfl <;> first | omega | exact hb2 | exact HJ.out _ (by omega)⟩, ⟨by first | rfl | trivial⟩⟩
        case measure => simp [intOf]
      ·have KH := Aside0.mk (fun W => hasp_calls (s.extract i s.size) wS W)
       have hix : ∀ W : World, (Instr.index 44 (.agg #[.string wO, .string wX, .string wS]) (.int .i64 2)).run Tryz.prog W = .ok (.string wS) W := fun W => index_words W 2 (by omega)
       by_cases hb : preB (s.extract i s.size) wS = true
       ·rw [hb] at KH
        have hr : loudB s = true := loud_t hlt (by unfold loudAt; simp [hb])
        rw [hr] at HR
        clear hb hr
        have HR2 := HR.out
        subst HR2
        go_wp2_with (first | (go_at_call 23; (with_reducible refine (KH.out _).mono ?_); rintro e w1 ⟨rfl, rfl⟩))
        repeat (rw [Exit.noGoto_ret])
        show bodyPost _ _ _ _ _ _
        go_ret
        exact ⟨rfl, HB.out⟩
       ·rw [Bool.eq_false_iff.2 hb] at KH
        have hb2 := Bool.eq_false_iff.2 hb
        go_wp2_with (first | (go_at_call 23; (with_reducible refine (KH.out _).mono ?_); rintro e w1 ⟨rfl, rfl⟩))
        go_roundw
        case rel => exact ⟨3, by omega, rfl, ⟨fun q hq => by
         rcases (by omega : q < 0 ∨ q = 0 ∨ q = 1 ∨ q = 2) with h | rfl | rfl | rfl <;> first | omega | exact hb2 | exact HJ.out _ (by omega)⟩, ⟨by first | rfl | trivial⟩⟩
        case measure => simp [intOf]
      ·have hno := Aside0.mk (loudAt_words HJ.out)
       go_wp2_with fail
       go_roundw
       case rel => exact ⟨i + 1, by omega, by go_num, ⟨fun q hq => by
        rcases Nat.lt_or_ge q i with h | h
        ·exact HI.out q h
        ·obtain rfl : q = i := by omega
         exact hno.out⟩, HZ, HB⟩
       case measure => simp [intOf]; omega
    ·have c0 : wr.cell? ⟨z, 0, none⟩ = some (.string wO) := blk_cell HZ.out 0
     have c1 : wr.cell? ⟨z, 1, none⟩ = some (.string wX) := blk_cell HZ.out 1
     have c2 : wr.cell? ⟨z, 2, none⟩ = some (.string wS) := blk_cell HZ.out 2
     go_wp2_with fail
     go_loopw [30] (fun v30 ws => ∃ j : Nat, j ≤ 3 ∧ v30 = .int .i64 (j : Int) ∧ Aside0 (∀ q, q < j → preB (s.extract i s.size) (wordN q) = false) ∧ Aside0 (wr = ws)) (fun v30 _ => 3 - (intOf v30).toNat)
     case atStart => exact ⟨0, Nat.zero_le _, rfl, ⟨fun q hq => absurd hq (Nat.not_lt_zero q)⟩, ⟨rfl⟩⟩
     case round =>
      obtain ⟨j, hj, rfl, HJ, HWS⟩ := hrel
      obtain rfl := HWS.out
      clear c0 c1 c2
      rcases (by omega : j = 0 ∨ j = 1 ∨ j = 2 ∨ j = 3) with rfl | rfl | rfl | rfl
      ·have KH := Aside0.mk (fun W => hasp_calls (s.extract i s.size) wO W)
       have hix : ∀ W : World, (Instr.index 44 (.agg #[.string wO, .string wX, .string wS]) (.int .i64 0)).run Tryz.prog W = .ok (.string wO) W := fun W => index_words W 0 (by omega)
       by_cases hb : preB (s.extract i s.size) wO = true
       ·rw [hb] at KH
        have hr : loudB s = true := loud_t hlt (by unfold loudAt; simp [hb])
        rw [hr] at HR
        clear hb hr
        have HR2 := HR.out
        subst HR2
        go_wp2_with (first | (go_at_call 23; (with_reducible refine (KH.out _).mono ?_); rintro e w1 ⟨rfl, rfl⟩))
        repeat (rw [Exit.noGoto_ret])
        show bodyPost _ _ _ _ _ _
        go_ret
        exact ⟨rfl, HB.out⟩
       ·rw [Bool.eq_false_iff.2 hb] at KH
        have hb2 := Bool.eq_false_iff.2 hb
        go_wp2_with (first | (go_at_call 23; (with_reducible refine (KH.out _).mono ?_); rintro e w1 ⟨rfl, rfl⟩))
        go_roundw
        case rel => exact ⟨1, by omega, rfl, ⟨fun q hq => by
         rcases (by omega : q < 0 ∨ q = 0 ∨ q = 1 ∨ q = 2) with h | rfl | rfl | rfl <;> first | omega | exact hb2 | exact HJ.out _ (by omega)⟩, ⟨by first | rfl | trivial⟩⟩
        case measure => simp [intOf]
      ·have KH := Aside0.mk (fun W => hasp_calls (s.extract i s.size) wX W)
       have hix : ∀ W : World, (Instr.index 44 (.agg #[.string wO, .string wX, .string wS]) (.int .i64 1)).run Tryz.prog W = .ok (.string wX) W := fun W => index_words W 1 (by omega)
       by_cases hb : preB (s.extract i s.size) wX = true
       ·rw [hb] at KH
        have hr : loudB s = true := loud_t hlt (by unfold loudAt; simp [hb])
        rw [hr] at HR
        clear hb hr
        have HR2 := HR.out
        subst HR2
        go_wp2_with (first | (go_at_call 23; (with_reducible refine (KH.out _).mono ?_); rintro e w1 ⟨rfl, rfl⟩))
        repeat (rw [Exit.noGoto_ret])
        show bodyPost _ _ _ _ _ _
        go_ret
        exact ⟨rfl, HB.out⟩
       ·rw [Bool.eq_false_iff.2 hb] at KH
        have hb2 := Bool.eq_false_iff.2 hb
        go_wp2_with (first | (go_at_call 23; (with_reducible refine (KH.out _).mono ?_); rintro e w1 ⟨rfl, rfl⟩))
        go_roundw
        case rel => exact ⟨2, by omega, rfl, ⟨fun q hq => by
         rcases (by omega : q < 0 ∨ q = 0 ∨ q = 1 ∨ q = 2) with h | rfl | rfl | rfl <;> first | omega | exact hb2 | exact HJ.out _ (by omega)⟩, ⟨by first | rfl | trivial⟩⟩
        case measure => simp [intOf]
      ·have KH := Aside0.mk (fun W => hasp_calls (s.extract i s.size) wS W)
       have hix : ∀ W : World, (Instr.index 44 (.agg #[.string wO, .string wX, .string wS]) (.int .i64 2)).run Tryz.prog W = .ok (.string wS) W := fun W => index_words W 2 (by omega)
       by_cases hb : preB (s.extract i s.size) wS = true
       ·rw [hb] at KH
        have hr : loudB s = true := loud_t hlt (by unfold loudAt; simp [hb])
        rw [hr] at HR
        clear hb hr
        have HR2 := HR.out
        subst HR2
        go_wp2_with (first | (go_at_call 23; (with_reducible refine (KH.out _).mono ?_); rintro e w1 ⟨rfl, rfl⟩))
        repeat (rw [Exit.noGoto_ret])
        show bodyPost _ _ _ _ _ _
        go_ret
        exact ⟨rfl, HB.out⟩
       ·rw [Bool.eq_false_iff.2 hb] at KH
        have hb2 := Bool.eq_false_iff.2 hb
        go_wp2_with (first | (go_at_call 23; (with_reducible refine (KH.out _).mono ?_); rintro e w1 ⟨rfl, rfl⟩))
        go_roundw
        case rel => exact ⟨3, by omega, rfl, ⟨fun q hq => by
         rcases (by omega : q < 0 ∨ q = 0 ∨ q = 1 ∨ q = 2) with h | rfl | rfl | rfl <;> first | omega | exact hb2 | exact HJ.out _ (by omega)⟩, ⟨by first | rfl | trivial⟩⟩
        case measure => simp [intOf]
      ·have hno := Aside0.mk (loudAt_words HJ.out)
       go_wp2_with fail
       go_roundw
       case rel => exact ⟨i + 1, by omega, by go_num, ⟨fun q hq => by
        rcases Nat.lt_or_ge q i with h | h
        ·exact HI.out q h
        ·obtain rfl : q = i := by omega
         exact hno.out⟩, HZ, HB⟩
       case measure => simp [intOf]; omega
    ·have c0 : wr.cell? ⟨z, 0, none⟩ = some (.string wO) := blk_cell HZ.out 0
     have c1 : wr.cell? ⟨z, 1, none⟩ = some (.string wX) := blk_cell HZ.out 1
     have c2 : wr.cell? ⟨z, 2, none⟩ = some (.string wS) := blk_cell HZ.out 2
     go_wp2_with fail
     go_loopw [30] (fun v30 ws => ∃ j : Nat, j ≤ 3 ∧ v30 = .int .i64 (j : Int) ∧ Aside0 (∀ q, q < j → preB (s.extract i s.size) (wordN q) = false) ∧ Aside0 (wr = ws)) (fun v30 _ => 3 - (intOf v30).toNat)
     case atStart => exact ⟨0, Nat.zero_le _, rfl, ⟨fun q hq => absurd hq (Nat.not_lt_zero q)⟩, ⟨rfl⟩⟩
     case round =>
      obtain ⟨j, hj, rfl, HJ, HWS⟩ := hrel
      obtain rfl := HWS.out
      clear c0 c1 c2
      rcases (by omega : j = 0 ∨ j = 1 ∨ j = 2 ∨ j = 3) with rfl | rfl | rfl | rfl
      ·have KH := Aside0.mk (fun W => hasp_calls (s.extract i s.size) wO W)
       have hix : ∀ W : World, (Instr.index 44 (.agg #[.string wO, .string wX, .string wS]) (.int .i64 0)).run Tryz.prog W = .ok (.string wO) W := fun W => index_words W 0 (by omega)
       by_cases hb : preB (s.extract i s.size) wO = true
       ·rw [hb] at KH
        have hr : loudB s = true := loud_t hlt (by unfold loudAt; simp [hb])
        rw [hr] at HR
        clear hb hr
        have HR2 := HR.out
        subst HR2
        go_wp2_with (first | (go_at_call 23; (with_reducible refine (KH.out _).mono ?_); rintro e w1 ⟨rfl, rfl⟩))
        repeat (rw [Exit.noGoto_ret])
        show bodyPost _ _ _ _ _ _
        go_ret
        exact ⟨rfl, HB.out⟩
       ·rw [Bool.eq_false_iff.2 hb] at KH
        have hb2 := Bool.eq_false_iff.2 hb
        go_wp2_with (first | (go_at_call 23; (with_reducible refine (KH.out _).mono ?_); rintro e w1 ⟨rfl, rfl⟩))
        go_roundw
        case rel => exact ⟨1, by omega, rfl, ⟨fun q hq => by
         rcases (by omega : q < 0 ∨ q = 0 ∨ q = 1 ∨ q = 2) with h | rfl | rfl | rfl <;> first | omega | exact hb2 | exact HJ.out _ (by omega)⟩, ⟨by first | rfl | trivial⟩⟩
        case measure => simp [intOf]
      ·have KH := Aside0.mk (fun W => hasp_calls (s.extract i s.size) wX W)
       have hix : ∀ W : World, (Instr.index 44 (.agg #[.string wO, .string wX, .string wS]) (.int .i64 1)).run Tryz.prog W = .ok (.string wX) W := fun W => index_words W 1 (by omega)
       by_cases hb : preB (s.extract i s.size) wX = true
       ·rw [hb] at KH
        have hr : loudB s = true := loud_t hlt (by unfold loudAt; simp [hb])
        rw [hr] at HR
        clear hb hr
        have HR2 := HR.out
        subst HR2
        go_wp2_with (first | (go_at_call 23; (with_reducible refine (KH.out _).mono ?_); rintro e w1 ⟨rfl, rfl⟩))
        repeat (rw [Exit.noGoto_ret])
        show bodyPost _ _ _ _ _ _
        go_ret
        exact ⟨rfl, HB.out⟩
       ·rw [Bool.eq_false_iff.2 hb] at KH
        have hb2 := Bool.eq_false_iff.2 hb
        go_wp2_with (first | (go_at_call 23; (with_reducible refine (KH.out _).mono ?_); rintro e w1 ⟨rfl, rfl⟩))
        go_roundw
        case rel => exact ⟨2, by omega, rfl, ⟨fun q hq => by
         rcases (by omega : q < 0 ∨ q = 0 ∨ q = 1 ∨ q = 2) with h | rfl | rfl | rfl <;> first | omega | exact hb2 | exact HJ.out _ (by omega)⟩, ⟨by first | rfl | trivial⟩⟩
        case measure => simp [intOf]
      ·have KH := Aside0.mk (fun W => hasp_calls (s.extract i s.size) wS W)
       have hix : ∀ W : World, (Instr.index 44 (.agg #[.string wO, .string wX, .string wS]) (.int .i64 2)).run Tryz.prog W = .ok (.string wS) W := fun W => index_words W 2 (by omega)
       by_cases hb : preB (s.extract i s.size) wS = true
       ·rw [hb] at KH
        have hr : loudB s = true := loud_t hlt (by unfold loudAt; simp [hb])
        rw [hr] at HR
        clear hb hr
        have HR2 := HR.out
        subst HR2
        go_wp2_with (first | (go_at_call 23; (with_reducible refine (KH.out _).mono ?_); rintro e w1 ⟨rfl, rfl⟩))
        repeat (rw [Exit.noGoto_ret])
        show bodyPost _ _ _ _ _ _
        go_ret
        exact ⟨rfl, HB.out⟩
       ·rw [Bool.eq_false_iff.2 hb] at KH
        have hb2 := Bool.eq_false_iff.2 hb
        go_wp2_with (first | (go_at_call 23; (with_reducible refine (KH.out _).mono ?_); rintro e w1 ⟨rfl, rfl⟩))
        go_roundw
        case rel => exact ⟨3, by omega, rfl, ⟨fun q hq => by
         rcases (by omega : q < 0 ∨ q = 0 ∨ q = 1 ∨ q = 2) with h | rfl | rfl | rfl <;> first | omega | exact hb2 | exact HJ.out _ (by omega)⟩, ⟨by first | rfl | trivial⟩⟩
        case measure => simp [intOf]
      ·have hno := Aside0.mk (loudAt_words HJ.out)
       go_wp2_with fail
       go_roundw
       case rel => exact ⟨i + 1, by omega, by go_num, ⟨fun q hq => by
        rcases Nat.lt_or_ge q i with h | h
        ·exact HI.out q h
        ·obtain rfl : q = i := by omega
         exact hno.out⟩, HZ, HB⟩
       case measure => simp [intOf]; omega
  ·have r1 : decide ((i : Int) < (s.size : Int)) = false := decide_eq_false (by omega)
   obtain rfl : i = s.size := by omega
   have hr := loud_f HI.out
   have hR := HR.out
   rw [hr] at hR
   subst hR
   clear HR hr
   go_wp2_with fail
   repeat (rw [Exit.noGoto_ret])
   show bodyPost _ _ _ _ _ _
   go_ret
   exact ⟨rfl, HB.out⟩
end Go.Proofs.YtghoifkaikddlaaGreat.Hand
namespace Go.Proofs.YtghoifkaikddlaaGreat.Hand
open Go.RowKit Go.Proofs.YtghoifkaikddlaaGreatW.PrintWords Go.Proofs.YtghoifkaikddlaaGreatW.PrintLast Go.Proofs.YtghoifkaikddlaaGreat.Num
set_option linter.unusedVariables false
set_option linter.unusedSimpArgs false
theorem infoS9 : (Tryz.prog.info? 9).map (fun i => (i.zero, i.size, i.bytes)) = some (some (.string ⟨#[]⟩), 1, 16) := by kernel_rfl
theorem wpList_app {P : Program} {ops : Array Oper} {rest : List Oper} {o : Oper} {a : Act} {w : World} {Q : Exit → Act → World → Prop} (hgd : o.guard = none) (s x : Operand) (t : TypeId)
  (ho : o.op = .call { callee := .builtin .append, args := #[s, x], argTypes := #[t, t] }) (v sv : Value) (hs : a.eval s = v) (hx : a.eval x = sv) (v' : Value) (w' : World)
  (hrun : (Builtin.append_ #[t, t] o.type #[v, sv]).run P w = .ok v' w') (h : wpList P ops Q rest (a.put o.dst v') w') : wpList P ops Q (o :: rest) a w := by
 refine wpList_plain hgd fun K hK => ?_
 unfold Oper.wp execOp
 simp only [ho, resolve, invoke, builtin, Sem.run_bind, Sem.run_pure, Result.andThen_ok, List.map_toArray, List.map_cons, List.map_nil, hs, hx, hrun]
 exact hK _ _ h
def OwnS (w : World) (B : Nat) (v : Value) (l : List ByteArray) : Prop := w.ownsRow B 9 1 v l.length (l.map Value.string)
theorem OwnS.shape {w : World} {B : Nat} {v : Value} {l : List ByteArray} (h : OwnS w B v l) : ∃ A c, v = .slice A l.length c := by
 rcases h.2 with ⟨h0, h1⟩ | ⟨g, cap, cur, h0, _⟩
 ·rw [h1]; exact ⟨_, _, h0⟩
 ·exact ⟨_, _, h0⟩
theorem OwnS.strs {w : World} {B : Nat} {A : Option Addr} {n c : Nat} {l : List ByteArray} (h : OwnS w B (.slice A n c) l) : Strs w A l := fun i hi => by
 rcases h.2 with ⟨h0, h1⟩ | ⟨g, cap, cur, h0, _⟩
 ·omega
 ·injection h0 with h0
  subst h0
  refine ⟨⟨g, 0, none⟩, rfl, ?_⟩
  have h3 := h.cells (g := g) rfl i (.string (l.getD i ⟨#[]⟩)) (by
   rw [List.getElem?_map, List.getD_eq_getElem?_getD, List.getElem?_eq_getElem hi]; rfl)
  exact h3
set_option maxRecDepth 100000 in
theorem app_strs (ty : TypeId) (B : Nat) (w : World) (v : Value) (xs : List ByteArray) (h : OwnS w B v xs) (A : Option Addr) (c : Nat) (l : List ByteArray) (hl : Strs w A l) (hx : xs.length ≤ 1000) (hn : l.length ≤ 1000) (hB : B ≤ w.heap.size) :
  ∃ v' w', (Builtin.append_ #[22, 22] ty #[v, .slice A l.length c]).run Tryz.prog w = .ok v' w' ∧ OwnS w' B v' (xs ++ l) ∧ Below B w w' := by
 obtain ⟨i0, hi, hz0, hz1, hz2⟩ := info_parts infoS9
 by_cases h0 : l.length = 0
 ·have hl0 : l = [] := List.eq_nil_of_length_eq_zero h0
  subst hl0
  rw [List.append_nil]
  refine ⟨v, w, ?_, h, Below.refl _ _⟩
  rcases h.2 with ⟨rfl, h1⟩ | ⟨g, cap, cur, rfl, _, _, hle, _⟩
  ·cases A <;> simp [Builtin.append_, run_underlying Tryz.underlying22, sizeOf, typeInfo, hi, Builtin.lenOf, Builtin.firstCells, loadCells, loadCellsFrom]
  ·cases A <;> simp [Builtin.append_, run_underlying Tryz.underlying22, sizeOf, typeInfo, hi, Builtin.lenOf, Builtin.firstCells, loadCells, loadCellsFrom, hle, storeCells]
 ·obtain ⟨ad, rfl, _⟩ := hl 0 (by omega)
  obtain ⟨v', w', hr, h2, h3, _⟩ := run_append_own (P := Tryz.prog) w B 22 ty 9 i0 _ 1 16 Tryz.underlying22 hi hz0 hz1 hz2 rfl (by decide) v xs.length (xs.map Value.string) h ad l.length c (l.map Value.string) (by simp) (fun j u hj => by
   rw [List.getElem?_map] at hj
   obtain ⟨x, hx, rfl⟩ := Option.map_eq_some_iff.1 hj
   have hj2 := (List.getElem?_eq_some_iff.1 hx).1
   obtain ⟨ad', e1, e2⟩ := hl j hj2
   injection e1 with e1
   subst e1
   rw [List.getD_eq_getElem?_getD, hx] at e2
   exact e2) (fun u hu => by
   obtain ⟨x, _, rfl⟩ := List.mem_map.1 hu
   simp [Value.oneCell']) (by unfold maxLen; omega) (by omega) hB
  refine ⟨v', w', hr, ?_, ?_⟩
  ·unfold OwnS
   rw [List.length_append, List.map_append]
   exact h2
  ·refine (Below.refl B w).grown h3 hB (fun g hg => ?_)
   rcases h.2 with ⟨rfl, _⟩ | ⟨g', cap, cur, rfl, hb, _⟩
   ·simp [Value.ownBlock] at hg
   ·obtain rfl : g' = g := by simpa [Value.ownBlock] using hg
    exact hb
theorem ownS_nil (w : World) (B : Nat) : OwnS w B (.slice none 0 0) [] := World.ownsRow_nil _ _ _ _
theorem strs_lit (w : World) (x : ByteArray) : Strs (w.alloc (.cells #[.string x] 9)) (some ⟨w.heap.size, 0, none⟩) [x] := fun i hi => by
 obtain rfl : i = 0 := by simp at hi; omega
 exact ⟨_, rfl, blk_cell (heap_alloc_new w (.cells #[.string x] 9)) 0⟩
def namF (l : List ByteArray) (r : ByteArray × Int) : List ByteArray × Int :=
 if r.2 = 0 then (if loudB r.1 = true then (if l.length = 4 then ([], 16) else (hexN :: l, 0)) else (l, 0)) else ([], r.2)
set_option maxRecDepth 100000 in
set_option maxHeartbeats 8000000 in
theorem names_calls (A : Option Addr) (n cap : Nat) (l : List ByteArray) (c : Int) (s : ByteArray) (r : ByteArray × Int) (w : World) (hn : n = l.length) (hn2 : n ≤ 1000) (hl : Strs w A l) (hr2 : r.1.size ≤ 1000000)
  (hE : ∀ W, Strs W A l → Calls Tryz.prog 17 #[.slice A n cap, .int .i64 c, .string s] W fun e w' => e = .returned (.tuple #[.string r.1, .int .i64 r.2]) ∧ Below W.heap.size W w') :
  Calls Tryz.prog 11 #[.slice A n cap, .int .i64 c, .string s] w fun e w' => ∃ v, e = .returned (.tuple #[v, .int .i64 (namF l r).2]) ∧ OwnS w' w.heap.size v (namF l r).1 ∧ Below w.heap.size w w' := by
 obtain ⟨t, te⟩ := r
 dsimp only at hE hr2
 have HN := Aside0.mk hn
 have KE := Aside0.mk hE
 have KL := Aside0.mk (fun W => loud_calls t W hr2)
 clear hE hn
 by_cases ht : te = 0
 ·subst ht
  by_cases hb : loudB t = true
  ·rw [hb] at KL
   by_cases h4 : l.length = 4
   ·have hr : namF l (t, 0) = ([], 16) := by unfold namF; rw [if_pos rfl, if_pos hb, if_pos h4]
    rw [hr]
    have q0 : ((n : Int) == 4) = true := beq_iff_eq.2 (by have := HN.out; omega)
    have hn4 : n = 4 := HN.out.trans h4
    clear hr hb h4
    subst hn4
    go_enter Tryz.func11, Tryz.ntmps11
    go_wp2_with (first | (go_at_call 17; (with_reducible refine (KE.out _ hl).mono ?_); rintro e w1 ⟨rfl, hb1⟩) | (go_at_call 13; (with_reducible refine (KL.out _).mono ?_); rintro e w2 ⟨rfl, hb2⟩))
    go_returns
    exact ⟨_, rfl, ownS_nil _ _, hb1.trans (hb2.mono hb1.size)⟩
   ·have hr : namF l (t, 0) = (hexN :: l, 0) := by unfold namF; rw [if_pos rfl, if_pos hb, if_neg h4]
    rw [hr]
    have q0 : ((n : Int) == 4) = false := beq_false_of_ne (by have := HN.out; omega)
    have q1 : (n == 4) = false := beq_false_of_ne (by have := HN.out; omega)
    clear hr hb h4
    go_enter Tryz.func11, Tryz.ntmps11
    go_wp2_with (first | (go_at_call 17; (with_reducible refine (KE.out _ hl).mono ?_); rintro e w1 ⟨rfl, hb1⟩) | (go_at_call 13; (with_reducible refine (KL.out _).mono ?_); rintro e w2 ⟨rfl, hb2⟩; have HB2 := Aside0.mk (hb1.trans (hb2.mono hb1.size))) | (at_builtin; obtain ⟨v4, w4, hrun4, hv4, hb4⟩ := app_strs 22 w.heap.size (w2.alloc (.cells #[.string hexN] 9)) (.slice none 0 0) [] (ownS_nil _ _) (some ⟨w2.heap.size, 0, none⟩) 1 [hexN] (strs_lit w2 hexN) (by simp) (by simp) (Nat.le_trans HB2.out.size (by simp)); refine wpList_app rfl _ _ 22 rfl _ _ rfl rfl v4 w4 hrun4 ?_; have HB4 := Aside0.mk ((below_alloc HB2.out (.cells #[.string hexN] 9)).trans hb4); clear hb4 hrun4; obtain ⟨A4, c4, rfl⟩ := hv4.shape) | (at_builtin; obtain ⟨v5, w5, hrun5, hv5, hb5⟩ := app_strs 22 w.heap.size w4 _ _ hv4 A cap l (hl.below HB4.out) (by simp) (by have := HN.out; omega) HB4.out.size; rw [← HN.out] at hrun5; refine wpList_app rfl _ _ 22 rfl _ _ rfl rfl v5 w5 hrun5 ?_))
    go_returns
    exact ⟨_, rfl, hv5, HB4.out.trans hb5⟩
  ·rw [Bool.eq_false_iff.2 hb] at KL
   have hr : namF l (t, 0) = (l, 0) := by unfold namF; rw [if_pos rfl, if_neg hb]
   rw [hr]
   clear hr hb
   go_enter Tryz.func11, Tryz.ntmps11
   go_wp2_with (first | (go_at_call 17; (with_reducible refine (KE.out _ hl).mono ?_); rintro e w1 ⟨rfl, hb1⟩) | (go_at_call 13; (with_reducible refine (KL.out _).mono ?_); rintro e w2 ⟨rfl, hb2⟩; have HB2 := Aside0.mk (hb1.trans (hb2.mono hb1.size))) | (at_builtin; obtain ⟨v5, w5, hrun5, hv5, hb5⟩ := app_strs 22 w.heap.size w2 (.slice none 0 0) [] (ownS_nil _ _) A cap l (hl.below HB2.out) (by simp) (by have := HN.out; omega) HB2.out.size; rw [← HN.out] at hrun5; refine wpList_app rfl _ _ 22 rfl _ _ rfl rfl v5 w5 hrun5 ?_))
   go_returns
   exact ⟨_, rfl, hv5, HB2.out.trans hb5⟩
 ·have hr : namF l (t, te) = ([], te) := by unfold namF; rw [if_neg ht]
  rw [hr]
  have t0 : (te != 0) = true := bne_iff_ne.2 ht
  clear hr ht
  go_enter Tryz.func11, Tryz.ntmps11
  go_wp2_with (first | (go_at_call 17; (with_reducible refine (KE.out _ hl).mono ?_); rintro e w1 ⟨rfl, hb1⟩))
  go_returns
  exact ⟨_, rfl, ownS_nil _ _, hb1⟩
end Go.Proofs.YtghoifkaikddlaaGreat.Hand
namespace Go.Proofs.YtghoifkaikddlaaGreat.Hand
open Go.RowKit Go.Proofs.YtghoifkaikddlaaGreatW.PrintWords Go.Proofs.YtghoifkaikddlaaGreatW.PrintLast Go.Proofs.YtghoifkaikddlaaGreat.Num
set_option linter.unusedVariables false
set_option linter.unusedSimpArgs false
theorem ext_strs {l m : List ByteArray} (h : l.length = m.length) (hi : ∀ i, i < l.length → l.getD i ⟨#[]⟩ = m.getD i ⟨#[]⟩) : l = m := by
 refine List.ext_getElem h (fun i h1 h2 => ?_)
 have := hi i h1
 rwa [List.getD_eq_getElem?_getD, List.getElem?_eq_getElem h1, List.getD_eq_getElem?_getD, List.getElem?_eq_getElem h2] at this
theorem toList_inj {a b : ByteArray} : a.toList = b.toList ↔ a = b := by
 rw [ByteArray.toList_eq, ByteArray.toList_eq]
 exact ⟨fun h => ByteArray.ext (Array.toList_inj.1 h), fun h => by rw [h]⟩
set_option maxRecDepth 100000 in
set_option maxHeartbeats 8000000 in
theorem same_calls (A1 A2 : Option Addr) (n1 n2 k1 k2 : Nat) (l1 l2 : List ByteArray) (w : World) (e1 : n1 = l1.length) (e2 : n2 = l2.length) (h1 : Strs w A1 l1) (h2 : Strs w A2 l2) (hn1 : n1 ≤ 1000) (hn2 : n2 ≤ 1000) :
  Calls Tryz.prog 15 #[.slice A1 n1 k1, .slice A2 n2 k2] w fun e w' => e = .returned (.bool (decide (l1 = l2))) ∧ Below w.heap.size w w' := by
 have E1 := Aside0.mk e1
 have E2 := Aside0.mk e2
 clear e1 e2
 by_cases hn : n1 = n2
 ·subst hn
  obtain ⟨r, hr⟩ : ∃ r, r = decide (l1 = l2) := ⟨_, rfl⟩
  rw [← hr]
  have HR := Aside0.mk hr
  clear hr
  go_enter Tryz.func15, Tryz.ntmps15
  go_wp2_with fail
  go_loopw [5] (fun v5 wr => ∃ i : Nat, i ≤ n1 ∧ v5 = .int .i64 (i : Int) ∧ Aside0 (∀ j, j < i → l1.getD j ⟨#[]⟩ = l2.getD j ⟨#[]⟩) ∧ Aside0 (Below w.heap.size w wr)) (fun v5 _ => n1 - (intOf v5).toNat)
  case atStart => exact ⟨0, Nat.zero_le _, rfl, ⟨fun j hj => absurd hj (Nat.not_lt_zero j)⟩, ⟨Below.refl _ _⟩⟩
  case round =>
   obtain ⟨i, hi, rfl, HI, HB⟩ := hrel
   by_cases hlt : i < n1
   ·have r1 : decide ((i : Int) < (n1 : Int)) = true := decide_eq_true (by omega)
    obtain ⟨ad1, rfl, c1⟩ := (h1.below HB.out) i (by have := E1.out; omega)
    obtain ⟨ad2, rfl, c2⟩ := (h2.below HB.out) i (by have := E2.out; omega)
    obtain ⟨x, hx⟩ : ∃ x, x = l1.getD i ⟨#[]⟩ := ⟨_, rfl⟩
    obtain ⟨y, hy⟩ : ∃ y, y = l2.getD i ⟨#[]⟩ := ⟨_, rfl⟩
    rw [← hx] at c1
    rw [← hy] at c2
    have HX := Aside0.mk (And.intro hx hy)
    clear hx hy
    by_cases hxy : x = y
    ·have tq : (x.toList == y.toList) = true := by rw [hxy, beq_self_eq_true]
     have HXY := Aside0.mk hxy
     clear hxy
     go_wp2_with fail
     go_region
     go_wp2_with fail
     go_roundw
     case rel => exact ⟨i + 1, by omega, by go_num, ⟨fun j hj => by
      rcases Nat.lt_or_ge j i with h | h
      ·exact HI.out j h
      ·obtain rfl : j = i := by omega
       rw [← HX.out.1, ← HX.out.2]; exact HXY.out⟩, ⟨below_drew HB.out⟩⟩
     case measure => simp [intOf]; omega
    ·have tq : (x.toList == y.toList) = false := beq_false_of_ne (fun h => hxy (toList_inj.1 h))
     have hr := HR.out
     rw [decide_eq_false (fun h => hxy (by rw [HX.out.1, HX.out.2, h]))] at hr
     subst hr
     clear HR hxy
     go_wp2_with fail
     go_region
     go_wp2_with fail
     repeat (rw [Exit.noGoto_ret])
     show bodyPost _ _ _ _ _ _
     go_ret
     exact ⟨rfl, below_drew HB.out⟩
   ·have r1 : decide ((i : Int) < (n1 : Int)) = false := decide_eq_false (by omega)
    obtain rfl : i = n1 := by omega
    have hr := HR.out
    rw [decide_eq_true (ext_strs (E1.out.symm.trans E2.out) (fun j hj => HI.out j (by have := E1.out; omega)))] at hr
    subst hr
    go_wp2_with fail
    go_ret
    exact ⟨rfl, HB.out⟩
 ·have hr : decide (l1 = l2) = false := decide_eq_false (fun h => hn (by rw [E1.out, E2.out, h]))
  rw [hr]
  have t0 : ((n1 : Int) != (n2 : Int)) = true := bne_iff_ne.2 (by omega)
  have t1 : (n1 != n2) = true := bne_iff_ne.2 hn
  clear hr hn
  go_enter Tryz.func15, Tryz.ntmps15
  go_wp2
  go_ret
  exact ⟨rfl, Below.refl _ _⟩
noncomputable def onR (k : Nat) (s : ByteArray) : ByteArray := if k = 2 then runsF s else s
theorem onR_ok : OnOk onR (· = 2) where
 c1 := fun h => absurd h (by decide)
 c2 := fun _ s w hs => runsF_calls s w hs
 c3 := fun h => absurd h (by decide)
 sz := fun k s hk hs => by
  subst hk
  exact runsF_size s hs
abbrev xrefB : ByteArray := ⟨#[120, 114, 101, 102]⟩
abbrev aB : ByteArray := ⟨#[97]⟩
theorem runsF_a : runsF aB = ⟨#[0, 97, 128]⟩ := runsF_eq (by decide) (Ev.of (fun k => runs_Encode.mono _ k) (k := 20) (by decide +kernel))
theorem chk_nil : cchkF [] 0 = 0 := by decide
theorem chk_runs : cchkF [runsN] 0 = 0 := by decide +kernel
theorem strs_none (w : World) (A : Option Addr) : Strs w A [] := fun i hi => absurd hi (Nat.not_lt_zero i)
theorem enc_xref : encF onR (fun _ _ => (⟨#[]⟩, 0)) [] 0 xrefB = (xrefB, 0) := by unfold encF; rw [if_pos chk_nil]; rfl
theorem enc_a : encF onR (fun _ _ => (⟨#[]⟩, 0)) [runsN] 0 aB = (⟨#[0, 97, 128]⟩, 0) := by
 unfold encF
 rw [if_pos chk_runs, if_neg (by decide)]
 show (onR (kn runsN) aB, (0 : Int)) = _
 rw [show kn runsN = 2 by decide, show onR 2 aB = runsF aB from rfl, runsF_a]
theorem nam_xref : namF [] (xrefB, 0) = ([hexN], 0) := by unfold namF; rw [if_pos rfl, if_pos (by decide +kernel), if_neg (by decide)]
theorem nam_a : namF [runsN] (⟨#[0, 97, 128]⟩, 0) = ([runsN], 0) := by unfold namF; rw [if_pos rfl, if_neg (by decide +kernel)]
theorem namx_calls (w : World) : Calls Tryz.prog 11 #[.slice none 0 0, .int .i64 0, .string xrefB] w fun e w' => ∃ v, e = .returned (.tuple #[v, .int .i64 0]) ∧ OwnS w' w.heap.size v [hexN] ∧ Below w.heap.size w w' := by
 have h := names_calls none 0 0 [] 0 xrefB (xrefB, 0) w rfl (by omega) (strs_none _ _) (by decide) (fun W hW => by
  have h := encode_calls onR (fun _ _ => (⟨#[]⟩, 0)) (· = 2) onR_ok none 0 0 [] 0 xrefB W rfl hW (fun _ i hi => absurd hi (Nat.not_lt_zero i)) (by decide) (fun _ => by decide) (fun _ h => absurd h (by decide))
  rw [enc_xref] at h
  exact h)
 rw [nam_xref] at h
 exact h
theorem nama_calls (A : Option Addr) (k : Nat) (w : World) (hA : Strs w A [runsN]) : Calls Tryz.prog 11 #[.slice A 1 k, .int .i64 0, .string aB] w fun e w' => ∃ v, e = .returned (.tuple #[v, .int .i64 0]) ∧ OwnS w' w.heap.size v [runsN] ∧ Below w.heap.size w w' := by
 have h := names_calls A 1 k [runsN] 0 aB (⟨#[0, 97, 128]⟩, 0) w rfl (by omega) hA (by decide) (fun W hW => by
  have h := encode_calls onR (fun _ _ => (⟨#[]⟩, 0)) (· = 2) onR_ok A 1 k [runsN] 0 aB W rfl hW (fun _ i hi => by
   obtain rfl : i = 0 := by simp at hi; omega
   show kn runsN = 2
   decide) (by decide) (fun _ => by decide) (fun _ h => absurd h (by decide))
  rw [enc_a] at h
  exact h)
 rw [nam_a] at h
 exact h
theorem same_t (A1 A2 : Option Addr) (k1 k2 : Nat) (x : ByteArray) (w : World) (h1 : Strs w A1 [x]) (h2 : Strs w A2 [x]) :
  Calls Tryz.prog 15 #[.slice A1 1 k1, .slice A2 1 k2] w fun e w' => e = .returned (.bool true) ∧ Below w.heap.size w w' := by
 have h := same_calls A1 A2 1 1 k1 k2 [x] [x] w rfl rfl h1 h2 (by omega) (by omega)
 rw [decide_eq_true rfl] at h
 exact h
theorem loud1 : loudB ⟨#[97, 110, 32, 111, 98, 106, 101, 99, 116]⟩ = true := by decide +kernel
theorem loud2 : loudB ⟨#[111, 98, 32, 106]⟩ = false := by decide +kernel
theorem OwnS.below {w w1 : World} {B : Nat} {v : Value} {l : List ByteArray} (h : OwnS w B v l) (hb : Below w.heap.size w w1) : OwnS w1 B v l := by
 unfold OwnS at h ⊢
 rcases h.2 with ⟨h0, h1⟩ | ⟨g, cap, cur, h0, h1, h2, h3⟩
 ·exact ⟨h.1, .inl ⟨h0, h1⟩⟩
 ·exact ⟨h.1, .inr ⟨g, cap, cur, h0, h1, (hb.block g (by
   rcases Nat.lt_or_ge g w.heap.size with h | h
   ·exact h
   ·rw [Array.getElem?_eq_none h] at h2; cases h2)).trans h2, h3⟩⟩
set_option maxRecDepth 100000 in
set_option maxHeartbeats 8000000 in
theorem hidden_calls (w : World) : Calls Tryz.prog 10 #[] w fun e w' => e = .returned (.bool true) ∧ Below w.heap.size w w' := by
 have K1 := Aside0.mk (fun W => namx_calls W)
 have KL1 := Aside0.mk (fun W => loud_calls ⟨#[97, 110, 32, 111, 98, 106, 101, 99, 116]⟩ W (by decide))
 have KL2 := Aside0.mk (fun W => loud_calls ⟨#[111, 98, 32, 106]⟩ W (by decide))
 rw [loud1] at KL1
 rw [loud2] at KL2
 go_enter Tryz.func10, Tryz.ntmps10
 go_wp2_with (first | (go_at_call 11; (with_reducible refine (K1.out _).mono ?_); rintro e w1 ⟨v1, rfl, hv1, hb1⟩; obtain ⟨A1, c1, rfl⟩ := hv1.shape; have HV1 := Aside0.mk hv1; have HB1 := Aside0.mk hb1; clear hv1 hb1) | (go_at_call 11; refine (nama_calls _ _ _ (strs_lit w1 runsN)).mono ?_; rintro e w2 ⟨v2, rfl, hv2, hb2⟩; obtain ⟨A2, c2, rfl⟩ := hv2.shape; have HV2 := Aside0.mk hv2; have DB2 := Aside0.mk hb2; have HB2 := Aside0.mk ((below_alloc HB1.out (.cells #[.string runsN] 9)).trans (hb2.mono (below_alloc HB1.out (.cells #[.string runsN] 9)).size)); clear hv2 hb2) | (go_at_call 13; (with_reducible refine (KL1.out _).mono ?_); rintro e w3 ⟨rfl, hb3⟩; have HB3 := Aside0.mk (HB2.out.trans (hb3.mono HB2.out.size)); have D1 := Aside0.mk (((HV1.out.below ((below_alloc (Below.refl w1.heap.size w1) (.cells #[.string runsN] 9)).trans (DB2.out.mono (by simp)))).below hb3)); have D2 := Aside0.mk (HV2.out.below hb3); clear HV1 HV2 hb3) | (go_at_call 13; (with_reducible refine (KL2.out _).mono ?_); rintro e w4 ⟨rfl, hb4⟩; have HB4 := Aside0.mk (HB3.out.trans (hb4.mono HB3.out.size)); have E1 := Aside0.mk (D1.out.below hb4); have E2 := Aside0.mk (D2.out.below hb4); clear D1 D2 hb4) | (go_at_call 15; refine (same_t _ _ _ _ hexN _ (E1.out.below (below_alloc (Below.refl w4.heap.size w4) _)).strs (strs_lit w4 hexN)).mono ?_; rintro e w5 ⟨rfl, hb5⟩; have BA := (below_alloc (Below.refl w4.heap.size w4) (.cells #[.string hexN] 9)).trans (hb5.mono (by simp)); have HB5 := Aside0.mk (HB4.out.trans (BA.mono HB4.out.size)); have G2 := Aside0.mk (E2.out.below BA); clear E1 E2 BA hb5) | (go_at_call 15; refine (same_t _ _ _ _ runsN _ (G2.out.below (below_alloc (Below.refl w5.heap.size w5) _)).strs (strs_lit w5 runsN)).mono ?_; rintro e w6 ⟨rfl, hb6⟩; have HB6 := Aside0.mk (HB5.out.trans (((below_alloc (Below.refl w5.heap.size w5) (.cells #[.string runsN] 9)).trans (hb6.mono (by simp))).mono HB5.out.size)); clear G2 hb6))
 go_ret
 exact ⟨rfl, HB6.out⟩
end Go.Proofs.YtghoifkaikddlaaGreat.Hand
