/- quiet.Loud: whether bytes have a word of the format; walked by hand. -/
import Derived.Test.YtghoifkaikddlaaGreatBits
import Derived.Great.BuildSlice
import Derived.Handy
import Derived.WalkMore
namespace Go.Proofs.YtghoifkaikddlaaGreat.Hand
open Go.RowKit Go.Proofs.YtghoifkaikddlaaGreatW.PrintWords Go.Proofs.YtghoifkaikddlaaGreatW.PrintLast Go.Proofs.YtghoifkaikddlaaGreat.Num
set_option linter.unusedVariables false
set_option linter.unusedSimpArgs false
/-- Does a text begin with another one? -/
def preB (t p : ByteArray) : Bool := decide (p.size ≤ t.size ∧ (t.extract 0 p.size).toList = p.toList)
theorem shas_calls (t p : ByteArray) (w : World) :
    Calls Tryz.prog 35 #[.string t, .string p] w fun e w' => e = .returned (.bool (preB t p)) ∧ w = w' := by
  by_cases h : p.size ≤ t.size
  · have q1 : decide ((p.size : Int) ≤ (t.size : Int)) = true := decide_eq_true (by omega)
    by_cases h2 : (t.extract 0 p.size).toList = p.toList
    · have tq : ((t.extract 0 p.size).toList == p.toList) = true := beq_iff_eq.2 h2
      have hr : preB t p = true := decide_eq_true ⟨h, h2⟩
      rw [hr]
      clear hr h2
      go_enter Tryz.func35, Tryz.ntmps35
      go_wp2
      go_ret
      exact ⟨rfl, rfl⟩
    · have tq : ((t.extract 0 p.size).toList == p.toList) = false := beq_false_of_ne h2
      have hr : preB t p = false := decide_eq_false (fun h => h2 h.2)
      rw [hr]
      clear hr h2
      go_enter Tryz.func35, Tryz.ntmps35
      go_wp2
      go_ret
      exact ⟨rfl, rfl⟩
  · have q1 : decide ((p.size : Int) ≤ (t.size : Int)) = false := decide_eq_false (by omega)
    have hr : preB t p = false := decide_eq_false (fun h2 => h h2.1)
    rw [hr]
    clear hr
    go_enter Tryz.func35, Tryz.ntmps35
    go_wp2
    go_ret
    exact ⟨rfl, rfl⟩
theorem hasp_calls (t p : ByteArray) (w : World) :
    Calls Tryz.prog 23 #[.string t, .string p] w fun e w' => e = .returned (.bool (preB t p)) ∧ w = w' := by
  go_enter Tryz.func23, Tryz.ntmps23
  go_wp2_with (first | (go_at_call 35; (with_reducible refine (shas_calls _ _ _).mono ?_); rintro e w1 ⟨rfl, rfl⟩))
  go_ret
  exact ⟨rfl, rfl⟩
abbrev wO : ByteArray := ⟨#[111, 98, 106]⟩
abbrev wX : ByteArray := ⟨#[120, 114, 101, 102]⟩
abbrev wS : ByteArray := ⟨#[115, 116, 114, 101, 97, 109]⟩
/-- Is a word of the format at a place? -/
def loudAt (s : ByteArray) (i : Nat) : Bool := preB (s.extract i s.size) wO || (preB (s.extract i s.size) wX || preB (s.extract i s.size) wS)
/-- Do bytes have a word of the format? -/
def loudB (s : ByteArray) : Bool := (List.range s.size).any (loudAt s)
theorem loud_t {s : ByteArray} {i : Nat} (h : i < s.size) (h2 : loudAt s i = true) : loudB s = true := List.any_eq_true.2 ⟨i, List.mem_range.2 h, h2⟩
theorem loud_f {s : ByteArray} (h : ∀ i, i < s.size → loudAt s i = false) : loudB s = false := by
  unfold loudB
  rw [List.any_eq_false]
  intro i hi
  rw [h i (List.mem_range.1 hi)]
  decide
/-- What a text begins with that begins with another one. -/
theorem pre_first {s p : ByteArray} {i : Nat} (hp : 0 < p.size) (h : preB (s.extract i s.size) p = true) : ∃ h1 : i < s.size, s[i] = p[0] := by
  obtain ⟨h1, h2⟩ := of_decide_eq_true h
  rw [ByteArray.size_extract] at h1
  refine ⟨by omega, ?_⟩
  rw [ByteArray.toList_eq, ByteArray.toList_eq] at h2
  have h3 := congrArg (fun l => l[0]?) h2
  simp only [Array.getElem?_toList] at h3
  have h4 : ((s.extract i s.size).extract 0 p.size).data[0]? = some s[i] := by
    rw [ByteArray.data_extract, ByteArray.data_extract, Array.getElem?_extract, Array.getElem?_extract]
    simp
    exact ⟨by omega, by omega, Array.getElem?_eq_getElem (show i < s.size by omega)⟩
  rw [h4] at h3
  have h5 : p.data[0]? = some p[0] := Array.getElem?_eq_getElem hp
  rw [h5] at h3
  exact Option.some.inj h3
/-- The words. -/
def wordN : Nat → ByteArray | 0 => wO | 1 => wX | _ => wS
theorem infoStr : (Tryz.prog.info? 9).map (·.size) = some 1 := by kernel_rfl
theorem aggStr (W : World) : (isAgg 9).run Tryz.prog W = .ok false W := by
  unfold isAgg; rw [Sem.run_bind, run_underlying Tryz.underlying9 W]; rfl
theorem index_words (W : World) (k : Nat) (hk : k < 3) : (Instr.index 44 (.agg #[.string wO, .string wX, .string wS]) (.int .i64 (k : Int))).run Tryz.prog W = .ok (.string (wordN k)) W := by
  obtain ⟨ie, hie, hsz⟩ := Option.map_eq_some_iff.1 infoStr
  rcases (by omega : k = 0 ∨ k = 1 ∨ k = 2) with rfl | rfl | rfl <;> simp [Instr.index, asIntOf, run_underlying Tryz.underlying44, sizeOf, typeInfo, hie, hsz, part, Sem.run_bind, aggStr, wordN]
theorem loudAt_words {s : ByteArray} {i : Nat} (h : ∀ q, q < 3 → preB (s.extract i s.size) (wordN q) = false) : loudAt s i = false := by
  have a := h 0 (by omega)
  have b := h 1 (by omega)
  have c := h 2 (by omega)
  unfold loudAt
  simp only [wordN] at a b c
  rw [a, b, c]
  rfl
theorem loudAt_first {s : ByteArray} {i : Nat} (hi : i < s.size) (x : Int) (hx : (s[i].toNat : Int) = x) (h1 : x ≠ 111) (h2 : x ≠ 120) (h3 : x ≠ 115) : loudAt s i = false := by
  refine loudAt_words (fun q hq => ?_)
  rw [Bool.eq_false_iff]
  intro hp
  rcases (by omega : q = 0 ∨ q = 1 ∨ q = 2) with rfl | rfl | rfl
  · obtain ⟨_, he⟩ := pre_first (by decide) hp
    rw [he] at hx
    exact h1 (hx.symm.trans (by decide))
  · obtain ⟨_, he⟩ := pre_first (by decide) hp
    rw [he] at hx
    exact h2 (hx.symm.trans (by decide))
  · obtain ⟨_, he⟩ := pre_first (by decide) hp
    rw [he] at hx
    exact h3 (hx.symm.trans (by decide))
set_option maxRecDepth 100000 in
set_option maxHeartbeats 8000000 in
theorem loud_calls (s : ByteArray) (w : World) (hs : s.size ≤ 1000000) :
    Calls Tryz.prog 13 #[.string s] w fun e w' => e = .returned (.bool (loudB s)) ∧ Below w.heap.size w w' := by
  obtain ⟨r, hr⟩ : ∃ r, r = loudB s := ⟨_, rfl⟩
  rw [← hr]
  have HR := Aside0.mk hr
  clear hr
  go_enter Tryz.func13, Tryz.ntmps13
  go_wp2_with fail
  refine wp_scope_straight ?_
  go_wp2_with fail
  refine wp_label ?_
  go_wp2_with fail
  have hz := heap_alloc_new w (.cells #[.string wO, .string wX, .string wS] 44)
  have hB := below_alloc (Below.refl w.heap.size w) (.cells #[.string wO, .string wX, .string wS] 44)
  obtain ⟨z, hz'⟩ : ∃ z, z = w.heap.size := ⟨_, rfl⟩
  rw [← hz'] at hz
  have HW := Aside0.mk hz'
  rw [← hz']
  clear hz'
  generalize w.alloc _ = w1 at hz hB ⊢
  go_loopw [10] (fun v10 wr => ∃ i : Nat, i ≤ s.size ∧ v10 = .int .i64 (i : Int) ∧ Aside0 (∀ q, q < i → loudAt s q = false) ∧ Aside0 (wr.heap[z]? = some (.cells #[.string wO, .string wX, .string wS] 44 (0, 0))) ∧ Aside0 (Below w.heap.size w wr)) (fun v10 _ => s.size - (intOf v10).toNat)
  case atStart => exact ⟨0, Nat.zero_le _, rfl, ⟨fun q hq => absurd hq (Nat.not_lt_zero q)⟩, ⟨hz⟩, ⟨hB⟩⟩
  case round =>
    obtain ⟨i, hi, rfl, HI, HZ, HB⟩ := hrel
    clear hz hB
    by_cases hlt : i < s.size
    · have r1 : decide ((i : Int) < (s.size : Int)) = true := decide_eq_true (by omega)
      obtain ⟨x, hx⟩ : ∃ x : Int, (s[i].toNat : Int) = x := ⟨_, rfl⟩
      by_cases hpre : x ≠ 111 ∧ x ≠ 120 ∧ x ≠ 115
      · have n1 : (x != 111) = true := bne_iff_ne.2 hpre.1
        have n2 : (x != 120) = true := bne_iff_ne.2 hpre.2.1
        have n3 : (x != 115) = true := bne_iff_ne.2 hpre.2.2
        have hno := Aside0.mk (loudAt_first hlt x hx hpre.1 hpre.2.1 hpre.2.2)
        clear hpre
        go_wp2_with fail
        go_roundw
        case rel => exact ⟨i + 1, by omega, by go_num, ⟨fun q hq => by
          rcases Nat.lt_or_ge q i with h | h
          · exact HI.out q h
          · obtain rfl : q = i := by omega
            exact hno.out⟩, HZ, HB⟩
        case measure => simp [intOf]; omega
      · have hc3 : x = 111 ∨ x = 120 ∨ x = 115 := by omega
        clear hpre
        rcases hc3 with rfl | rfl | rfl
        · have c0 : wr.cell? ⟨z, 0, none⟩ = some (.string wO) := blk_cell HZ.out 0
          have c1 : wr.cell? ⟨z, 1, none⟩ = some (.string wX) := blk_cell HZ.out 1
          have c2 : wr.cell? ⟨z, 2, none⟩ = some (.string wS) := blk_cell HZ.out 2
          go_wp2_with fail
          go_loopw [30] (fun v30 ws => ∃ j : Nat, j ≤ 3 ∧ v30 = .int .i64 (j : Int) ∧ Aside0 (∀ q, q < j → preB (s.extract i s.size) (wordN q) = false) ∧ Aside0 (wr = ws)) (fun v30 _ => 3 - (intOf v30).toNat)
          case atStart => exact ⟨0, Nat.zero_le _, rfl, ⟨fun q hq => absurd hq (Nat.not_lt_zero q)⟩, ⟨rfl⟩⟩
          case round =>
            obtain ⟨j, hj, rfl, HJ, HWS⟩ := hrel
            obtain rfl := HWS.out
            clear c0 c1 c2
            rcases (by omega : j = 0 ∨ j = 1 ∨ j = 2 ∨ j = 3) with rfl | rfl | rfl | rfl
            · have KH := Aside0.mk (fun W => hasp_calls (s.extract i s.size) wO W)
              have hix : ∀ W : World, (Instr.index 44 (.agg #[.string wO, .string wX, .string wS]) (.int .i64 0)).run Tryz.prog W = .ok (.string wO) W := fun W => index_words W 0 (by omega)
              by_cases hb : preB (s.extract i s.size) wO = true
              · rw [hb] at KH
                have hr : loudB s = true := loud_t hlt (by unfold loudAt; simp [hb])
                rw [hr] at HR
                clear hb hr
                have HR2 := HR.out
                subst HR2
                go_wp2_with (first | (go_at_call 23; (with_reducible refine (KH.out _).mono ?_); rintro e w1 ⟨rfl, rfl⟩))
                repeat (rw [Exit.noGoto_ret])
                show bodyPost _ _ _ _ _ _
                go_ret
                exact ⟨rfl, HB.out⟩
              · rw [Bool.eq_false_iff.2 hb] at KH
                have hb2 := Bool.eq_false_iff.2 hb
                go_wp2_with (first | (go_at_call 23; (with_reducible refine (KH.out _).mono ?_); rintro e w1 ⟨rfl, rfl⟩))
                go_roundw
                case rel => exact ⟨1, by omega, rfl, ⟨fun q hq => by
                  rcases (by omega : q < 0 ∨ q = 0 ∨ q = 1 ∨ q = 2) with h | rfl | rfl | rfl <;> first | omega | exact hb2 | exact HJ.out _ (by omega)⟩, ⟨by first | rfl | trivial⟩⟩
                case measure => simp [intOf]
            · have KH := Aside0.mk (fun W => hasp_calls (s.extract i s.size) wX W)
              have hix : ∀ W : World, (Instr.index 44 (.agg #[.string wO, .string wX, .string wS]) (.int .i64 1)).run Tryz.prog W = .ok (.string wX) W := fun W => index_words W 1 (by omega)
              by_cases hb : preB (s.extract i s.size) wX = true
              · rw [hb] at KH
                have hr : loudB s = true := loud_t hlt (by unfold loudAt; simp [hb])
                rw [hr] at HR
                clear hb hr
                have HR2 := HR.out
                subst HR2
                go_wp2_with (first | (go_at_call 23; (with_reducible refine (KH.out _).mono ?_); rintro e w1 ⟨rfl, rfl⟩))
                repeat (rw [Exit.noGoto_ret])
                show bodyPost _ _ _ _ _ _
                go_ret
                exact ⟨rfl, HB.out⟩
              · rw [Bool.eq_false_iff.2 hb] at KH
                have hb2 := Bool.eq_false_iff.2 hb
                go_wp2_with (first | (go_at_call 23; (with_reducible refine (KH.out _).mono ?_); rintro e w1 ⟨rfl, rfl⟩))
                go_roundw
                case rel => exact ⟨2, by omega, rfl, ⟨fun q hq => by
                  rcases (by omega : q < 0 ∨ q = 0 ∨ q = 1 ∨ q = 2) with h | rfl | rfl | rfl <;> first | omega | exact hb2 | exact HJ.out _ (by omega)⟩, ⟨by first | rfl | trivial⟩⟩
                case measure => simp [intOf]
            · have KH := Aside0.mk (fun W => hasp_calls (s.extract i s.size) wS W)
              have hix : ∀ W : World, (Instr.index 44 (.agg #[.string wO, .string wX, .string wS]) (.int .i64 2)).run Tryz.prog W = .ok (.string wS) W := fun W => index_words W 2 (by omega)
              by_cases hb : preB (s.extract i s.size) wS = true
              · rw [hb] at KH
                have hr : loudB s = true := loud_t hlt (by unfold loudAt; simp [hb])
                rw [hr] at HR
                clear hb hr
                have HR2 := HR.out
                subst HR2
                go_wp2_with (first | (go_at_call 23; (with_reducible refine (KH.out _).mono ?_); rintro e w1 ⟨rfl, rfl⟩))
                repeat (rw [Exit.noGoto_ret])
                show bodyPost _ _ _ _ _ _
                go_ret
                exact ⟨rfl, HB.out⟩
              · rw [Bool.eq_false_iff.2 hb] at KH
                have hb2 := Bool.eq_false_iff.2 hb
                go_wp2_with (first | (go_at_call 23; (with_reducible refine (KH.out _).mono ?_); rintro e w1 ⟨rfl, rfl⟩))
                go_roundw
                case rel => exact ⟨3, by omega, rfl, ⟨fun q hq => by
                  rcases (by omega : q < 0 ∨ q = 0 ∨ q = 1 ∨ q = 2) with h | rfl | rfl | rfl <;> first | omega | exact hb2 | exact HJ.out _ (by omega)⟩, ⟨by first | rfl | trivial⟩⟩
                case measure => simp [intOf]
            · have hno := Aside0.mk (loudAt_words HJ.out)
              go_wp2_with fail
              go_roundw
              case rel => exact ⟨i + 1, by omega, by go_num, ⟨fun q hq => by
                rcases Nat.lt_or_ge q i with h | h
                · exact HI.out q h
                · obtain rfl : q = i := by omega
                  exact hno.out⟩, HZ, HB⟩
              case measure => simp [intOf]; omega
        · have c0 : wr.cell? ⟨z, 0, none⟩ = some (.string wO) := blk_cell HZ.out 0
          have c1 : wr.cell? ⟨z, 1, none⟩ = some (.string wX) := blk_cell HZ.out 1
          have c2 : wr.cell? ⟨z, 2, none⟩ = some (.string wS) := blk_cell HZ.out 2
          go_wp2_with fail
          go_loopw [30] (fun v30 ws => ∃ j : Nat, j ≤ 3 ∧ v30 = .int .i64 (j : Int) ∧ Aside0 (∀ q, q < j → preB (s.extract i s.size) (wordN q) = false) ∧ Aside0 (wr = ws)) (fun v30 _ => 3 - (intOf v30).toNat)
          case atStart => exact ⟨0, Nat.zero_le _, rfl, ⟨fun q hq => absurd hq (Nat.not_lt_zero q)⟩, ⟨rfl⟩⟩
          case round =>
            obtain ⟨j, hj, rfl, HJ, HWS⟩ := hrel
            obtain rfl := HWS.out
            clear c0 c1 c2
            rcases (by omega : j = 0 ∨ j = 1 ∨ j = 2 ∨ j = 3) with rfl | rfl | rfl | rfl
            · have KH := Aside0.mk (fun W => hasp_calls (s.extract i s.size) wO W)
              have hix : ∀ W : World, (Instr.index 44 (.agg #[.string wO, .string wX, .string wS]) (.int .i64 0)).run Tryz.prog W = .ok (.string wO) W := fun W => index_words W 0 (by omega)
              by_cases hb : preB (s.extract i s.size) wO = true
              · rw [hb] at KH
                have hr : loudB s = true := loud_t hlt (by unfold loudAt; simp [hb])
                rw [hr] at HR
                clear hb hr
                have HR2 := HR.out
                subst HR2
                go_wp2_with (first | (go_at_call 23; (with_reducible refine (KH.out _).mono ?_); rintro e w1 ⟨rfl, rfl⟩))
                repeat (rw [Exit.noGoto_ret])
                show bodyPost _ _ _ _ _ _
                go_ret
                exact ⟨rfl, HB.out⟩
              · rw [Bool.eq_false_iff.2 hb] at KH
                have hb2 := Bool.eq_false_iff.2 hb
                go_wp2_with (first | (go_at_call 23; (with_reducible refine (KH.out _).mono ?_); rintro e w1 ⟨rfl, rfl⟩))
                go_roundw
                case rel => exact ⟨1, by omega, rfl, ⟨fun q hq => by
                  rcases (by omega : q < 0 ∨ q = 0 ∨ q = 1 ∨ q = 2) with h | rfl | rfl | rfl <;> first | omega | exact hb2 | exact HJ.out _ (by omega)⟩, ⟨by first | rfl | trivial⟩⟩
                case measure => simp [intOf]
            · have KH := Aside0.mk (fun W => hasp_calls (s.extract i s.size) wX W)
              have hix : ∀ W : World, (Instr.index 44 (.agg #[.string wO, .string wX, .string wS]) (.int .i64 1)).run Tryz.prog W = .ok (.string wX) W := fun W => index_words W 1 (by omega)
              by_cases hb : preB (s.extract i s.size) wX = true
              · rw [hb] at KH
                have hr : loudB s = true := loud_t hlt (by unfold loudAt; simp [hb])
                rw [hr] at HR
                clear hb hr
                have HR2 := HR.out
                subst HR2
                go_wp2_with (first | (go_at_call 23; (with_reducible refine (KH.out _).mono ?_); rintro e w1 ⟨rfl, rfl⟩))
                repeat (rw [Exit.noGoto_ret])
                show bodyPost _ _ _ _ _ _
                go_ret
                exact ⟨rfl, HB.out⟩
              · rw [Bool.eq_false_iff.2 hb] at KH
                have hb2 := Bool.eq_false_iff.2 hb
                go_wp2_with (first | (go_at_call 23; (with_reducible refine (KH.out _).mono ?_); rintro e w1 ⟨rfl, rfl⟩))
                go_roundw
                case rel => exact ⟨2, by omega, rfl, ⟨fun q hq => by
                  rcases (by omega : q < 0 ∨ q = 0 ∨ q = 1 ∨ q = 2) with h | rfl | rfl | rfl <;> first | omega | exact hb2 | exact HJ.out _ (by omega)⟩, ⟨by first | rfl | trivial⟩⟩
                case measure => simp [intOf]
            · have KH := Aside0.mk (fun W => hasp_calls (s.extract i s.size) wS W)
              have hix : ∀ W : World, (Instr.index 44 (.agg #[.string wO, .string wX, .string wS]) (.int .i64 2)).run Tryz.prog W = .ok (.string wS) W := fun W => index_words W 2 (by omega)
              by_cases hb : preB (s.extract i s.size) wS = true
              · rw [hb] at KH
                have hr : loudB s = true := loud_t hlt (by unfold loudAt; simp [hb])
                rw [hr] at HR
                clear hb hr
                have HR2 := HR.out
                subst HR2
                go_wp2_with (first | (go_at_call 23; (with_reducible refine (KH.out _).mono ?_); rintro e w1 ⟨rfl, rfl⟩))
                repeat (rw [Exit.noGoto_ret])
                show bodyPost _ _ _ _ _ _
                go_ret
                exact ⟨rfl, HB.out⟩
              · rw [Bool.eq_false_iff.2 hb] at KH
                have hb2 := Bool.eq_false_iff.2 hb
                go_wp2_with (first | (go_at_call 23; (with_reducible refine (KH.out _).mono ?_); rintro e w1 ⟨rfl, rfl⟩))
                go_roundw
                case rel => exact ⟨3, by omega, rfl, ⟨fun q hq => by
                  rcases (by omega : q < 0 ∨ q = 0 ∨ q = 1 ∨ q = 2) with h | rfl | rfl | rfl <;> first | omega | exact hb2 | exact HJ.out _ (by omega)⟩, ⟨by first | rfl | trivial⟩⟩
                case measure => simp [intOf]
            · have hno := Aside0.mk (loudAt_words HJ.out)
              go_wp2_with fail
              go_roundw
              case rel => exact ⟨i + 1, by omega, by go_num, ⟨fun q hq => by
                rcases Nat.lt_or_ge q i with h | h
                · exact HI.out q h
                · obtain rfl : q = i := by omega
                  exact hno.out⟩, HZ, HB⟩
              case measure => simp [intOf]; omega
        · have c0 : wr.cell? ⟨z, 0, none⟩ = some (.string wO) := blk_cell HZ.out 0
          have c1 : wr.cell? ⟨z, 1, none⟩ = some (.string wX) := blk_cell HZ.out 1
          have c2 : wr.cell? ⟨z, 2, none⟩ = some (.string wS) := blk_cell HZ.out 2
          go_wp2_with fail
          go_loopw [30] (fun v30 ws => ∃ j : Nat, j ≤ 3 ∧ v30 = .int .i64 (j : Int) ∧ Aside0 (∀ q, q < j → preB (s.extract i s.size) (wordN q) = false) ∧ Aside0 (wr = ws)) (fun v30 _ => 3 - (intOf v30).toNat)
          case atStart => exact ⟨0, Nat.zero_le _, rfl, ⟨fun q hq => absurd hq (Nat.not_lt_zero q)⟩, ⟨rfl⟩⟩
          case round =>
            obtain ⟨j, hj, rfl, HJ, HWS⟩ := hrel
            obtain rfl := HWS.out
            clear c0 c1 c2
            rcases (by omega : j = 0 ∨ j = 1 ∨ j = 2 ∨ j = 3) with rfl | rfl | rfl | rfl
            · have KH := Aside0.mk (fun W => hasp_calls (s.extract i s.size) wO W)
              have hix : ∀ W : World, (Instr.index 44 (.agg #[.string wO, .string wX, .string wS]) (.int .i64 0)).run Tryz.prog W = .ok (.string wO) W := fun W => index_words W 0 (by omega)
              by_cases hb : preB (s.extract i s.size) wO = true
              · rw [hb] at KH
                have hr : loudB s = true := loud_t hlt (by unfold loudAt; simp [hb])
                rw [hr] at HR
                clear hb hr
                have HR2 := HR.out
                subst HR2
                go_wp2_with (first | (go_at_call 23; (with_reducible refine (KH.out _).mono ?_); rintro e w1 ⟨rfl, rfl⟩))
                repeat (rw [Exit.noGoto_ret])
                show bodyPost _ _ _ _ _ _
                go_ret
                exact ⟨rfl, HB.out⟩
              · rw [Bool.eq_false_iff.2 hb] at KH
                have hb2 := Bool.eq_false_iff.2 hb
                go_wp2_with (first | (go_at_call 23; (with_reducible refine (KH.out _).mono ?_); rintro e w1 ⟨rfl, rfl⟩))
                go_roundw
                case rel => exact ⟨1, by omega, rfl, ⟨fun q hq => by
                  rcases (by omega : q < 0 ∨ q = 0 ∨ q = 1 ∨ q = 2) with h | rfl | rfl | rfl <;> first | omega | exact hb2 | exact HJ.out _ (by omega)⟩, ⟨by first | rfl | trivial⟩⟩
                case measure => simp [intOf]
            · have KH := Aside0.mk (fun W => hasp_calls (s.extract i s.size) wX W)
              have hix : ∀ W : World, (Instr.index 44 (.agg #[.string wO, .string wX, .string wS]) (.int .i64 1)).run Tryz.prog W = .ok (.string wX) W := fun W => index_words W 1 (by omega)
              by_cases hb : preB (s.extract i s.size) wX = true
              · rw [hb] at KH
                have hr : loudB s = true := loud_t hlt (by unfold loudAt; simp [hb])
                rw [hr] at HR
                clear hb hr
                have HR2 := HR.out
                subst HR2
                go_wp2_with (first | (go_at_call 23; (with_reducible refine (KH.out _).mono ?_); rintro e w1 ⟨rfl, rfl⟩))
                repeat (rw [Exit.noGoto_ret])
                show bodyPost _ _ _ _ _ _
                go_ret
                exact ⟨rfl, HB.out⟩
              · rw [Bool.eq_false_iff.2 hb] at KH
                have hb2 := Bool.eq_false_iff.2 hb
                go_wp2_with (first | (go_at_call 23; (with_reducible refine (KH.out _).mono ?_); rintro e w1 ⟨rfl, rfl⟩))
                go_roundw
                case rel => exact ⟨2, by omega, rfl, ⟨fun q hq => by
                  rcases (by omega : q < 0 ∨ q = 0 ∨ q = 1 ∨ q = 2) with h | rfl | rfl | rfl <;> first | omega | exact hb2 | exact HJ.out _ (by omega)⟩, ⟨by first | rfl | trivial⟩⟩
                case measure => simp [intOf]
            · have KH := Aside0.mk (fun W => hasp_calls (s.extract i s.size) wS W)
              have hix : ∀ W : World, (Instr.index 44 (.agg #[.string wO, .string wX, .string wS]) (.int .i64 2)).run Tryz.prog W = .ok (.string wS) W := fun W => index_words W 2 (by omega)
              by_cases hb : preB (s.extract i s.size) wS = true
              · rw [hb] at KH
                have hr : loudB s = true := loud_t hlt (by unfold loudAt; simp [hb])
                rw [hr] at HR
                clear hb hr
                have HR2 := HR.out
                subst HR2
                go_wp2_with (first | (go_at_call 23; (with_reducible refine (KH.out _).mono ?_); rintro e w1 ⟨rfl, rfl⟩))
                repeat (rw [Exit.noGoto_ret])
                show bodyPost _ _ _ _ _ _
                go_ret
                exact ⟨rfl, HB.out⟩
              · rw [Bool.eq_false_iff.2 hb] at KH
                have hb2 := Bool.eq_false_iff.2 hb
                go_wp2_with (first | (go_at_call 23; (with_reducible refine (KH.out _).mono ?_); rintro e w1 ⟨rfl, rfl⟩))
                go_roundw
                case rel => exact ⟨3, by omega, rfl, ⟨fun q hq => by
                  rcases (by omega : q < 0 ∨ q = 0 ∨ q = 1 ∨ q = 2) with h | rfl | rfl | rfl <;> first | omega | exact hb2 | exact HJ.out _ (by omega)⟩, ⟨by first | rfl | trivial⟩⟩
                case measure => simp [intOf]
            · have hno := Aside0.mk (loudAt_words HJ.out)
              go_wp2_with fail
              go_roundw
              case rel => exact ⟨i + 1, by omega, by go_num, ⟨fun q hq => by
                rcases Nat.lt_or_ge q i with h | h
                · exact HI.out q h
                · obtain rfl : q = i := by omega
                  exact hno.out⟩, HZ, HB⟩
              case measure => simp [intOf]; omega
    · have r1 : decide ((i : Int) < (s.size : Int)) = false := decide_eq_false (by omega)
      obtain rfl : i = s.size := by omega
      have hr := loud_f HI.out
      have hR := HR.out
      rw [hr] at hR
      subst hR
      clear HR hr
      go_wp2_with fail
      repeat (rw [Exit.noGoto_ret])
      show bodyPost _ _ _ _ _ _
      go_ret
      exact ⟨rfl, HB.out⟩
end Go.Proofs.YtghoifkaikddlaaGreat.Hand
