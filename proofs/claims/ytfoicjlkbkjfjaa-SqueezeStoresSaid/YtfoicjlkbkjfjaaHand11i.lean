/- Squeeze: a new coder; walked by hand. -/
import Derived.Test.YtfoicjlkbkjfjaaHand11h
namespace Go.Proofs.Ytfoicjlkbkjfjaa.Hand
open Go.RowKit Go.Proofs.YtfoicjlkbkjfjaaW.PrintWords Go.Proofs.YtfoicjlkbkjfjaaW.PrintLast Go.Proofs.YtfoicjlkbkjfjaaW.PrintMore Go.Proofs.Ytfoicjlkbkjfjaa.Num Go.Proofs.Ytfoicjlkbkjfjaa.Bits
set_option linter.unusedVariables false
set_option linter.unusedSimpArgs false
theorem s_reads_blk {w : World} {g : Nat} {t : TypeId} {cs : List Int} (h : w.heap[g]? = some (.cells (nums .i64 cs).toArray t (0, 0))) (hl : cs.length ≤ 9223372036854775807) : ReadsInt w .i64 (some ⟨g, 0, none⟩) cs.length cs :=
  ⟨rfl, hl, fun _ => ⟨_, rfl, fun j hj => by rw [Addr.add_lit, Nat.zero_add]; exact (blk_cell h j).trans (nums_at cs j hj)⟩⟩
theorem s_fixLit_at : ∀ i, i < 288 → fixLit.getD i 0 = if i < 144 ∨ 280 ≤ i then 8 else if i < 256 then 9 else 7 := by
  have h : (List.range 288).all (fun i => decide (fixLit.getD i 0 = if i < 144 ∨ 280 ≤ i then 8 else if i < 256 then 9 else 7)) = true := by decide +kernel
  intro i hi
  simpa using List.all_eq_true.1 h i (List.mem_range.2 hi)
/-- The first so many, the others 0. -/
def supto (l : List Int) (n i : Nat) : List Int := l.take i ++ List.replicate (n - i) 0
theorem s_upto_length (l : List Int) (n i : Nat) (hl : l.length = n) (hi : i ≤ n) : (supto l n i).length = n := by rw [supto, List.length_append, List.length_take, List.length_replicate]; omega
theorem s_upto_set (l : List Int) (n i : Nat) (hl : l.length = n) (hi : i < n) : (supto l n i).set i (l.getD i 0) = supto l n (i + 1) := by
  unfold supto
  rw [List.set_append_right _ _ (by rw [List.length_take]; omega), List.length_take, show i - min i l.length = 0 by omega, show n - i = (n - (i + 1)) + 1 by omega, List.replicate_succ, List.set_cons_zero, take_succ9 l i (by omega), List.append_assoc]
  rfl
theorem coder_wr {W : World} {B g : Nat} {p1 p2 : Value} (hb : W.heap[g]? = some (.cells #[.int .i64 0, .int .i64 0, .slice none 0 0, p1, p2] 46 (0, 0))) : WrAt W B g 46 [p1, p2] [] :=
  ⟨0, 0, _, [], hb, Row.nil _ _ _ _, Held.nil⟩
set_option maxRecDepth 100000 in
set_option maxHeartbeats 4000000 in
theorem newCoder_calls (w : World) : Calls Try.prog 23 #[] w fun e w' => ∃ g nt at_, e = .returned (.pointer (some ⟨g, 0, none⟩)) ∧ w.heap.size ≤ g ∧ CoderAt w' w.heap.size g nt at_ [] ∧ Below w.heap.size w w' := by
  go_enter Try.func23, Try.ntmps23
  go_wp2_with fail
  obtain ⟨a, ha⟩ : ∃ a, a = w.heap.size := ⟨_, rfl⟩
  generalize hW : World.alloc w _ = W1
  have hb1 : Below w.heap.size w W1 := by rw [← hW]; exact below_alloc (Below.refl _ _) _
  have hA : W1.heap[a]? = some (.cells (nums .i64 (supto fixLit 288 0)).toArray 83 (0, 0)) := by rw [← hW, ha]; exact heap_alloc_new w _
  have H1 : Aside0 (_ ∧ _) := ⟨hA, hb1⟩
  have hga : w.heap.size ≤ a := by omega
  rw [← ha]
  clear hW hA hb1 ha
  go_loopw [6] (fun v11 wr => ∃ (i : Nat), v11 = .int .i64 i ∧ i ≤ 288 ∧ Aside0 (wr.heap[a]? = some (.cells (nums .i64 (supto fixLit 288 i)).toArray 83 (0, 0)) ∧ Below w.heap.size w wr)) (fun v11 _ => 288 - (intOf v11).toNat)
  case atStart => exact ⟨0, rfl, by omega, H1⟩
  case round =>
    clear H1
    obtain ⟨i, rfl, hi, HW⟩ := hrel
    by_cases hlt : i < 288
    · have q1 : decide ((i : Int) < 288) = true := decide_eq_true (by omega)
      have q1n : decide (i < 288) = true := decide_eq_true hlt
      have hfl : fixLit.length = 288 := by decide +kernel
      have hul := s_upto_length fixLit 288 i hfl hi
      have hus := s_upto_set fixLit 288 i hfl hlt
      rw [s_fixLit_at i hlt] at hus
      obtain ⟨cs, hcs⟩ : ∃ cs, cs = supto fixLit 288 i := ⟨_, rfl⟩
      rw [← hcs] at hul hus HW
      have d1 : wr.cell? ⟨a, i, none⟩ = some (.int .i64 (cs.getD i 0)) := (blk_cell HW.out.1 i).trans (nums_at cs i (by omega))
      have d2 := blk_frozen HW.out.1 i
      have hix0 : (0 : Int) ≤ (i : Int) := by omega
      have hix1 : (i : Int) < 288 := by omega
      clear hcs hul hfl
      by_cases h144 : i < 144
      · have r1 : decide ((i : Int) < 144) = true := decide_eq_true (by omega)
        have r1n : decide (i < 144) = true := decide_eq_true h144
        rw [if_pos (.inl h144)] at hus
        have HU := Aside0.mk hus
        clear hus
        go_wp2_with fail
        go_roundw
        case rel => exact ⟨i + 1, by go_num, by omega, by rw [← HU.out]; refine (blk_set HW.out.1 i _).trans ?_; simp [nums, List.map_set], HW.out.2.setCell (p := ⟨a, i, none⟩) hga _⟩
        case measure => simp [intOf]; omega
      · have r1 : decide ((i : Int) < 144) = false := decide_eq_false (by omega)
        have r1n : decide (i < 144) = false := decide_eq_false h144
        by_cases h280 : 280 ≤ i
        · have r2 : decide (280 ≤ (i : Int)) = true := decide_eq_true (by omega)
          have r2n : decide (280 ≤ i) = true := decide_eq_true h280
          rw [if_pos (.inr h280)] at hus
          have HU := Aside0.mk hus
          clear hus
          go_wp2_with fail
          go_roundw
          case rel => exact ⟨i + 1, by go_num, by omega, by rw [← HU.out]; refine (blk_set HW.out.1 i _).trans ?_; simp [nums, List.map_set], HW.out.2.setCell (p := ⟨a, i, none⟩) hga _⟩
          case measure => simp [intOf]; omega
        · have r2 : decide (280 ≤ (i : Int)) = false := decide_eq_false (by omega)
          have r2n : decide (280 ≤ i) = false := decide_eq_false h280
          rw [if_neg (by omega)] at hus
          by_cases h256 : i < 256
          · have r3 : decide ((i : Int) < 256) = true := decide_eq_true (by omega)
            have r3n : decide (i < 256) = true := decide_eq_true h256
            rw [if_pos h256] at hus
            have HU := Aside0.mk hus
            clear hus
            go_wp2_with fail
            go_roundw
            case rel => exact ⟨i + 1, by go_num, by omega, by rw [← HU.out]; refine (blk_set HW.out.1 i _).trans ?_; simp [nums, List.map_set], HW.out.2.setCell (p := ⟨a, i, none⟩) hga _⟩
            case measure => simp [intOf]; omega
          · have r3 : decide ((i : Int) < 256) = false := decide_eq_false (by omega)
            have r3n : decide (i < 256) = false := decide_eq_false h256
            rw [if_neg h256] at hus
            have HU := Aside0.mk hus
            clear hus
            go_wp2_with fail
            go_roundw
            case rel => exact ⟨i + 1, by go_num, by omega, by rw [← HU.out]; refine (blk_set HW.out.1 i _).trans ?_; simp [nums, List.map_set], HW.out.2.setCell (p := ⟨a, i, none⟩) hga _⟩
            case measure => simp [intOf]; omega
    · have q1 : decide ((i : Int) < 288) = false := decide_eq_false (by omega)
      have q1n : decide (i < 288) = false := decide_eq_false hlt
      obtain rfl : i = 288 := by omega
      rw [show supto fixLit 288 288 = fixLit by decide +kernel] at HW
      obtain ⟨fl, hfl⟩ : ∃ fl, fl = fixLit := ⟨_, rfl⟩
      rw [← hfl] at HW ⊢
      have HFL := Aside0.mk hfl
      clear hfl hlt
      go_wp2_with fail
      obtain ⟨b, hb⟩ : ∃ b, b = wr.heap.size := ⟨_, rfl⟩
      generalize hW : World.alloc wr _ = W2
      have hb2 : Below wr.heap.size wr W2 := by rw [← hW]; exact below_alloc (Below.refl _ _) _
      have hA2 : W2.heap[b]? = some (.cells (nums .i64 (supto fixDist 32 0)).toArray 84 (0, 0)) := by rw [← hW, hb]; exact heap_alloc_new wr _
      have H2 : Aside0 (_ ∧ _ ∧ _) := ⟨blk_below HW.out.1 hb2, hA2, HW.out.2.trans (hb2.mono HW.out.2.size)⟩
      have hgb : w.heap.size ≤ b := by rw [hb]; exact HW.out.2.size
      have hab : a ≠ b := by have := blk_lt HW.out.1; omega
      rw [← hb]
      clear hW hA2 hb2 hb HW
      go_loopw [26] (fun v31 wr => ∃ (i : Nat), v31 = .int .i64 i ∧ i ≤ 32 ∧ Aside0 (wr.heap[a]? = some (.cells (nums .i64 fl).toArray 83 (0, 0)) ∧ wr.heap[b]? = some (.cells (nums .i64 (supto fixDist 32 i)).toArray 84 (0, 0)) ∧ Below w.heap.size w wr)) (fun v31 _ => 32 - (intOf v31).toNat)
      case atStart => exact ⟨0, rfl, by omega, H2⟩
      case round =>
        clear H2
        obtain ⟨i, rfl, hi, HW⟩ := hrel
        by_cases hlt : i < 32
        · have q1 : decide ((i : Int) < 32) = true := decide_eq_true (by omega)
          have q1n : decide (i < 32) = true := decide_eq_true hlt
          have hfl : fixDist.length = 32 := by decide +kernel
          have hul := s_upto_length fixDist 32 i hfl hi
          have hus := s_upto_set fixDist 32 i hfl hlt
          rw [show fixDist.getD i 0 = 5 by unfold fixDist; rw [List.getD_eq_getElem?_getD, List.getElem?_replicate, if_pos hlt]; rfl] at hus
          obtain ⟨cs, hcs⟩ : ∃ cs, cs = supto fixDist 32 i := ⟨_, rfl⟩
          rw [← hcs] at hul hus HW
          have d1 : wr.cell? ⟨b, i, none⟩ = some (.int .i64 (cs.getD i 0)) := (blk_cell HW.out.2.1 i).trans (nums_at cs i (by omega))
          have d2 := blk_frozen HW.out.2.1 i
          have hix0 : (0 : Int) ≤ (i : Int) := by omega
          have hix1 : (i : Int) < 32 := by omega
          have HU := Aside0.mk hus
          clear hcs hul hfl hus
          go_wp2_with fail
          go_roundw
          case rel => exact ⟨i + 1, by go_num, by omega, (heap_setCell_other _ _ _ _ (show a ≠ b from hab)).trans HW.out.1, by rw [← HU.out]; refine (blk_set HW.out.2.1 i _).trans ?_; simp [nums, List.map_set], HW.out.2.2.setCell (p := ⟨b, i, none⟩) hgb _⟩
          case measure => simp [intOf]; omega
        · have q1 : decide ((i : Int) < 32) = false := decide_eq_false (by omega)
          have q1n : decide (i < 32) = false := decide_eq_false hlt
          obtain rfl : i = 32 := by omega
          rw [show supto fixDist 32 32 = fixDist by decide +kernel] at HW
          obtain ⟨fd, hfd⟩ : ∃ fd, fd = fixDist := ⟨_, rfl⟩
          rw [← hfd] at HW ⊢
          have hll : fl.length = 288 := by rw [HFL.out]; decide +kernel
          have hdl : fd.length = 32 := by rw [hfd]; decide +kernel
          have hml : mayF fl = 0 := by rw [HFL.out]; exact fixl_may
          have hmd : mayF fd = 0 := by rw [hfd]; exact fixd_may
          have K1 := fun (W : World) (h : Below wr.heap.size wr W) => new_ok (some ⟨a, 0, none⟩) 288 fl W (s_reads_blk (blk_below HW.out.1 h) (by omega)) (by omega) hml
          have K2 := fun (W : World) (h : Below wr.heap.size wr W) => new_ok (some ⟨b, 0, none⟩) 32 fd W (s_reads_blk (blk_below HW.out.2.1 h) (by omega)) (by omega) hmd
          rw [hll] at K1
          rw [hdl] at K2
          have K1 := Aside0.mk K1
          have K2 := Aside0.mk K2
          have HFD := Aside0.mk hfd
          have HBw := Aside0.mk HW.out.2.2
          clear hll hdl hml hmd hfd hlt HW
          go_wp2_with fail
          have hg0 := blk_new wr (.cells #[.int .i64 0, .int .i64 0, .slice none 0 0, .pointer none, .pointer none] 46)
          have hB0 := below_alloc (Below.refl wr.heap.size wr) (.cells #[.int .i64 0, .int .i64 0, .slice none 0 0, .pointer none, .pointer none] 46)
          have hgw : w.heap.size ≤ wr.heap.size := HBw.out.size
          have hgs : wr.heap.size < (wr.alloc (.cells #[.int .i64 0, .int .i64 0, .slice none 0 0, .pointer none, .pointer none] 46)).heap.size := blk_lt hg0
          generalize (wr.alloc (.cells #[.int .i64 0, .int .i64 0, .slice none 0 0, .pointer none, .pointer none] 46)) = W3 at *
          refine (K1.out W3 hB0).mono ?_
          rintro e w1 ⟨ta, rfl, ht1, htb1, hb1⟩
          have hg1 := blk_below hg0 hb1
          have c3 : w1.cell? ⟨wr.heap.size, 3, none⟩ = some (.pointer none) := (blk_cell hg1 3).trans (by simp)
          have f3 := blk_frozen hg1 3
          have hB1 : Below wr.heap.size wr w1 := hB0.trans (hb1.mono hB0.size)
          have hT1 : Tr w1 w.heap.size ta fixLit := by rw [← HFL.out]; exact TreeAt.lower ht1 (by omega)
          have hW1 := coder_wr (B := w.heap.size) hg1
          have hF1 : Fr w1 (w1.setCell ⟨wr.heap.size, 3, none⟩ (.pointer (some ⟨ta, 0, none⟩))) (· = wr.heap.size) := (Fr.refl _ _).set1 3 _
          have hT2 : Tr (w1.setCell ⟨wr.heap.size, 3, none⟩ (.pointer (some ⟨ta, 0, none⟩))) w.heap.size ta fixLit := TreeAt.fr hT1 hW1 hF1.suOf coder_other
          have hg2 : (w1.setCell ⟨wr.heap.size, 3, none⟩ (.pointer (some ⟨ta, 0, none⟩))).heap[wr.heap.size]? = some (.cells #[.int .i64 0, .int .i64 0, .slice none 0 0, .pointer (some ⟨ta, 0, none⟩), .pointer none] 46 (0, 0)) := (blk_set hg1 3 _).trans (by simp)
          have hB2 : Below wr.heap.size wr (w1.setCell ⟨wr.heap.size, 3, none⟩ (.pointer (some ⟨ta, 0, none⟩))) := hB1.setCell (p := ⟨wr.heap.size, 3, none⟩) (Nat.le_refl _) _
          have H2 : Aside0 (_ ∧ _ ∧ _) := ⟨hT2, hg2, hB2⟩
          clear ht1 htb1 hb1 hg0 hB0 K1 hT1 hW1 hF1 hT2 hg2 hB2 hB1 hg1 hgs
          go_wp2_with fail
          refine (K2.out _ H2.out.2.2).mono ?_
          rintro e w2 ⟨tb, rfl, ht1, htb1, hb1⟩
          generalize (w1.setCell ⟨wr.heap.size, 3, none⟩ (.pointer (some ⟨ta, 0, none⟩))) = W4 at *
          have hg1 := blk_below H2.out.2.1 hb1
          have c4 : w2.cell? ⟨wr.heap.size, 4, none⟩ = some (.pointer none) := (blk_cell hg1 4).trans (by simp)
          have f4 := blk_frozen hg1 4
          have hB1 : Below wr.heap.size wr w2 := H2.out.2.2.trans (hb1.mono H2.out.2.2.size)
          have hTb : Tr w2 w.heap.size tb fixDist := by rw [← HFD.out]; exact TreeAt.lower ht1 (by have := blk_lt H2.out.2.1; omega)
          have hTa : Tr w2 w.heap.size ta fixLit := TreeAt.below H2.out.1 hb1
          have hW1 := coder_wr (B := w.heap.size) hg1
          have hF1 : Fr w2 (w2.setCell ⟨wr.heap.size, 4, none⟩ (.pointer (some ⟨tb, 0, none⟩))) (· = wr.heap.size) := (Fr.refl _ _).set1 4 _
          have HE : Aside0 (_ ∧ _) := ⟨(⟨coder_wr ((blk_set hg1 4 (.pointer (some ⟨tb, 0, none⟩))).trans (by simp)), TreeAt.fr hTa hW1 hF1.suOf coder_other, TreeAt.fr hTb hW1 hF1.suOf coder_other⟩ : CoderAt (w2.setCell ⟨wr.heap.size, 4, none⟩ (.pointer (some ⟨tb, 0, none⟩))) w.heap.size wr.heap.size ta tb []),
            HBw.out.trans ((hB1.setCell (p := ⟨wr.heap.size, 4, none⟩) (Nat.le_refl _) (.pointer (some ⟨tb, 0, none⟩))).mono HBw.out.size)⟩
          clear ht1 htb1 hb1 hg1 hTa hTb hW1 hF1 hB1 K2 H2 c3 f3
          go_wp2_with fail
          go_returns
          exact ⟨wr.heap.size, ta, tb, rfl, hgw, HE.out⟩
end Go.Proofs.Ytfoicjlkbkjfjaa.Hand
