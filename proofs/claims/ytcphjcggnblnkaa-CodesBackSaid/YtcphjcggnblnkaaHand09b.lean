/- Codes: what is left, the first numbers; walked by hand. -/
import Derived.Test.YtcphjcggnblnkaaHand09
import Derived.Handy
namespace Go.Proofs.Ytcphjcggnblnkaa.Hand
open Go.RowKit Go.Proofs.YtcphjcggnblnkaaW.PrintWords Go.Proofs.YtcphjcggnblnkaaW.PrintLast Go.Proofs.YtcphjcggnblnkaaW.PrintMore Go.Proofs.Ytcphjcggnblnkaa.Num
set_option linter.unusedVariables false
set_option linter.unusedSimpArgs false
def leftG : List Int → Int → Int
  | [], x => x
  | c :: t, x => if 2 * x - c < 0 then -1 else leftG t (2 * x - c)
def leftF (cs : List Int) : Int := leftG (cs.drop 1) 1
theorem leftG_drop (cs : List Int) (n : Nat) (h : n < cs.length) (x : Int) : leftG (cs.drop n) x = if 2 * x - cs.getD n 0 < 0 then -1 else leftG (cs.drop (n + 1)) (2 * x - cs.getD n 0) := by
  rw [List.drop_eq_getElem_cons h, leftG, List.getD_eq_getElem?_getD, List.getElem?_eq_getElem h]; rfl
theorem nums_at (cs : List Int) (m : Nat) (h : m < cs.length) : (nums .i64 cs).toArray[m]? = some (.int .i64 (cs.getD m 0)) := by
  rw [List.getD_eq_getElem?_getD]; simp [nums, List.getElem?_eq_getElem h]
theorem getD_rng9 {cs : List Int} {a b : Int} (hr : ∀ x ∈ cs, a ≤ x ∧ x ≤ b) (m : Nat) (h : m < cs.length) : a ≤ cs.getD m 0 ∧ cs.getD m 0 ≤ b := by
  rw [List.getD_eq_getElem?_getD, List.getElem?_eq_getElem h]
  exact hr _ (List.getElem_mem _)
set_option maxRecDepth 100000 in
set_option maxHeartbeats 4000000 in
theorem left_calls (cs : List Int) (hl : cs.length = 16) (hr : ∀ x ∈ cs, 0 ≤ x ∧ x ≤ 320) (w : World) :
    Calls Try.prog 48 #[.agg (nums .i64 cs).toArray] w fun e w' => e = .returned (.int .i64 (leftF cs)) ∧ Below w.heap.size w w' := by
  have HL := Aside0.mk hl
  have HR := Aside0.mk hr
  have hn16 : (nums .i64 cs).length = 16 := by rw [nums_length]; exact hl
  clear hl hr
  go_enter Try.func48, Try.ntmps48
  go_wp2_with fail
  obtain ⟨g, hg⟩ : ∃ g, g = w.heap.size := ⟨_, rfl⟩
  go_loopw [3, 4] (fun v3 v4 wr => ∃ (n : Nat) (x : Int), v3 = .int .i64 x ∧ v4 = .int .i64 n ∧ 1 ≤ n ∧ n ≤ 16 ∧ 0 ≤ x ∧ Aside0 (x ≤ 2 ^ (n - 1)) ∧ Aside0 (leftG (cs.drop n) x = leftF cs) ∧ Aside0 (wr.heap[w.heap.size]? = some (.cells (nums .i64 cs).toArray 80 (0, 0)) ∧ Below w.heap.size w wr)) (fun _ v4 _ => 16 - (intOf v4).toNat)
  case atStart => exact ⟨1, 1, rfl, rfl, by omega, by omega, by omega, ⟨by decide⟩, ⟨rfl⟩, ⟨heap_alloc_new _ _, below_alloc (Below.refl _ _) _⟩⟩
  case round =>
    obtain ⟨n, x, rfl, rfl, hn1, hn2, hx0, HX, HG, HW⟩ := hrel
    by_cases hlt : n ≤ 15
    · have q1 : decide ((n : Int) ≤ 15) = true := decide_eq_true (by omega)
      have q1n : decide (n ≤ 15) = true := decide_eq_true hlt
      have hcl := HL.out
      have hy := getD_rng9 HR.out n (by omega)
      have hy2 := nums_at cs n (by omega)
      have hd := leftG_drop cs n (by omega) x
      have hp2 : (2 : Int) ^ (n - 1) ≤ 2 ^ 14 := by
        have := Nat.pow_le_pow_right (show 0 < 2 by decide) (show n - 1 ≤ 14 by omega)
        exact_mod_cast this
      have hx2 : x ≤ 16384 := by have := HX.out; omega
      obtain ⟨y, hyy⟩ : ∃ y, y = cs.getD n 0 := ⟨_, rfl⟩
      rw [← hyy] at hy hy2 hd
      have d1 : wr.cell? ⟨w.heap.size, n, none⟩ = some (.int .i64 y) := (blk_cell HW.out.1 n).trans hy2
      rw [HG.out] at hd
      have HD := Aside0.mk hd
      clear hy2 hd hp2 hyy hcl HG
      by_cases hneg : 2 * x - y < 0
      · have q2 : decide (2 * x - y < 0) = true := decide_eq_true hneg
        go_wp2_with fail
        go_returns
        exact ⟨by rw [HD.out, if_pos hneg]; rfl, HW.out.2⟩
      · have q2 : decide (2 * x - y < 0) = false := decide_eq_false hneg
        go_wp2_with fail
        go_roundw
        case rel =>
          refine ⟨n + 1, 2 * x - y, by go_num, by go_num, by omega, by omega, by omega, ⟨?_⟩, ⟨by rw [HD.out, if_neg hneg]⟩, HW⟩
          have e : (2 : Int) ^ (n + 1 - 1) = 2 * 2 ^ (n - 1) := by
            rw [show n + 1 - 1 = (n - 1) + 1 by omega, Int.pow_succ']
          have := HX.out
          rw [e]; omega
        case measure => simp [intOf]; omega
    · have q1 : decide ((n : Int) ≤ 15) = false := decide_eq_false (by omega)
      have q1n : decide (n ≤ 15) = false := decide_eq_false hlt
      obtain rfl : n = 16 := by omega
      have hG := HG.out
      rw [List.drop_eq_nil_of_le (by rw [HL.out]; omega), leftG] at hG
      have HGG := Aside0.mk hG
      clear hG
      go_wp2_with fail
      go_returns
      exact ⟨by rw [HGG.out]; rfl, HW.out.2⟩
theorem cntE_cases (l : List Int) : cntE l = 0 ∨ cntE l = 2 ∨ cntE l = 3 := by
  unfold cntE
  by_cases h : 320 < l.length
  · rw [if_pos h]; exact .inr (.inl rfl)
  · rw [if_neg h]
    split
    · exact .inl rfl
    · exact .inr (.inr rfl)
theorem cntL_length (l : List Int) : (cntL l).length = 16 := by
  unfold cntL; split
  · rw [List.length_set, cntS_length]; rfl
  · rfl
theorem cntL_range (l : List Int) : ∀ x ∈ cntL l, 0 ≤ x ∧ x ≤ 320 := by
  unfold cntL; split
  · rename_i h
    have hl : l.length ≤ 320 := by
      unfold cntE at h; split at h
      · cases h
      · omega
    intro x hx
    rcases List.mem_or_eq_of_mem_set hx with hx | rfl
    · have := cntS_range l zeros 0 (by unfold zeros; simp) (by omega) x hx; omega
    · omega
  · unfold zeros; simp
end Go.Proofs.Ytcphjcggnblnkaa.Hand
